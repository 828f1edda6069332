import Derived.Test.YtajadnlejdpceaaGreatProg
import Derived.Test.YtajadnlejdpceaaGreatTlRule
import Derived.Test.YtajadnlejdpceaaGreatTlU12
import Derived.WalkKit
set_option linter.unusedVariables false
set_option linter.unusedSimpArgs false
set_option maxRecDepth 100000
set_option maxHeartbeats 1000000
namespace Go.Proofs.YtajadnlejdpceaaGreat.Tw
open Go Go.TL Go.Proofs
def tab : List (Nat × TI) := [(2,⟨.int .i64,1,8,[.lit (.int .i64 0)]⟩),
  (3,⟨.int .i64,1,8,[.lit (.int .i64 0)]⟩),
  (4,⟨.bool,1,1,[.lit (.bool false)]⟩),
  (5,⟨.int .u8,1,1,[.lit (.int .u8 0)]⟩),
  (6,⟨.int .u8,1,1,[.lit (.int .u8 0)]⟩),
  (7,⟨.st [(0,1,2),(1,1,3),(2,1,4),(3,1,6)],4,24,[.lit (.int .i64 0),.lit (.int .i64 0),.lit (.bool false),.lit (.int .u8 0)]⟩),
  (8,⟨.st [(0,1,2),(1,1,3),(2,1,4),(3,1,6)],4,24,[.lit (.int .i64 0),.lit (.int .i64 0),.lit (.bool false),.lit (.int .u8 0)]⟩),
  (9,⟨.str,1,16,[.lit (.string ⟨#[]⟩)]⟩),
  (22,⟨.sl 5,1,24,[.sl true 1 []]⟩),
  (24,⟨.sl 100,1,24,[.sl true 8 []]⟩),
  (25,⟨.sl 103,1,24,[.sl true 5 []]⟩),
  (26,⟨.sl 113,1,24,[.sl true 3 []]⟩),
  (27,⟨.sl 3,1,24,[.sl true 1 []]⟩),
  (29,⟨.st [(0,1,26),(1,1,27)],2,48,[.sl true 3 [],.sl true 1 []]⟩),
  (31,⟨.st [(0,1,3),(1,1,9),(2,1,24),(3,1,25),(4,2,29),(6,1,3),(7,1,3),(8,1,3),(9,1,3),(10,1,3)],11,160,[.lit (.int .i64 0),.lit (.string ⟨#[]⟩),.sl true 8 [],.sl true 5 [],.sl true 3 [],.sl true 1 [],.lit (.int .i64 0),.lit (.int .i64 0),.lit (.int .i64 0),.lit (.int .i64 0),.lit (.int .i64 0)]⟩),
  (33,⟨.st [(0,1,3),(1,1,3),(2,1,3),(3,1,3),(4,1,3)],5,40,[.lit (.int .i64 0),.lit (.int .i64 0),.lit (.int .i64 0),.lit (.int .i64 0),.lit (.int .i64 0)]⟩),
  (100,⟨.st [(0,1,4),(1,1,3),(2,1,4),(3,5,33)],8,64,[.lit (.bool false),.lit (.int .i64 0),.lit (.bool false),.lit (.int .i64 0),.lit (.int .i64 0),.lit (.int .i64 0),.lit (.int .i64 0),.lit (.int .i64 0)]⟩),
  (103,⟨.st [(0,1,3),(1,1,3),(2,1,3),(3,1,3),(4,1,4)],5,40,[.lit (.int .i64 0),.lit (.int .i64 0),.lit (.int .i64 0),.lit (.int .i64 0),.lit (.bool false)]⟩),
  (113,⟨.st [(0,1,3),(1,1,3),(2,1,3)],3,24,[.lit (.int .i64 0),.lit (.int .i64 0),.lit (.int .i64 0)]⟩),
  (148,⟨.st [(0,1,22),(1,1,3),(2,1,3)],3,40,[.sl true 1 [],.lit (.int .i64 0),.lit (.int .i64 0)]⟩),
  (150,⟨.sl 9,1,24,[.sl true 1 []]⟩),
  (163,⟨.int .u64,1,8,[.lit (.int .u64 0)]⟩)]
def tI (t : Nat) : TI := (lk tab t).getD ⟨.bool,1,1,[]⟩
theorem mixed : Tryz.prog.follows .mixedOrders = true := by kernel_rfl
theorem tOk : TOk Tryz.prog (lk tab) := zJx (by kernel_rfl)
instance : TC Tryz.prog (lk tab) := ⟨tOk⟩
structure Src where
  b : (List Int)
  i : Int
  h : Int
def Src.row (v : Src) : List CV := [.sl true 1 (v.b.map zk),.lit (.int .i64 v.i),.lit (.int .i64 v.h)]
def Src.wf (v : Src) : Prop := Qp zGV v.b ∧ zx v.i ∧ zx v.h ∧ True
theorem Src.enc : Enc Src [.sl 1 [.int .u8],.int .i64,.int .i64] Src.row Src.wf := fun cs h => by
  obtain ⟨c0,r0,rfl,k0,h⟩ := zY h
  obtain ⟨c1,r1,rfl,k1,h⟩ := zY h
  obtain ⟨c2,r2,rfl,k2,h⟩ := zY h
  obtain rfl := Ql h
  obtain ⟨x0,rfl,w0⟩ := Enc.sl zHW k0
  obtain ⟨x1,rfl,w1⟩ := qE k1
  obtain ⟨x2,rfl,w2⟩ := qE k2
  exact ⟨⟨x0,x1,x2⟩,rfl,⟨w0,w1,w2,trivial⟩⟩
theorem Src.row_mine (v : Src) : CV.mineRow (Src.row v) := zL (QJ (ZW zGU _)) (zL zR (zL zR (zh)))
structure zC where
  Id : Int
  Members : Int
  Bare : Int
def zC.row (v : zC) : List CV := [.lit (.int .i64 v.Id),.lit (.int .i64 v.Members),.lit (.int .i64 v.Bare)]
def zC.wf (v : zC) : Prop := zx v.Id ∧ zx v.Members ∧ zx v.Bare ∧ True
theorem zC.enc : Enc zC [.int .i64,.int .i64,.int .i64] zC.row zC.wf := fun cs h => by
  obtain ⟨c0,r0,rfl,k0,h⟩ := zY h
  obtain ⟨c1,r1,rfl,k1,h⟩ := zY h
  obtain ⟨c2,r2,rfl,k2,h⟩ := zY h
  obtain rfl := Ql h
  obtain ⟨x0,rfl,w0⟩ := qE k0
  obtain ⟨x1,rfl,w1⟩ := qE k1
  obtain ⟨x2,rfl,w2⟩ := qE k2
  exact ⟨⟨x0,x1,x2⟩,rfl,⟨w0,w1,w2,trivial⟩⟩
theorem zC.row_mine (v : zC) : CV.mineRow (zC.row v) := zL zR (zL zR (zL zR (zh)))
structure zD where
  Rows : (List zC)
  Pv : (List Int)
def zD.row (v : zD) : List CV := [.sl true 3 (v.Rows.map zC.row),.sl true 1 (v.Pv.map intRow)]
def zD.wf (v : zD) : Prop := Qp zC.wf v.Rows ∧ Qp zx v.Pv ∧ True
theorem zD.enc : Enc zD [.sl 3 [.int .i64,.int .i64,.int .i64],.sl 1 [.int .i64]] zD.row zD.wf := fun cs h => by
  obtain ⟨c0,r0,rfl,k0,h⟩ := zY h
  obtain ⟨c1,r1,rfl,k1,h⟩ := zY h
  obtain rfl := Ql h
  obtain ⟨x0,rfl,w0⟩ := Enc.sl zC.enc k0
  obtain ⟨x1,rfl,w1⟩ := Enc.sl zIM k1
  exact ⟨⟨x0,x1⟩,rfl,⟨w0,w1,trivial⟩⟩
theorem zD.row_mine (v : zD) : CV.mineRow (zD.row v) := zL (QJ (ZW zC.row_mine _)) (zL (QJ (ZW zD8 _)) (zh))
structure Vec where
  Root : Int
  Co : Int
  Hops : Int
  Bridge : Int
  Port : Int
def Vec.row (v : Vec) : List CV := [.lit (.int .i64 v.Root),.lit (.int .i64 v.Co),.lit (.int .i64 v.Hops),.lit (.int .i64 v.Bridge),.lit (.int .i64 v.Port)]
def Vec.wf (v : Vec) : Prop := zx v.Root ∧ zx v.Co ∧ zx v.Hops ∧ zx v.Bridge ∧ zx v.Port ∧ True
theorem Vec.enc : Enc Vec [.int .i64,.int .i64,.int .i64,.int .i64,.int .i64] Vec.row Vec.wf := fun cs h => by
  obtain ⟨c0,r0,rfl,k0,h⟩ := zY h
  obtain ⟨c1,r1,rfl,k1,h⟩ := zY h
  obtain ⟨c2,r2,rfl,k2,h⟩ := zY h
  obtain ⟨c3,r3,rfl,k3,h⟩ := zY h
  obtain ⟨c4,r4,rfl,k4,h⟩ := zY h
  obtain rfl := Ql h
  obtain ⟨x0,rfl,w0⟩ := qE k0
  obtain ⟨x1,rfl,w1⟩ := qE k1
  obtain ⟨x2,rfl,w2⟩ := qE k2
  obtain ⟨x3,rfl,w3⟩ := qE k3
  obtain ⟨x4,rfl,w4⟩ := qE k4
  exact ⟨⟨x0,x1,x2,x3,x4⟩,rfl,⟨w0,w1,w2,w3,w4,trivial⟩⟩
theorem Vec.row_mine (v : Vec) : CV.mineRow (Vec.row v) := zL zR (zL zR (zL zR (zL zR (zL zR (zh)))))
structure Pt where
  Up : Bool
  Co : Int
  Has : Bool
  Hd : Vec
def Pt.row (v : Pt) : List CV := [.lit (.bool v.Up),.lit (.int .i64 v.Co),.lit (.bool v.Has),.lit (.int .i64 v.Hd.Root),.lit (.int .i64 v.Hd.Co),.lit (.int .i64 v.Hd.Hops),.lit (.int .i64 v.Hd.Bridge),.lit (.int .i64 v.Hd.Port)]
def Pt.wf (v : Pt) : Prop := zx v.Co ∧ zx v.Hd.Root ∧ zx v.Hd.Co ∧ zx v.Hd.Hops ∧ zx v.Hd.Bridge ∧ zx v.Hd.Port ∧ True
theorem Pt.enc : Enc Pt [.bool,.int .i64,.bool,.int .i64,.int .i64,.int .i64,.int .i64,.int .i64] Pt.row Pt.wf := fun cs h => by
  obtain ⟨c0,r0,rfl,k0,h⟩ := zY h
  obtain ⟨c1,r1,rfl,k1,h⟩ := zY h
  obtain ⟨c2,r2,rfl,k2,h⟩ := zY h
  obtain ⟨c3,r3,rfl,k3,h⟩ := zY h
  obtain ⟨c4,r4,rfl,k4,h⟩ := zY h
  obtain ⟨c5,r5,rfl,k5,h⟩ := zY h
  obtain ⟨c6,r6,rfl,k6,h⟩ := zY h
  obtain ⟨c7,r7,rfl,k7,h⟩ := zY h
  obtain rfl := Ql h
  obtain ⟨x0,rfl⟩ := zBt k0
  obtain ⟨x1,rfl,w1⟩ := qE k1
  obtain ⟨x2,rfl⟩ := zBt k2
  obtain ⟨x3,rfl,w3⟩ := qE k3
  obtain ⟨x4,rfl,w4⟩ := qE k4
  obtain ⟨x5,rfl,w5⟩ := qE k5
  obtain ⟨x6,rfl,w6⟩ := qE k6
  obtain ⟨x7,rfl,w7⟩ := qE k7
  exact ⟨⟨x0,x1,x2,⟨x3,x4,x5,x6,x7⟩⟩,rfl,⟨w1,w3,w4,w5,w6,w7,trivial⟩⟩
theorem Pt.row_mine (v : Pt) : CV.mineRow (Pt.row v) := zL zR (zL zR (zL zR (zL zR (zL zR (zL zR (zL zR (zL zR (zh))))))))
structure zB where
  Tag : Int
  Mac : Int
  Port : Int
  Age : Int
  Sc : Bool
def zB.row (v : zB) : List CV := [.lit (.int .i64 v.Tag),.lit (.int .i64 v.Mac),.lit (.int .i64 v.Port),.lit (.int .i64 v.Age),.lit (.bool v.Sc)]
def zB.wf (v : zB) : Prop := zx v.Tag ∧ zx v.Mac ∧ zx v.Port ∧ zx v.Age ∧ True
theorem zB.enc : Enc zB [.int .i64,.int .i64,.int .i64,.int .i64,.bool] zB.row zB.wf := fun cs h => by
  obtain ⟨c0,r0,rfl,k0,h⟩ := zY h
  obtain ⟨c1,r1,rfl,k1,h⟩ := zY h
  obtain ⟨c2,r2,rfl,k2,h⟩ := zY h
  obtain ⟨c3,r3,rfl,k3,h⟩ := zY h
  obtain ⟨c4,r4,rfl,k4,h⟩ := zY h
  obtain rfl := Ql h
  obtain ⟨x0,rfl,w0⟩ := qE k0
  obtain ⟨x1,rfl,w1⟩ := qE k1
  obtain ⟨x2,rfl,w2⟩ := qE k2
  obtain ⟨x3,rfl,w3⟩ := qE k3
  obtain ⟨x4,rfl⟩ := zBt k4
  exact ⟨⟨x0,x1,x2,x3,x4⟩,rfl,⟨w0,w1,w2,w3,trivial⟩⟩
theorem zB.row_mine (v : zB) : CV.mineRow (zB.row v) := zL zR (zL zR (zL zR (zL zR (zL zR (zh)))))
structure zA where
  Id : Int
  Name : ByteArray
  Ps : (List Pt)
  F : (List zB)
  V : zD
  Tk : Int
  Pa : Int
  Wo : Int
  Dr : Int
  Ve : Int
def zA.row (v : zA) : List CV := [.lit (.int .i64 v.Id),.lit (.string v.Name),.sl true 8 (v.Ps.map Pt.row),.sl true 5 (v.F.map zB.row),.sl true 3 (v.V.Rows.map zC.row),.sl true 1 (v.V.Pv.map intRow),.lit (.int .i64 v.Tk),.lit (.int .i64 v.Pa),.lit (.int .i64 v.Wo),.lit (.int .i64 v.Dr),.lit (.int .i64 v.Ve)]
def zA.wf (v : zA) : Prop := zx v.Id ∧ v.Name.size ≤ maxLen ∧ Qp Pt.wf v.Ps ∧ Qp zB.wf v.F ∧ Qp zC.wf v.V.Rows ∧ Qp zx v.V.Pv ∧ zx v.Tk ∧ zx v.Pa ∧ zx v.Wo ∧ zx v.Dr ∧ zx v.Ve ∧ True
theorem zA.enc : Enc zA [.int .i64,.str,.sl 8 [.bool,.int .i64,.bool,.int .i64,.int .i64,.int .i64,.int .i64,.int .i64],.sl 5 [.int .i64,.int .i64,.int .i64,.int .i64,.bool],.sl 3 [.int .i64,.int .i64,.int .i64],.sl 1 [.int .i64],.int .i64,.int .i64,.int .i64,.int .i64,.int .i64] zA.row zA.wf := fun cs h => by
  obtain ⟨c0,r0,rfl,k0,h⟩ := zY h
  obtain ⟨c1,r1,rfl,k1,h⟩ := zY h
  obtain ⟨c2,r2,rfl,k2,h⟩ := zY h
  obtain ⟨c3,r3,rfl,k3,h⟩ := zY h
  obtain ⟨c4,r4,rfl,k4,h⟩ := zY h
  obtain ⟨c5,r5,rfl,k5,h⟩ := zY h
  obtain ⟨c6,r6,rfl,k6,h⟩ := zY h
  obtain ⟨c7,r7,rfl,k7,h⟩ := zY h
  obtain ⟨c8,r8,rfl,k8,h⟩ := zY h
  obtain ⟨c9,r9,rfl,k9,h⟩ := zY h
  obtain ⟨c10,r10,rfl,k10,h⟩ := zY h
  obtain rfl := Ql h
  obtain ⟨x0,rfl,w0⟩ := qE k0
  obtain ⟨x1,rfl,w1⟩ := zIh k1
  obtain ⟨x2,rfl,w2⟩ := Enc.sl Pt.enc k2
  obtain ⟨x3,rfl,w3⟩ := Enc.sl zB.enc k3
  obtain ⟨x4,rfl,w4⟩ := Enc.sl zC.enc k4
  obtain ⟨x5,rfl,w5⟩ := Enc.sl zIM k5
  obtain ⟨x6,rfl,w6⟩ := qE k6
  obtain ⟨x7,rfl,w7⟩ := qE k7
  obtain ⟨x8,rfl,w8⟩ := qE k8
  obtain ⟨x9,rfl,w9⟩ := qE k9
  obtain ⟨x10,rfl,w10⟩ := qE k10
  exact ⟨⟨x0,x1,x2,x3,⟨x4,x5⟩,x6,x7,x8,x9,x10⟩,rfl,⟨w0,w1,w2,w3,w4,w5,w6,w7,w8,w9,w10,trivial⟩⟩
theorem zA.row_mine (v : zA) : CV.mineRow (zA.row v) := zL zR (zL zR (zL (QJ (ZW Pt.row_mine _)) (zL (QJ (ZW zB.row_mine _)) (zL (QJ (ZW zC.row_mine _)) (zL (QJ (ZW zD8 _)) (zL zR (zL zR (zL zR (zL zR (zL zR (zh)))))))))))
def zBw (n : Nat) (x0 : (List Int)) : Option (Bool) :=
  (some (decide ((x0.length : Int) > 1048576)))
theorem zIi (n : Nat) (x0 : (List Int)) (r : Bool) (H : zBw n x0 = some r) : zG Tryz.prog 8 [.val false [.sl false 1 (CV.frzEs (x0.map zk))]] [.val false [.lit (.bool r)]] [] := by
 refine cW Tryz.func8 (fun g d => sl [g 0,g 1] .ret) [.tmp 2] fun cx => ?_
 unfold zBw at H
 refine gA 1 1 0 ?_
 refine rA 1 ?_
 refine kF x0 zk ?_
 refine uA 2 4 0 ?_
 exact te (fJ [(false,[cB (decide ((x0.length : Int) > 1048576))])] H)
def Jx (n : Nat) (x0 : (List Int)) (y3 : Int) : Option (Src) :=
  (some (⟨x0,0,y3⟩ : Src))
def Zy (n : Nat) : Nat → (List Int) → Int → Int → Option ((Int) ⊕ (Src))
  | 0,_,_,_ => none
  | mo4 + 1,x0,y1,y2 => (bif (decide (y1 < (x0.length : Int))) then (bif (decide (y1 < 4000)) then ((idx x0 y1).bind fun v5 => (Zy n mo4 x0 (IntKind.wrap .i64 (y1 + 1)) (IntKind.wrap .i64 (BitVec.ofInt (IntKind.bits .i64) (IntKind.wrap .i64 ((IntKind.wrap .i64 ((IntKind.wrap .i64 (y2 * 137)) + (IntKind.wrap .i64 v5))) + 11)) &&& BitVec.ofInt (IntKind.bits .i64) 1073741823).toNat))) else (some (Sum.inl y2))) else (some (Sum.inl y2)))
def Zg (n : Nat) (x0 : (List Int)) : Option (Src) :=
  ((Zy n n x0 0 (IntKind.wrap .i64 (762762 + (x0.length : Int)))).bind fun o => match o with | .inl y3 => (Jx n x0 y3) | .inr r => some r)
noncomputable abbrev G76 (k : Nat) := Rg Tryz.f76 k
theorem JU (n : Nat) (x0 : (List Int)) (r : Src) (H : Zg n x0 = some r) : zG Tryz.prog 76 [.val false [.sl false 1 (CV.frzEs (x0.map zk))]] [.ptr (CV.frzRow (Src.row r))] [] := by
 refine zG.of_body_ptr tOk Tryz.func76 rfl (c := (.seq (G76 0) (.seq (G76 1) (.seq (.seq (G76 2) (.block 0 (.loop (.seq (.seq (G76 3) (.cond (.tmp 15) .skip (.exit 0))) (.seq (.block 1 (G76 5)) (G76 4)))))) (.seq (G76 6) .ret))))) kr (Nat.le_of_ble_eq_true kr) 2 31 rfl (CV.frzRow (Src.row r)) fun cx => ?_
 show Tr _ _ _ ⟨32,0,[sC 0 (cF 1 x0 zk)],[]⟩ _
 unfold Zg at H
 refine gA 1 1 0 ?_
 refine rA 1 ?_
 refine kF x0 zk ?_
 refine uA 2 9 0 ?_
 refine tS ?_
 refine gA 1 25 0 ?_
 obtain ⟨o4,eo4,Ho4⟩ := bs H
 clear H
 refine Tr.mid (ι := Int) (fun v => ⟨32,0,[sI 3 v,sC 0 (cF 1 x0 zk)],[]⟩) (fun v => Jx n x0 v = some r) ?_ ?_
 ·refine tB ?_
  refine Tr.loop (ι := Nat × (Int × Int)) (fun v => ⟨32,0,[sI 4 v.2.1,sI 3 v.2.2,sC 0 (cF 1 x0 zk)],[]⟩) (fun v => Zy n v.1 x0 v.2.1 v.2.2 = some o4) (fun v => v.1) (n,(0,(IntKind.wrap .i64 (762762 + (x0.length : Int))))) eo4 (St.sub_of [4,3,0] [] kr) ?_
  rintro ⟨mo4,y1,y2⟩ H
  have H : Zy n mo4 x0 y1 y2 = some o4 := H
  obtain _ | mo4 := mo4
  ·exact nN H
  rw [Zy] at H
  refine tS ?_
  refine rA 2 ?_
  refine kF x0 zk ?_
  refine lA 2 ?_
  refine sL 4121 0 ⟨32,0,[sB 12 (decide (y1 < (x0.length : Int))),sI 4 y1,sI 3 y2,sC 0 (cF 1 x0 zk)],[]⟩ ?_
  cases h1 : (decide (y1 < (x0.length : Int)))
  ·have H := zI h1 H
   refine uA 3 32793 0 ?_
   refine nB_ ?_
   refine Tr.exit ?_
   refine aJ ?_
   obtain rfl := si H
   have H := Ho4
   dsimp only at H
   exact jA y2 H [3,0] []
  have H := zJ h1 H
  refine uA 3 32793 0 ?_
  obtain ⟨h2,H⟩ | ⟨h2,H⟩ := bC H
  ·refine nA h2 ?_
   refine Tr.exit ?_
   refine aJ ?_
   obtain rfl := si H
   have H := Ho4
   dsimp only at H
   exact jA y2 H [3,0] []
  refine tA h2 ?_
  refine tK ?_
  refine tS ?_
  refine tB ?_
  refine Tr.at ?_
  refine lA 4 ?_
  obtain ⟨v5,ev5,H⟩ := bs H
  refine iA zk ev5 ?_
  refine uA 6 25 0 ?_
  refine eA 3 25 0 ?_
  exact jB mo4 ((IntKind.wrap .i64 (y1 + 1)),(IntKind.wrap .i64 (BitVec.ofInt (IntKind.bits .i64) (IntKind.wrap .i64 ((IntKind.wrap .i64 ((IntKind.wrap .i64 (y2 * 137)) + (IntKind.wrap .i64 v5))) + 11)) &&& BitVec.ofInt (IntKind.bits .i64) 1073741823).toNat)) H [4,3,0] []
 rintro y3 H
 have H : (Jx n x0 y3) = some r := H
 unfold Jx at H
 refine gA 5 4 2147483648 ?_
 refine te ?_
 obtain rfl := si H
 exact And.intro kr kr
def QG (n : Nat) (x0 : Src) : Option (Int × Src) :=
  (bif (decide ((0 : Int) ≤ 33)) then (bif (decide ((0 : Int) ≤ 47)) then (bif (decide (x0.i < (x0.b.length : Int))) then ((idx x0.b x0.i).bind fun v3 => (some ((IntKind.wrap .i64 (BitVec.ofInt (IntKind.bits .i64) (IntKind.wrap .i64 ((IntKind.wrap .i64 (BitVec.ofInt (IntKind.bits .i64) (IntKind.wrap .i64 (BitVec.ofInt (IntKind.bits .i64) (Int.fdiv (IntKind.wrap .i64 ((IntKind.wrap .i64 (x0.h * 6364136223846793005)) + 1442695040888963407)) (2 ^ min ((33 : Int)).toNat (IntKind.bits .i64))) ^^^ BitVec.ofInt (IntKind.bits .i64) (Int.fdiv (IntKind.wrap .i64 ((IntKind.wrap .i64 (x0.h * 6364136223846793005)) + 1442695040888963407)) (2 ^ min ((47 : Int)).toNat (IntKind.bits .i64)))).toNat) &&& BitVec.ofInt (IntKind.bits .i64) 255).toNat) + (IntKind.wrap .i64 v3))) &&& BitVec.ofInt (IntKind.bits .i64) 255).toNat),(⟨x0.b,(IntKind.wrap .i64 (x0.i + 1)),(IntKind.wrap .i64 ((IntKind.wrap .i64 (x0.h * 6364136223846793005)) + 1442695040888963407))⟩ : Src)))) else (some ((IntKind.wrap .i64 (BitVec.ofInt (IntKind.bits .i64) (IntKind.wrap .i64 (BitVec.ofInt (IntKind.bits .i64) (Int.fdiv (IntKind.wrap .i64 ((IntKind.wrap .i64 (x0.h * 6364136223846793005)) + 1442695040888963407)) (2 ^ min ((33 : Int)).toNat (IntKind.bits .i64))) ^^^ BitVec.ofInt (IntKind.bits .i64) (Int.fdiv (IntKind.wrap .i64 ((IntKind.wrap .i64 (x0.h * 6364136223846793005)) + 1442695040888963407)) (2 ^ min ((47 : Int)).toNat (IntKind.bits .i64)))).toNat) &&& BitVec.ofInt (IntKind.bits .i64) 255).toNat),(⟨x0.b,x0.i,(IntKind.wrap .i64 ((IntKind.wrap .i64 (x0.h * 6364136223846793005)) + 1442695040888963407))⟩ : Src)))) else none) else none)
def zJY : Tab := ⟨13,[0,1,2,4,8,0,32,64,128,256,528,1024,4095],[0,1,2,4,8,0,32,64,128,256,528,1024,2048],[0,1,3,7,15,0,32,96,224,480,1023,2047,4095]⟩
noncomputable abbrev zHj (k : Nat) := Rg Tryz.f174 k
noncomputable abbrev zIc (k : Nat) := Rd Tryz.f174 k
theorem zAk : z9 (rg Tryz.f174 2) zJY = true := kr
def zJZ : Tab := ⟨15,[0,0,2,4,8,0,32,64,128,272,512,1024,2049,4096,16383],[0,0,2,4,8,0,32,64,128,272,512,1024,2049,4096,8193],[0,0,2,6,14,0,32,96,224,510,1022,2046,4095,8191,16383]⟩
theorem zEf : z9 (rg Tryz.f174 4) zJZ = true := kr
theorem zAi (n : Nat) (x0 : Src) (r : Int × Src) (H : QG n x0 = some r) : zG Tryz.prog 174 [.ptr (CV.frzRow (Src.row x0))] [.val false [.lit (.int .i64 r.1)]] [(0,(CV.frzRow (Src.row r.2)))] := by
 refine zG.of_body tOk Tryz.func174 rfl (c := (.seq (zHj 0) (.seq (zHj 1) (.seq (zIc 2) (.seq (.seq (zIc 3) (.cond (.tmp 34) (.seq (zIc 4) (zHj 5)) .skip)) (.seq (zHj 6) .ret)))))) kr (Nat.le_of_ble_eq_true kr) 1 (rs := [.tmp 2]) rfl [] .nil [(false,[.lit (.int .i64 r.1)])] [] [(0,(CV.frzRow (Src.row r.2)))] fun cx => ?_
 show Tr _ _ _ ⟨58,1,[sA 0 0 3 0],[(0,(CV.frzRow (Src.row x0)))]⟩ _
 unfold QG at H
 refine gA 1 1 1 ?_
 refine gA 10 1 1 ?_
 obtain ⟨hg1,H⟩ := gs H
 obtain ⟨hg2,H⟩ := gs H
 refine Tr.draws mixed 13 kr ⟨58,1,[sI 3 (IntKind.wrap .i64 (BitVec.ofInt (IntKind.bits .i64) (IntKind.wrap .i64 (BitVec.ofInt (IntKind.bits .i64) (Int.fdiv (IntKind.wrap .i64 ((IntKind.wrap .i64 (x0.h * 0x5851f42d4c957f2d)) + 0x14057b7ef767814f)) (2 ^ min ((33 : Int)).toNat (IntKind.bits .i64))) ^^^ BitVec.ofInt (IntKind.bits .i64) (Int.fdiv (IntKind.wrap .i64 ((IntKind.wrap .i64 (x0.h * 0x5851f42d4c957f2d)) + 0x14057b7ef767814f)) (2 ^ min ((47 : Int)).toNat (IntKind.bits .i64)))).toNat) &&& BitVec.ofInt (IntKind.bits .i64) 255).toNat),sA 0 0 3 0],[(0,[cF 1 x0.b zk,cI x0.i,cI (IntKind.wrap .i64 ((IntKind.wrap .i64 (x0.h * 0x5851f42d4c957f2d)) + 0x14057b7ef767814f))])]⟩ (fun cx => ?_) ?_
 ·refine mA zAk [(0,[]),(1,[]),(2,[]),(3,[4]),(5,[]),(6,[]),(7,[]),(8,[9])] 5 [⟨[9],3,20,21⟩,⟨[4],3,15,16⟩] fun cx => ?_
  refine mB2 tOk zAk 4 9 kr (And.intro kr ?_) (And.intro kr ?_)
  ·refine LAt.binC tOk (op := .shr) (t := 3) (ty := 163) (ty' := 3) (x := (.tmp 16)) (y := (.const (.int .u64 33))) (d := 17) (g := none) (.int .i64 (IntKind.wrap .i64 ((IntKind.wrap .i64 (x0.h * 0x5851f42d4c957f2d)) + 0x14057b7ef767814f))) (.int .u64 33) (.int .i64 (Int.fdiv (IntKind.wrap .i64 ((IntKind.wrap .i64 (x0.h * 0x5851f42d4c957f2d)) + 0x14057b7ef767814f)) (2 ^ min ((33 : Int)).toNat (IntKind.bits .i64)))) _ kr kr kr kr kr (φ := (0 : Int) ≤ 33) kr (of_decide_eq_true hg1) rfl ?_
   refine fA ?_
   refine mC zAk 9 ?_
   refine LAt.binC tOk (op := .shr) (t := 3) (ty := 163) (ty' := 3) (x := (.tmp 21)) (y := (.const (.int .u64 47))) (d := 22) (g := none) (.int .i64 (IntKind.wrap .i64 ((IntKind.wrap .i64 (x0.h * 0x5851f42d4c957f2d)) + 0x14057b7ef767814f))) (.int .u64 47) (.int .i64 (Int.fdiv (IntKind.wrap .i64 ((IntKind.wrap .i64 (x0.h * 0x5851f42d4c957f2d)) + 0x14057b7ef767814f)) (2 ^ min ((47 : Int)).toNat (IntKind.bits .i64)))) _ kr kr kr kr kr (φ := (0 : Int) ≤ 47) kr (of_decide_eq_true hg2) rfl ?_
   refine fA ?_
   refine mA zAk [(10,[]),(11,[]),(12,[])] 0 [⟨[9],3,20,21⟩,⟨[4],3,15,16⟩] fun cx => ?_
   exact mE zAk [3,0] [0]
  ·refine LAt.binC tOk (op := .shr) (t := 3) (ty := 163) (ty' := 3) (x := (.tmp 21)) (y := (.const (.int .u64 47))) (d := 22) (g := none) (.int .i64 (IntKind.wrap .i64 ((IntKind.wrap .i64 (x0.h * 0x5851f42d4c957f2d)) + 0x14057b7ef767814f))) (.int .u64 47) (.int .i64 (Int.fdiv (IntKind.wrap .i64 ((IntKind.wrap .i64 (x0.h * 0x5851f42d4c957f2d)) + 0x14057b7ef767814f)) (2 ^ min ((47 : Int)).toNat (IntKind.bits .i64)))) _ kr kr kr kr kr (φ := (0 : Int) ≤ 47) kr (of_decide_eq_true hg2) rfl ?_
   refine fA ?_
   refine mC zAk 4 ?_
   refine LAt.binC tOk (op := .shr) (t := 3) (ty := 163) (ty' := 3) (x := (.tmp 16)) (y := (.const (.int .u64 33))) (d := 17) (g := none) (.int .i64 (IntKind.wrap .i64 ((IntKind.wrap .i64 (x0.h * 0x5851f42d4c957f2d)) + 0x14057b7ef767814f))) (.int .u64 33) (.int .i64 (Int.fdiv (IntKind.wrap .i64 ((IntKind.wrap .i64 (x0.h * 0x5851f42d4c957f2d)) + 0x14057b7ef767814f)) (2 ^ min ((33 : Int)).toNat (IntKind.bits .i64)))) _ kr kr kr kr kr (φ := (0 : Int) ≤ 33) kr (of_decide_eq_true hg1) rfl ?_
   refine fA ?_
   refine mA zAk [(10,[]),(11,[]),(12,[])] 0 [⟨[9],3,20,21⟩,⟨[4],3,15,16⟩] fun cx => ?_
   exact mE zAk [3,0] [0]
 refine tS ?_
 refine Tr.draws mixed 10 kr ⟨58,1,[sB 34 (decide (x0.i < (x0.b.length : Int))),sI 3 (IntKind.wrap .i64 (BitVec.ofInt (IntKind.bits .i64) (IntKind.wrap .i64 (BitVec.ofInt (IntKind.bits .i64) (Int.fdiv (IntKind.wrap .i64 ((IntKind.wrap .i64 (x0.h * 0x5851f42d4c957f2d)) + 0x14057b7ef767814f)) (2 ^ min ((33 : Int)).toNat (IntKind.bits .i64))) ^^^ BitVec.ofInt (IntKind.bits .i64) (Int.fdiv (IntKind.wrap .i64 ((IntKind.wrap .i64 (x0.h * 0x5851f42d4c957f2d)) + 0x14057b7ef767814f)) (2 ^ min ((47 : Int)).toNat (IntKind.bits .i64)))).toNat) &&& BitVec.ofInt (IntKind.bits .i64) 255).toNat),sA 0 0 3 0],[(0,[cF 1 x0.b zk,cI x0.i,cI (IntKind.wrap .i64 ((IntKind.wrap .i64 (x0.h * 0x5851f42d4c957f2d)) + 0x14057b7ef767814f))])]⟩ (fun cx => ?_) ?_
 ·refine aA [(0,[]),(1,[]),(2,[]),(3,[]),(4,[]),(5,[]),(6,[]),(7,[])] 2 [⟨[],22,31,32⟩,⟨[],3,27,28⟩] fun cx => ?_
  refine aL tOk 8 22 3 5 32 33 none ⟨(.box 0),[(0,0)],0,false,1,(CV.frzEs (x0.b.map zk))⟩ (x0.b).length _ kr kr kr kr kr kr kr (zHY _ _) rfl (fun cx => ?_)
  refine aA [(9,[])] 0 [⟨[],22,31,32⟩,⟨[],3,27,28⟩] fun cx => ?_
  exact eE [34,3,0] [0]
 refine sT ⟨58,1,[sB 34 (decide (x0.i < (x0.b.length : Int))),sI 3 (IntKind.wrap .i64 (BitVec.ofInt (IntKind.bits .i64) (IntKind.wrap .i64 (BitVec.ofInt (IntKind.bits .i64) (Int.fdiv (IntKind.wrap .i64 ((IntKind.wrap .i64 (x0.h * 0x5851f42d4c957f2d)) + 0x14057b7ef767814f)) (2 ^ min ((33 : Int)).toNat (IntKind.bits .i64))) ^^^ BitVec.ofInt (IntKind.bits .i64) (Int.fdiv (IntKind.wrap .i64 ((IntKind.wrap .i64 (x0.h * 0x5851f42d4c957f2d)) + 0x14057b7ef767814f)) (2 ^ min ((47 : Int)).toNat (IntKind.bits .i64)))).toNat) &&& BitVec.ofInt (IntKind.bits .i64) 255).toNat),sA 0 0 3 0],[(0,[cF 1 x0.b zk,cI x0.i,cI (IntKind.wrap .i64 ((IntKind.wrap .i64 (x0.h * 0x5851f42d4c957f2d)) + 0x14057b7ef767814f))])]⟩ ?_
 cases h1 : (decide (x0.i < (x0.b.length : Int)))
 ·have H := zI h1 H
  refine nB_ ?_
  refine tK ?_
  refine gA 2 5 1 ?_
  refine te ?_
  obtain rfl := si H
  exact Fin.ofY _ [(false,[cI (IntKind.wrap .i64 (BitVec.ofInt (IntKind.bits .i64) (IntKind.wrap .i64 (BitVec.ofInt (IntKind.bits .i64) (Int.fdiv (IntKind.wrap .i64 ((IntKind.wrap .i64 (x0.h * 0x5851f42d4c957f2d)) + 0x14057b7ef767814f)) (2 ^ min ((33 : Int)).toNat (IntKind.bits .i64))) ^^^ BitVec.ofInt (IntKind.bits .i64) (Int.fdiv (IntKind.wrap .i64 ((IntKind.wrap .i64 (x0.h * 0x5851f42d4c957f2d)) + 0x14057b7ef767814f)) (2 ^ min ((47 : Int)).toNat (IntKind.bits .i64)))).toNat) &&& BitVec.ofInt (IntKind.bits .i64) 255).toNat)])] [] _ [] _ [(0,[cF 1 x0.b zk,cI x0.i,cI (IntKind.wrap .i64 ((IntKind.wrap .i64 (x0.h * 0x5851f42d4c957f2d)) + 0x14057b7ef767814f))])] kr rfl rfl rfl kr kr kr kr rfl rfl rfl
 have H := zJ h1 H
 refine tB_ ?_
 obtain ⟨v3,ev3,H⟩ := bs H
 refine Tr.draws mixed 15 kr ⟨58,1,[sI 3 (IntKind.wrap .i64 (BitVec.ofInt (IntKind.bits .i64) (IntKind.wrap .i64 ((IntKind.wrap .i64 (BitVec.ofInt (IntKind.bits .i64) (IntKind.wrap .i64 (BitVec.ofInt (IntKind.bits .i64) (Int.fdiv (IntKind.wrap .i64 ((IntKind.wrap .i64 (x0.h * 0x5851f42d4c957f2d)) + 0x14057b7ef767814f)) (2 ^ min ((33 : Int)).toNat (IntKind.bits .i64))) ^^^ BitVec.ofInt (IntKind.bits .i64) (Int.fdiv (IntKind.wrap .i64 ((IntKind.wrap .i64 (x0.h * 0x5851f42d4c957f2d)) + 0x14057b7ef767814f)) (2 ^ min ((47 : Int)).toNat (IntKind.bits .i64)))).toNat) &&& BitVec.ofInt (IntKind.bits .i64) 255).toNat) + (IntKind.wrap .i64 v3))) &&& BitVec.ofInt (IntKind.bits .i64) 255).toNat),sA 0 0 3 0],[(0,[cF 1 x0.b zk,cI x0.i,cI (IntKind.wrap .i64 ((IntKind.wrap .i64 (x0.h * 0x5851f42d4c957f2d)) + 0x14057b7ef767814f))])]⟩ (fun cx => ?_) ?_
 ·refine mA zEf [(0,[]),(1,[]),(2,[]),(3,[]),(4,[]),(5,[]),(6,[]),(7,[]),(8,[])] 6 [⟨[],3,42,43⟩,⟨[],22,38,39⟩] fun cx => ?_
  refine iN zEf 9 zk ev3 fun cx => ?_
  refine mA zEf [(10,[]),(11,[]),(12,[]),(13,[]),(14,[])] 0 [⟨[],3,42,43⟩,⟨[],22,38,39⟩] fun cx => ?_
  exact mE zEf [3,0] [0]
 refine eA 9 9 1 ?_
 refine gA 2 5 1 ?_
 refine te ?_
 obtain rfl := si H
 exact Fin.ofY _ [(false,[cI (IntKind.wrap .i64 (BitVec.ofInt (IntKind.bits .i64) (IntKind.wrap .i64 ((IntKind.wrap .i64 (BitVec.ofInt (IntKind.bits .i64) (IntKind.wrap .i64 (BitVec.ofInt (IntKind.bits .i64) (Int.fdiv (IntKind.wrap .i64 ((IntKind.wrap .i64 (x0.h * 0x5851f42d4c957f2d)) + 0x14057b7ef767814f)) (2 ^ min ((33 : Int)).toNat (IntKind.bits .i64))) ^^^ BitVec.ofInt (IntKind.bits .i64) (Int.fdiv (IntKind.wrap .i64 ((IntKind.wrap .i64 (x0.h * 0x5851f42d4c957f2d)) + 0x14057b7ef767814f)) (2 ^ min ((47 : Int)).toNat (IntKind.bits .i64)))).toNat) &&& BitVec.ofInt (IntKind.bits .i64) 255).toNat) + (IntKind.wrap .i64 v3))) &&& BitVec.ofInt (IntKind.bits .i64) 255).toNat)])] [] _ [] _ [(0,[cF 1 x0.b zk,cI (IntKind.wrap .i64 (x0.i + 1)),cI (IntKind.wrap .i64 ((IntKind.wrap .i64 (x0.h * 0x5851f42d4c957f2d)) + 0x14057b7ef767814f))])] kr rfl rfl rfl kr kr kr kr rfl rfl rfl
def zN (n : Nat) (x0 : Src) (x1 : Int) : Option (Int × Src) :=
  (bif (decide (x1 ≤ 0)) then (some (0,x0)) else (bif (decide (x1 ≤ 256)) then ((QG n x0).bind fun r5 => (bif (decide ((x1 : Int) ≠ 0)) then (some ((Int.tmod r5.1 x1),r5.2)) else none)) else ((QG n x0).bind fun r1 => ((QG n r1.2).bind fun r2 => ((QG n r2.2).bind fun r3 => (bif (decide ((x1 : Int) ≠ 0)) then (some ((Int.tmod (IntKind.wrap .i64 ((IntKind.wrap .i64 ((IntKind.wrap .i64 (r1.1 * 65536)) + (IntKind.wrap .i64 (r2.1 * 256)))) + r3.1)) x1),r3.2)) else none))))))
noncomputable abbrev zCb (k : Nat) := Rg Tryz.f119 k
theorem zQ (n : Nat) (x0 : Src) (x1 : Int) (r : Int × Src) (H : zN n x0 x1 = some r) : zG Tryz.prog 119 [.ptr (CV.frzRow (Src.row x0)),.val false [.lit (.int .i64 x1)]] [.val false [.lit (.int .i64 r.1)]] [(0,(CV.frzRow (Src.row r.2)))] := by
 refine zG.of_body tOk Tryz.func119 rfl (c := (.seq (zCb 0) (.seq (.seq (zCb 1) (.cond (.tmp 9) (.seq (zCb 2) .ret) .skip)) (.seq (.seq (zCb 3) (.cond (.tmp 11) (.seq (zCb 4) .ret) .skip)) (.seq (zCb 5) (.seq (zCb 6) (.seq (zCb 7) (.seq (zCb 8) .ret)))))))) kr (Nat.le_of_ble_eq_true kr) 1 (rs := [.tmp 4]) rfl [] .nil [(false,[.lit (.int .i64 r.1)])] [] [(0,(CV.frzRow (Src.row r.2)))] fun cx => ?_
 show Tr _ _ _ ⟨31,1,[sA 0 0 3 0,sI 1 x1],[(0,(CV.frzRow (Src.row x0)))]⟩ _
 unfold zN at H
 refine gA 1 3 1 ?_
 refine tS ?_
 refine gA 2 515 1 ?_
 obtain ⟨h1,H⟩ | ⟨h1,H⟩ := bC H
 ·refine nA h1 ?_
  refine tK ?_
  refine tS ?_
  refine gA 2 2051 1 ?_
  obtain ⟨h2,H⟩ | ⟨h2,H⟩ := bC H
  ·refine nA h2 ?_
   refine tK ?_
   refine rA 1 ?_
   obtain ⟨r1,er1,H⟩ := bs H
   refine LAt.callL tOk [.lend] (f := 174) (av := #[.tmp 16]) (ats := #[91]) (d := (some 17)) (ty := 3) (g := none) kr kr kr [] (zAi n x0 r1 er1) kr (.inl rfl) ?_
   refine uA 1 35 1 ?_
   refine rA 1 ?_
   obtain ⟨r2,er2,H⟩ := bs H
   refine LAt.callL tOk [.lend] (f := 174) (av := #[.tmp 18]) (ats := #[91]) (d := (some 19)) (ty := 3) (g := none) kr kr kr [] (zAi n r1.2 r2 er2) kr (.inl rfl) ?_
   refine uA 1 99 1 ?_
   refine rA 1 ?_
   obtain ⟨r3,er3,H⟩ := bs H
   refine LAt.callL tOk [.lend] (f := 174) (av := #[.tmp 20]) (ats := #[91]) (d := (some 21)) (ty := 3) (g := none) kr kr kr [] (zAi n r2.2 r3 er3) kr (.inl rfl) ?_
   refine uA 1 227 1 ?_
   refine rA 8 ?_
   obtain ⟨hg4,H⟩ := gs H
   refine LAt.binC tOk (op := .rem) (t := 3) (ty := 3) (ty' := 3) (x := (.tmp 28)) (y := (.tmp 29)) (d := 30) (g := none) (.int .i64 (IntKind.wrap .i64 ((IntKind.wrap .i64 ((IntKind.wrap .i64 (r1.1 * 65536)) + (IntKind.wrap .i64 (r2.1 * 256)))) + r3.1))) (.int .i64 x1) (.int .i64 (Int.tmod (IntKind.wrap .i64 ((IntKind.wrap .i64 ((IntKind.wrap .i64 (r1.1 * 65536)) + (IntKind.wrap .i64 (r2.1 * 256)))) + r3.1)) x1)) _ kr kr kr kr kr (φ := (IntKind.i64 = IntKind.i64 ∧ (x1 : Int) ≠ 0)) kr (⟨rfl,of_decide_eq_true hg4⟩) rfl ?_
   refine uA 1 17 1 ?_
   refine te ?_
   obtain rfl := si H
   exact Fin.ofY _ [(false,[cI (Int.tmod (IntKind.wrap .i64 ((IntKind.wrap .i64 ((IntKind.wrap .i64 (r1.1 * 65536)) + (IntKind.wrap .i64 (r2.1 * 256)))) + r3.1)) x1)])] [] _ [] _ [(0,(CV.frzRow (Src.row r3.2)))] kr rfl rfl rfl kr kr kr kr rfl rfl rfl
  refine tA h2 ?_
  refine rA 1 ?_
  obtain ⟨r5,er5,H⟩ := bs H
  refine LAt.callL tOk [.lend] (f := 174) (av := #[.tmp 12]) (ats := #[91]) (d := (some 13)) (ty := 3) (g := none) kr kr kr [] (zAi n x0 r5 er5) kr (.inl rfl) ?_
  refine lA 1 ?_
  obtain ⟨hg6,H⟩ := gs H
  refine LAt.binC tOk (op := .rem) (t := 3) (ty := 3) (ty' := 3) (x := (.tmp 13)) (y := (.tmp 14)) (d := 15) (g := none) (.int .i64 r5.1) (.int .i64 x1) (.int .i64 (Int.tmod r5.1 x1)) _ kr kr kr kr kr (φ := (IntKind.i64 = IntKind.i64 ∧ (x1 : Int) ≠ 0)) kr (⟨rfl,of_decide_eq_true hg6⟩) rfl ?_
  refine uA 1 17 1 ?_
  refine te ?_
  obtain rfl := si H
  exact Fin.ofY _ [(false,[cI (Int.tmod r5.1 x1)])] [] _ [] _ [(0,(CV.frzRow (Src.row r5.2)))] kr rfl rfl rfl kr kr kr kr rfl rfl rfl
 refine tA h1 ?_
 refine gA 1 17 1 ?_
 refine te ?_
 obtain rfl := si H
 exact Fin.ofY _ [(false,[cI 0])] [] _ [] _ [(0,(CV.frzRow (Src.row x0)))] kr rfl rfl rfl kr kr kr kr rfl rfl rfl
def za (n : Nat) (x0 : Int) (x1 : Int) (x2 : Int) : Option (Bool) :=
  (bif (decide (x0 ≥ x1)) then (some (decide (x0 ≤ x2))) else (some false))
theorem zZ (n : Nat) (x0 : Int) (x1 : Int) (x2 : Int) (r : Bool) (H : za n x0 x1 x2 = some r) : zG Tryz.prog 102 [.val false [.lit (.int .i64 x0)],.val false [.lit (.int .i64 x1)],.val false [.lit (.int .i64 x2)]] [.val false [.lit (.bool r)]] [] := by
 refine cW Tryz.func102 (fun g d => sl [g 0,g 1] .ret) [.tmp 6] fun cx => ?_
 unfold za at H
 refine gA 1 7 0 ?_
 refine rA 4 ?_
 refine sL 1029 0 ⟨15,0,[sB 10 (decide (x0 ≥ x1)),sI 0 x0,sI 2 x2],[]⟩ ?_
 cases h1 : (decide (x0 ≥ x1))
 ·have H := zI h1 H
  refine uA 5 64 0 ?_
  exact te (fF H)
 have H := zJ h1 H
 refine uA 5 64 0 ?_
 exact te (fJ [(false,[cB (decide (x0 ≤ x2))])] H)
def YA (n : Nat) (x0 : Int) (y5 : (List Int)) : Option (zD) :=
  (some (⟨[(⟨1,(IntKind.wrap .i64 ((IntKind.wrap .i64 (1 * 2 ^ min (((IntKind.wrap .u64 x0) : Int)).toNat (IntKind.bits .i64))) - 1)),(IntKind.wrap .i64 ((IntKind.wrap .i64 (1 * 2 ^ min (((IntKind.wrap .u64 x0) : Int)).toNat (IntKind.bits .i64))) - 1))⟩ : zC)],y5⟩ : zD))
def ZN (n : Nat) : Nat → Int → Int → (List Int) → Option (((List Int)) ⊕ (zD))
  | 0,_,_,_ => none
  | mo6 + 1,x0,y3,y4 => (bif (decide (y3 < x0)) then (bif (decide (y4.length + [1].length ≤ 268435456)) then (ZN n mo6 x0 (IntKind.wrap .i64 (y3 + 1)) (y4 ++ [1])) else none) else (some (Sum.inl y4)))
def QQ (n : Nat) (x0 : Int) : Option (zD) :=
  ((za n x0 1 6).bind fun r1 => (bif (!r1) then (some (⟨([] : List zC),([] : List Int)⟩ : zD)) else (bif (decide ((0 : Int) ≤ (IntKind.wrap .u64 x0))) then ((ZN n n x0 0 ([] : List Int)).bind fun o => match o with | .inl y5 => (YA n x0 y5) | .inr r => some r) else none)))
theorem zDd (n : Nat) (x0 : Int) (r : zD) (H : QQ n x0 = some r) : zG Tryz.prog 107 [.val false [.lit (.int .i64 x0)]] [.val true (zD.row r)] [] := by
 refine cW Tryz.func107 (fun g d => sl [g 0,sl [g 1] (cn 8 (sl [g 2] .ret) .skip),g 3,g 4,sl [g 5] (.block 0 (.loop (sl [sl [g 6] (cn 21 .skip (.exit 0)),.block 1 (g 8)] (g 7)))),g 9] .ret) [.cell 2 29] fun cx => ?_
 unfold QQ at H
 refine gA 1 5 4 ?_
 refine tS ?_
 refine rA 1 ?_
 obtain ⟨r1,er1,H⟩ := bs H
 refine vA [.rd,.rd,.rd] (zZ n x0 1 6 r1 er1) ?_
 refine uA 1 261 4 ?_
 obtain ⟨h1,H⟩ | ⟨h1,H⟩ := bC H
 ·refine nA h1 ?_
  refine tK ?_
  refine rA 2 ?_
  obtain ⟨hg2,H⟩ := gs H
  refine LAt.binC tOk (op := .shl) (t := 3) (ty := 163) (ty' := 3) (x := (.const (.int .i64 1))) (y := (.tmp 11)) (d := 12) (g := none) (.int .i64 1) (.int .u64 (IntKind.wrap .u64 x0)) (.int .i64 (IntKind.wrap .i64 (1 * 2 ^ min (((IntKind.wrap .u64 x0) : Int)).toNat (IntKind.bits .i64)))) _ kr kr kr kr kr (φ := (0 : Int) ≤ (IntKind.wrap .u64 x0)) kr (of_decide_eq_true hg2) rfl ?_
  refine uA 2 13 4 ?_
  refine gA 7 21 20 ?_
  refine tS ?_
  refine gA 1 53 20 ?_
  obtain ⟨o6,eo6,Ho6⟩ := bs H
  clear H
  refine Tr.mid (ι := (List Int)) (fun v => ⟨30,0,[sA 4 4 2 0,sA 2 2 2 0],[(4,[cL 3 [(⟨1,(IntKind.wrap .i64 ((IntKind.wrap .i64 (1 * 2 ^ min (((IntKind.wrap .u64 x0) : Int)).toNat (IntKind.bits .i64))) - 1)),(IntKind.wrap .i64 ((IntKind.wrap .i64 (1 * 2 ^ min (((IntKind.wrap .u64 x0) : Int)).toNat (IntKind.bits .i64))) - 1))⟩ : zC)] zC.row,cL 1 v intRow]),(2,[cL 3 ([] : List zC) zC.row,cL 1 ([] : List Int) intRow])]⟩) (fun v => YA n x0 v = some r) ?_ ?_
  ·refine tB ?_
   refine Tr.loop (ι := Nat × (Int × (List Int))) (fun v => ⟨30,0,[sI 5 v.2.1,sA 4 4 2 0,sA 2 2 2 0,sI 0 x0],[(4,[cL 3 [(⟨1,(IntKind.wrap .i64 ((IntKind.wrap .i64 (1 * 2 ^ min (((IntKind.wrap .u64 x0) : Int)).toNat (IntKind.bits .i64))) - 1)),(IntKind.wrap .i64 ((IntKind.wrap .i64 (1 * 2 ^ min (((IntKind.wrap .u64 x0) : Int)).toNat (IntKind.bits .i64))) - 1))⟩ : zC)] zC.row,cL 1 v.2.2 intRow]),(2,[cL 3 ([] : List zC) zC.row,cL 1 ([] : List Int) intRow])]⟩) (fun v => ZN n v.1 x0 v.2.1 v.2.2 = some o6) (fun v => v.1) (n,(0,([] : List Int))) eo6 (St.sub_of [5,4,2,0] [4,2] kr) ?_
   rintro ⟨mo6,y3,y4⟩ H
   have H : ZN n mo6 x0 y3 y4 = some o6 := H
   obtain _ | mo6 := mo6
   ·exact nN H
   rw [ZN] at H
   refine tS ?_
   refine gA 3 2097205 20 ?_
   obtain ⟨h2,H⟩ | ⟨h2,H⟩ := bC H
   ·refine nA h2 ?_
    refine Tr.exit ?_
    refine aJ ?_
    obtain rfl := si H
    have H := Ho6
    dsimp only at H
    exact jA y4 H [4,2] [4,2]
   refine tA h2 ?_
   refine tK ?_
   refine tS ?_
   refine tB ?_
   refine Tr.at ?_
   refine lA 3 ?_
   obtain ⟨hg7,H⟩ := gs H
   refine LAt.appMU tOk (t := 27) (ty := 27) (e := 3) (x := (.tmp 25)) (y := (.tmp 26)) (d := 27) (g := none) (tI 3) intRow y4 [1] kr kr kr kr kr kr kr kr kr kr hg7 ?_
   refine uA 2 53 20 ?_
   refine eA 3 53 20 ?_
   exact jB mo6 ((IntKind.wrap .i64 (y3 + 1)),(y4 ++ [1])) H [5,4,2,0] [4,2]
  rintro y5 H
  have H : (YA n x0 y5) = some r := H
  unfold YA at H
  refine gA 2 4 4 ?_
  exact te (fJ [(true,[cL 3 [(⟨1,(IntKind.wrap .i64 ((IntKind.wrap .i64 (1 * 2 ^ min (((IntKind.wrap .u64 x0) : Int)).toNat (IntKind.bits .i64))) - 1)),(IntKind.wrap .i64 ((IntKind.wrap .i64 (1 * 2 ^ min (((IntKind.wrap .u64 x0) : Int)).toNat (IntKind.bits .i64))) - 1))⟩ : zC)] zC.row,cL 1 y5 intRow])] H)
 refine tA h1 ?_
 refine gA 2 4 4 ?_
 exact te (fJ [(true,[cL 3 ([] : List zC) zC.row,cL 1 ([] : List Int) intRow])] H)
def YH (n : Nat) (r3 : zD) (x0 : Int) (y6 : (List Pt)) : Option (zA) :=
  (some (⟨x0,(⟨#[]⟩ : ByteArray),y6,([] : List zB),r3,0,0,0,0,0⟩ : zA))
def QT (n : Nat) : Nat → Int → Int → (List Pt) → Option (((List Pt)) ⊕ (zA))
  | 0,_,_,_ => none
  | mo7 + 1,x1,y4,y5 => (bif (decide (y4 < x1)) then (bif (decide (y5.length + [(⟨false,1,false,(⟨0,0,0,0,0⟩ : Vec)⟩ : Pt)].length ≤ 268435456)) then (QT n mo7 x1 (IntKind.wrap .i64 (y4 + 1)) (y5 ++ [(⟨false,1,false,(⟨0,0,0,0,0⟩ : Vec)⟩ : Pt)])) else none) else (some (Sum.inl y5)))
def qs (n : Nat) (x0 : Int) (x1 : Int) : Option (zA) :=
  ((za n x0 1 99).bind fun r1 => (bif (!r1) then (some (⟨0,(⟨#[]⟩ : ByteArray),([] : List Pt),([] : List zB),(⟨([] : List zC),([] : List Int)⟩ : zD),0,0,0,0,0⟩ : zA)) else ((za n x1 1 6).bind fun r2 => (bif (!r2) then (some (⟨0,(⟨#[]⟩ : ByteArray),([] : List Pt),([] : List zB),(⟨([] : List zC),([] : List Int)⟩ : zD),0,0,0,0,0⟩ : zA)) else ((QQ n x1).bind fun r3 => ((QT n n x1 0 ([] : List Pt)).bind fun o => match o with | .inl y6 => (YH n r3 x0 y6) | .inr r => some r))))))
theorem zCT (n : Nat) (x0 : Int) (x1 : Int) (r : zA) (H : qs n x0 x1 = some r) : zG Tryz.prog 26 [.val false [.lit (.int .i64 x0)],.val false [.lit (.int .i64 x1)]] [.val true (zA.row r)] [] := by
 refine cW Tryz.func26 (fun g d => sl [g 0,sl [g 1] (cn 14 (sl [g 2] .ret) .skip),g 3,sl [g 4] (.block 0 (.loop (sl [sl [g 5] (cn 22 .skip (.exit 0)),.block 1 (g 7)] (g 6)))),g 8] .ret) [.cell 4 31] fun cx => ?_
 unfold qs at H
 refine gA 1 19 16 ?_
 refine tS ?_
 refine rA 1 ?_
 obtain ⟨r1,er1,H⟩ := bs H
 refine vA [.rd,.rd,.rd] (zZ n x0 1 99 r1 er1) ?_
 refine lA 2 ?_
 refine sL 1043 16 ⟨32,0,[sB 10 (!r1),sA 4 4 11 0,sI 0 x0,sI 1 x1],[(4,[cI 0,cS (⟨#[]⟩ : ByteArray),cL 8 ([] : List Pt) Pt.row,cL 5 ([] : List zB) zB.row,cL 3 ([] : List zC) zC.row,cL 1 ([] : List Int) intRow,cI 0,cI 0,cI 0,cI 0,cI 0])]⟩ ?_
 cases h1 : (!r1)
 ·have H := zI h1 H
  refine lA 1 ?_
  obtain ⟨r2,er2,H⟩ := bs H
  refine vA [.rd,.rd,.rd] (zZ n x1 1 6 r2 er2) ?_
  refine uA 2 16403 16 ?_
  obtain ⟨h2,H⟩ | ⟨h2,H⟩ := bC H
  ·refine nA h2 ?_
   refine tK ?_
   refine rA 2 ?_
   obtain ⟨r3,er3,H⟩ := bs H
   refine vA [.rd] (zDd n x1 r3 er3) ?_
   refine uA 3 50 48 ?_
   refine tS ?_
   refine gA 1 114 48 ?_
   obtain ⟨o7,eo7,Ho7⟩ := bs H
   clear H
   refine Tr.mid (ι := (List Pt)) (fun v => ⟨32,0,[sA 5 5 11 0,sA 4 4 11 0],[(5,[cI x0,cS (⟨#[]⟩ : ByteArray),cL 8 v Pt.row,cL 5 ([] : List zB) zB.row,cL 3 r3.Rows zC.row,cL 1 r3.Pv intRow,cI 0,cI 0,cI 0,cI 0,cI 0]),(4,[cI 0,cS (⟨#[]⟩ : ByteArray),cL 8 ([] : List Pt) Pt.row,cL 5 ([] : List zB) zB.row,cL 3 ([] : List zC) zC.row,cL 1 ([] : List Int) intRow,cI 0,cI 0,cI 0,cI 0,cI 0])]⟩) (fun v => YH n r3 x0 v = some r) ?_ ?_
   ·refine tB ?_
    refine Tr.loop (ι := Nat × (Int × (List Pt))) (fun v => ⟨32,0,[sI 6 v.2.1,sA 5 5 11 0,sA 4 4 11 0,sI 1 x1],[(5,[cI x0,cS (⟨#[]⟩ : ByteArray),cL 8 v.2.2 Pt.row,cL 5 ([] : List zB) zB.row,cL 3 r3.Rows zC.row,cL 1 r3.Pv intRow,cI 0,cI 0,cI 0,cI 0,cI 0]),(4,[cI 0,cS (⟨#[]⟩ : ByteArray),cL 8 ([] : List Pt) Pt.row,cL 5 ([] : List zB) zB.row,cL 3 ([] : List zC) zC.row,cL 1 ([] : List Int) intRow,cI 0,cI 0,cI 0,cI 0,cI 0])]⟩) (fun v => QT n v.1 x1 v.2.1 v.2.2 = some o7) (fun v => v.1) (n,(0,([] : List Pt))) eo7 (St.sub_of [6,5,4,1] [5,4] kr) ?_
    rintro ⟨mo7,y4,y5⟩ H
    have H : QT n mo7 x1 y4 y5 = some o7 := H
    obtain _ | mo7 := mo7
    ·exact nN H
    rw [QT] at H
    refine tS ?_
    refine gA 3 4194418 48 ?_
    obtain ⟨h3,H⟩ | ⟨h3,H⟩ := bC H
    ·refine nA h3 ?_
     refine Tr.exit ?_
     refine aJ ?_
     obtain rfl := si H
     have H := Ho7
     dsimp only at H
     exact jA y5 H [5,4] [5,4]
    refine tA h3 ?_
    refine tK ?_
    refine tS ?_
    refine tB ?_
    refine Tr.at ?_
    refine lA 4 ?_
    obtain ⟨hg8,H⟩ := gs H
    refine LAt.appMU tOk (t := 24) (ty := 24) (e := 100) (x := (.tmp 26)) (y := (.tmp 28)) (d := 29) (g := none) (tI 100) Pt.row y5 [(⟨false,1,false,(⟨0,0,0,0,0⟩ : Vec)⟩ : Pt)] kr kr kr kr kr kr kr kr kr kr hg8 ?_
    refine uA 2 114 48 ?_
    refine eA 3 114 48 ?_
    exact jB mo7 ((IntKind.wrap .i64 (y4 + 1)),(y5 ++ [(⟨false,1,false,(⟨0,0,0,0,0⟩ : Vec)⟩ : Pt)])) H [6,5,4,1] [5,4]
   rintro y6 H
   have H : (YH n r3 x0 y6) = some r := H
   unfold YH at H
   refine gA 2 16 16 ?_
   exact te (fJ [(true,[cI x0,cS (⟨#[]⟩ : ByteArray),cL 8 y6 Pt.row,cL 5 ([] : List zB) zB.row,cL 3 r3.Rows zC.row,cL 1 r3.Pv intRow,cI 0,cI 0,cI 0,cI 0,cI 0])] H)
  refine tA h2 ?_
  refine gA 2 16 16 ?_
  exact te (fJ [(true,[cI 0,cS (⟨#[]⟩ : ByteArray),cL 8 ([] : List Pt) Pt.row,cL 5 ([] : List zB) zB.row,cL 3 ([] : List zC) zC.row,cL 1 ([] : List Int) intRow,cI 0,cI 0,cI 0,cI 0,cI 0])] H)
 have H := zJ h1 H
 refine uA 4 16403 16 ?_
 refine tB_ ?_
 refine gA 2 16 16 ?_
 exact te (fJ [(true,[cI 0,cS (⟨#[]⟩ : ByteArray),cL 8 ([] : List Pt) Pt.row,cL 5 ([] : List zB) zB.row,cL 3 ([] : List zC) zC.row,cL 1 ([] : List Int) intRow,cI 0,cI 0,cI 0,cI 0,cI 0])] H)
def Qc (n : Nat) (x0 : Src) (x1 : (List ByteArray)) : Option (ByteArray × Src) :=
  ((zN n x0 (x1.length : Int)).bind fun r1 => ((idx x1 r1.1).bind fun v2 => (some (v2,r1.2))))
noncomputable abbrev zJQ (k : Nat) := Rg Tryz.f151 k
theorem zFC (n : Nat) (x0 : Src) (x1 : (List ByteArray)) (r : ByteArray × Src) (H : Qc n x0 x1 = some r) : zG Tryz.prog 151 [.ptr (CV.frzRow (Src.row x0)),.val false [.sl false 1 (CV.frzEs (x1.map zFK))]] [.val false [.lit (.string r.1)]] [(0,(CV.frzRow (Src.row r.2)))] := by
 refine zG.of_body tOk Tryz.func151 rfl (c := (.seq (zJQ 0) (.seq (zJQ 1) .ret))) kr (Nat.le_of_ble_eq_true kr) 1 (rs := [.tmp 4]) rfl [] .nil [(false,[.lit (.string r.1)])] [] [(0,(CV.frzRow (Src.row r.2)))] fun cx => ?_
 show Tr _ _ _ ⟨12,1,[sA 0 0 3 0,sC 1 (cF 1 x1 zFK)],[(0,(CV.frzRow (Src.row x0)))]⟩ _
 unfold Qc at H
 refine gA 1 3 1 ?_
 refine rA 3 ?_
 refine kF x1 zFK ?_
 obtain ⟨r1,er1,H⟩ := bs H
 refine LAt.callL tOk [.lend,.rd] (f := 119) (av := #[.tmp 6,.tmp 8]) (ats := #[91,3]) (d := (some 9)) (ty := 3) (g := none) kr kr kr [] (zQ n x0 (x1.length : Int) r1 er1) kr (.inl rfl) ?_
 obtain ⟨v2,ev2,H⟩ := bs H
 refine iA zFK ev2 ?_
 refine uA 2 17 1 ?_
 refine te ?_
 obtain rfl := si H
 exact Fin.ofY _ [(false,[cS v2])] [] _ [] _ [(0,(CV.frzRow (Src.row r1.2)))] kr rfl rfl rfl kr kr kr kr rfl rfl rfl
def ZA (n : Nat) (x0 : Src) (x1 : Int) : Option (Bool × Src) :=
  ((zN n x0 x1).bind fun r1 => (some ((r1.1 == 0),r1.2)))
noncomputable abbrev G80 (k : Nat) := Rg Tryz.f80 k
theorem Jj (n : Nat) (x0 : Src) (x1 : Int) (r : Bool × Src) (H : ZA n x0 x1 = some r) : zG Tryz.prog 80 [.ptr (CV.frzRow (Src.row x0)),.val false [.lit (.int .i64 x1)]] [.val false [.lit (.bool r.1)]] [(0,(CV.frzRow (Src.row r.2)))] := by
 refine zG.of_body tOk Tryz.func80 rfl (c := (.seq (G80 0) (.seq (G80 1) .ret))) kr (Nat.le_of_ble_eq_true kr) 1 (rs := [.tmp 4]) rfl [] .nil [(false,[.lit (.bool r.1)])] [] [(0,(CV.frzRow (Src.row r.2)))] fun cx => ?_
 show Tr _ _ _ ⟨9,1,[sA 0 0 3 0,sI 1 x1],[(0,(CV.frzRow (Src.row x0)))]⟩ _
 unfold ZA at H
 refine gA 1 3 1 ?_
 refine rA 2 ?_
 obtain ⟨r1,er1,H⟩ := bs H
 refine LAt.callL tOk [.lend,.rd] (f := 119) (av := #[.tmp 5,.tmp 6]) (ats := #[91,3]) (d := (some 7)) (ty := 3) (g := none) kr kr kr [] (zQ n x0 x1 r1 er1) kr (.inl rfl) ?_
 refine uA 2 17 1 ?_
 refine te ?_
 obtain rfl := si H
 exact Fin.ofY _ [(false,[cB (r1.1 == 0)])] [] _ [] _ [(0,(CV.frzRow (Src.row r1.2)))] kr rfl rfl rfl kr kr kr kr rfl rfl rfl
def zc (n : Nat) (x0 : Src) (x1 : (List Int)) : Option (Int × Src) :=
  ((zN n x0 (x1.length : Int)).bind fun r1 => ((idx x1 r1.1).bind fun v2 => (some (v2,r1.2))))
noncomputable abbrev G78 (k : Nat) := Rg Tryz.f78 k
theorem zr (n : Nat) (x0 : Src) (x1 : (List Int)) (r : Int × Src) (H : zc n x0 x1 = some r) : zG Tryz.prog 78 [.ptr (CV.frzRow (Src.row x0)),.val false [.sl false 1 (CV.frzEs (x1.map intRow))]] [.val false [.lit (.int .i64 r.1)]] [(0,(CV.frzRow (Src.row r.2)))] := by
 refine zG.of_body tOk Tryz.func78 rfl (c := (.seq (G78 0) (.seq (G78 1) .ret))) kr (Nat.le_of_ble_eq_true kr) 1 (rs := [.tmp 4]) rfl [] .nil [(false,[.lit (.int .i64 r.1)])] [] [(0,(CV.frzRow (Src.row r.2)))] fun cx => ?_
 show Tr _ _ _ ⟨12,1,[sA 0 0 3 0,sC 1 (cF 1 x1 intRow)],[(0,(CV.frzRow (Src.row x0)))]⟩ _
 unfold zc at H
 refine gA 1 3 1 ?_
 refine rA 3 ?_
 refine kF x1 intRow ?_
 obtain ⟨r1,er1,H⟩ := bs H
 refine LAt.callL tOk [.lend,.rd] (f := 119) (av := #[.tmp 6,.tmp 8]) (ats := #[91,3]) (d := (some 9)) (ty := 3) (g := none) kr kr kr [] (zQ n x0 (x1.length : Int) r1 er1) kr (.inl rfl) ?_
 obtain ⟨v2,ev2,H⟩ := bs H
 refine iA intRow ev2 ?_
 refine uA 2 17 1 ?_
 refine te ?_
 obtain rfl := si H
 exact Fin.ofY _ [(false,[cI v2])] [] _ [] _ [(0,(CV.frzRow (Src.row r1.2)))] kr rfl rfl rfl kr kr kr kr rfl rfl rfl
def QH (n : Nat) (x0 : Src) : Option (Vec × Src) :=
  ((zN n x0 5).bind fun r1 => ((zc n r1.2 [0,1,2,5,10,100]).bind fun r2 => ((zc n r2.2 [0,1,2,9,10]).bind fun r3 => ((zN n r3.2 5).bind fun r4 => ((zN n r4.2 4).bind fun r5 => (some ((⟨(IntKind.wrap .i64 (1 + r1.1)),r2.1,r3.1,(IntKind.wrap .i64 (1 + r4.1)),r5.1⟩ : Vec),r5.2)))))))
noncomputable abbrev zJR (k : Nat) := Rg Tryz.f155 k
theorem zEH (n : Nat) (x0 : Src) (r : Vec × Src) (H : QH n x0 = some r) : zG Tryz.prog 155 [.ptr (CV.frzRow (Src.row x0))] [.val true (Vec.row r.1)] [(0,(CV.frzRow (Src.row r.2)))] := by
 refine zG.of_body tOk Tryz.func155 rfl (c := (.seq (zJR 0) (.seq (zJR 1) .ret))) kr (Nat.le_of_ble_eq_true kr) 1 (rs := [.cell 2 33]) rfl [] .nil [(true,(Vec.row r.1))] [] [(0,(CV.frzRow (Src.row r.2)))] fun cx => ?_
 show Tr _ _ _ ⟨18,1,[sA 0 0 3 0],[(0,(CV.frzRow (Src.row x0)))]⟩ _
 unfold QH at H
 refine gA 1 5 5 ?_
 refine rA 1 ?_
 obtain ⟨r1,er1,H⟩ := bs H
 refine LAt.callL tOk [.lend,.rd] (f := 119) (av := #[.tmp 3,.const (.int .i64 5)]) (ats := #[91,3]) (d := (some 4)) (ty := 3) (g := none) kr kr kr [] (zQ n x0 5 r1 er1) kr (.inl rfl) ?_
 refine lA 3 ?_
 obtain ⟨r2,er2,H⟩ := bs H
 refine LAt.callL tOk [.lend,.rd] (f := 78) (av := #[.tmp 6,.tmp 7]) (ats := #[91,27]) (d := (some 8)) (ty := 3) (g := none) kr kr kr [] (zr n r1.2 [0,1,2,5,10,100] r2 er2) kr (.inl rfl) ?_
 refine lA 2 ?_
 obtain ⟨r3,er3,H⟩ := bs H
 refine LAt.callL tOk [.lend,.rd] (f := 78) (av := #[.tmp 9,.tmp 10]) (ats := #[91,27]) (d := (some 11)) (ty := 3) (g := none) kr kr kr [] (zr n r2.2 [0,1,2,9,10] r3 er3) kr (.inl rfl) ?_
 refine lA 1 ?_
 obtain ⟨r4,er4,H⟩ := bs H
 refine LAt.callL tOk [.lend,.rd] (f := 119) (av := #[.tmp 12,.const (.int .i64 5)]) (ats := #[91,3]) (d := (some 13)) (ty := 3) (g := none) kr kr kr [] (zQ n r3.2 5 r4 er4) kr (.inl rfl) ?_
 refine lA 2 ?_
 obtain ⟨r5,er5,H⟩ := bs H
 refine LAt.callL tOk [.lend,.rd] (f := 119) (av := #[.tmp 15,.const (.int .i64 4)]) (ats := #[91,3]) (d := (some 16)) (ty := 3) (g := none) kr kr kr [] (zQ n r4.2 4 r5 er5) kr (.inl rfl) ?_
 refine uA 2 5 5 ?_
 refine te ?_
 obtain rfl := si H
 exact Fin.ofY _ [(true,[cI (IntKind.wrap .i64 (1 + r1.1)),cI r2.1,cI r3.1,cI (IntKind.wrap .i64 (1 + r4.1)),cI r5.1])] [] _ [] _ [(0,(CV.frzRow (Src.row r5.2)))] kr rfl rfl rfl kr kr kr kr rfl rfl rfl
def Y2 (n : Nat) (y6 : (List Pt)) (y7 : (List Int)) (y8 : Int) (y9 : Int) : Option ((List Pt) × Src) :=
  (some (y6,(⟨y7,y8,y9⟩ : Src)))
def Zo (n : Nat) (k : (Int × (List Pt) × (List Int) × Int × Int → Option (((List Pt) × (List Int) × Int × Int) ⊕ ((List Pt) × Src)))) (r12 : Int × Src) (y1 : Int) (y2 : (List Pt)) (y13 : Bool) (y14 : Bool) (y15 : Int) (y16 : Int) (y17 : Int) (y18 : Int) (y19 : Int) (y20 : (List Int)) (y21 : Int) (y22 : Int) : Option (((List Pt) × (List Int) × Int × Int) ⊕ ((List Pt) × Src)) :=
  (bif (decide (y2.length + [(⟨y13,r12.1,y14,(⟨y15,y16,y17,y18,y19⟩ : Vec)⟩ : Pt)].length ≤ 268435456)) then (k ((IntKind.wrap .i64 (y1 + 1)),(y2 ++ [(⟨y13,r12.1,y14,(⟨y15,y16,y17,y18,y19⟩ : Vec)⟩ : Pt)]),y20,y21,y22)) else none)
def qQ (n : Nat) : Nat → Int → Int → (List Pt) → (List Int) → Int → Int → Option (((List Pt) × (List Int) × Int × Int) ⊕ ((List Pt) × Src))
  | 0,_,_,_,_,_,_ => none
  | mo10 + 1,x1,y1,y2,y3,y4,y5 => (bif (decide (y1 < x1)) then ((ZA n (⟨y3,y4,y5⟩ : Src) 4).bind fun r11 => ((zc n r11.2 [1,1,2,5,10]).bind fun r12 => (bif (!r11.1) then ((ZA n r12.2 4).bind fun r24 => (bif (!r24.1) then ((QH n r24.2).bind fun r25 => (Zo n (fun v => qQ n mo10 x1 v.1 v.2.1 v.2.2.1 v.2.2.2.1 v.2.2.2.2) r12 y1 y2 true true r25.1.Root r25.1.Co r25.1.Hops r25.1.Bridge r25.1.Port r25.2.b r25.2.i r25.2.h)) else (Zo n (fun v => qQ n mo10 x1 v.1 v.2.1 v.2.2.1 v.2.2.2.1 v.2.2.2.2) r12 y1 y2 true false 0 0 0 0 0 r24.2.b r24.2.i r24.2.h))) else (Zo n (fun v => qQ n mo10 x1 v.1 v.2.1 v.2.2.1 v.2.2.2.1 v.2.2.2.2) r12 y1 y2 false false 0 0 0 0 0 r12.2.b r12.2.i r12.2.h)))) else (some (Sum.inl (y2,y3,y4,y5))))
def Zw (n : Nat) (x0 : Src) (x1 : Int) : Option ((List Pt) × Src) :=
  ((qQ n n x1 0 ([] : List Pt) x0.b x0.i x0.h).bind fun o => match o with | .inl (y6,y7,y8,y9) => (Y2 n y6 y7 y8 y9) | .inr r => some r)
noncomputable abbrev zBW (k : Nat) := Rg Tryz.f181 k
theorem zDe (n : Nat) (x0 : Src) (x1 : Int) (r : (List Pt) × Src) (H : Zw n x0 x1 = some r) : zG Tryz.prog 181 [.ptr (CV.frzRow (Src.row x0)),.val false [.lit (.int .i64 x1)]] [.val false [.sl true 8 (r.1.map Pt.row)]] [(0,(CV.frzRow (Src.row r.2)))] := by
 refine zG.of_body tOk Tryz.func181 rfl (c := (.seq (zBW 0) (.seq (zBW 1) (.seq (.seq (zBW 2) (.block 0 (.loop (.seq (.seq (zBW 3) (.cond (.tmp 11) .skip (.exit 0))) (.seq (.block 1 (.seq (zBW 5) (.seq (.seq (zBW 6) (.cond (.tmp 27) (.seq (zBW 7) (zBW 8)) .skip)) (zBW 9)))) (zBW 4)))))) (.seq (zBW 10) .ret))))) kr (Nat.le_of_ble_eq_true kr) 1 (rs := [.tmp 4]) rfl [] .nil [(false,[.sl true 8 (r.1.map Pt.row)])] [] [(0,(CV.frzRow (Src.row r.2)))] fun cx => ?_
 show Tr _ _ _ ⟨37,1,[sA 0 0 3 0,sI 1 x1],[(0,(CV.frzRow (Src.row x0)))]⟩ _
 unfold Zw at H
 refine gA 1 3 1 ?_
 refine rA 1 ?_
 refine LAt.moveU (T := lk tab) (ty := 24) (x := (.tmp 8)) (d := 5) (g := none) false [cL 8 ([] : List Pt) Pt.row] kr kr kr kr kr ?_
 refine dA 35 1 ?_
 refine tS ?_
 refine gA 1 99 1 ?_
 obtain ⟨o10,eo10,Ho10⟩ := bs H
 clear H
 refine Tr.mid (ι := (List Pt) × (List Int) × Int × Int) (fun v => ⟨37,1,[sC 5 (cL 8 v.1 Pt.row),sA 0 0 3 0],[(0,[cF 1 v.2.1 zk,cI v.2.2.1,cI v.2.2.2])]⟩) (fun v => Y2 n v.1 v.2.1 v.2.2.1 v.2.2.2 = some r) ?_ ?_
 ·refine tB ?_
  refine Tr.loop (ι := Nat × (Int × (List Pt) × (List Int) × Int × Int)) (fun v => ⟨37,1,[sI 6 v.2.1,sC 5 (cL 8 v.2.2.1 Pt.row),sA 0 0 3 0,sI 1 x1],[(0,[cF 1 v.2.2.2.1 zk,cI v.2.2.2.2.1,cI v.2.2.2.2.2])]⟩) (fun v => qQ n v.1 x1 v.2.1 v.2.2.1 v.2.2.2.1 v.2.2.2.2.1 v.2.2.2.2.2 = some o10) (fun v => v.1) (n,(0,([] : List Pt),x0.b,x0.i,x0.h)) eo10 (St.sub_of [6,5,0,1] [0] kr) ?_
  rintro ⟨mo10,y1,y2,y3,y4,y5⟩ H
  have H : qQ n mo10 x1 y1 y2 y3 y4 y5 = some o10 := H
  obtain _ | mo10 := mo10
  ·exact nN H
  rw [qQ] at H
  refine tS ?_
  refine gA 3 2147 1 ?_
  obtain ⟨h1,H⟩ | ⟨h1,H⟩ := bC H
  ·refine nA h1 ?_
   refine Tr.exit ?_
   refine aJ ?_
   obtain rfl := si H
   have H := Ho10
   dsimp only at H
   exact jA (y2,y3,y4,y5) H [5,0] [0]
  refine tA h1 ?_
  refine tK ?_
  refine tS ?_
  refine tB ?_
  refine rA 1 ?_
  obtain ⟨r11,er11,H⟩ := bs H
  refine LAt.callL tOk [.lend,.rd] (f := 80) (av := #[.tmp 14,.const (.int .i64 4)]) (ats := #[91,3]) (d := (some 15)) (ty := 4) (g := none) kr kr kr [] (Jj n (⟨y3,y4,y5⟩ : Src) 4 r11 er11) kr (.inl rfl) ?_
  refine lA 3 ?_
  obtain ⟨r12,er12,H⟩ := bs H
  refine LAt.callL tOk [.lend,.rd] (f := 78) (av := #[.tmp 17,.tmp 18]) (ats := #[91,27]) (d := (some 19)) (ty := 3) (g := none) kr kr kr [] (zr n r11.2 [1,1,2,5,10] r12 er12) kr (.inl rfl) ?_
  refine uA 3 227 129 ?_
  refine tS ?_
  refine Tr.mid (ι := Bool × Bool × Int × Int × Int × Int × Int × (List Int) × Int × Int) (fun v => ⟨37,1,[sA 7 7 8 0,sI 6 y1,sC 5 (cL 8 y2 Pt.row),sA 0 0 3 0,sI 1 x1],[(7,[cB v.1,cI r12.1,cB v.2.1,cI v.2.2.1,cI v.2.2.2.1,cI v.2.2.2.2.1,cI v.2.2.2.2.2.1,cI v.2.2.2.2.2.2.1]),(0,[cF 1 v.2.2.2.2.2.2.2.1 zk,cI v.2.2.2.2.2.2.2.2.1,cI v.2.2.2.2.2.2.2.2.2])]⟩) (fun v => Zo n (fun v => qQ n mo10 x1 v.1 v.2.1 v.2.2.1 v.2.2.2.1 v.2.2.2.2) r12 y1 y2 v.1 v.2.1 v.2.2.1 v.2.2.2.1 v.2.2.2.2.1 v.2.2.2.2.2.1 v.2.2.2.2.2.2.1 v.2.2.2.2.2.2.2.1 v.2.2.2.2.2.2.2.2.1 v.2.2.2.2.2.2.2.2.2 = some o10) ?_ ?_
  ·refine tS ?_
   refine Tr.at ?_
   refine lA 3 ?_
   refine sL 8388835 129 ⟨37,1,[sB 23 (!r11.1),sA 7 7 8 0,sI 6 y1,sC 5 (cL 8 y2 Pt.row),sA 0 0 3 0,sI 1 x1],[(7,[cB (!r11.1),cI r12.1,cB false,cI 0,cI 0,cI 0,cI 0,cI 0]),(0,(CV.frzRow (Src.row r12.2)))]⟩ ?_
   cases h2 : (!r11.1)
   ·have H := zI h2 H
    refine uA 4 134217955 129 ?_
    refine nB_ ?_
    refine tK ?_
    exact jA (false,false,0,0,0,0,0,r12.2.b,r12.2.i,r12.2.h) H [7,6,5,0,1] [7,0]
   have H := zJ h2 H
   refine lA 1 ?_
   obtain ⟨r24,er24,H⟩ := bs H
   refine LAt.callL tOk [.lend,.rd] (f := 80) (av := #[.tmp 24,.const (.int .i64 4)]) (ats := #[91,3]) (d := (some 25)) (ty := 4) (g := (some (2,true))) kr kr kr [] (Jj n r12.2 4 r24 er24) kr (.inl rfl) ?_
   refine uA 2 134217955 129 ?_
   obtain ⟨h3,H⟩ | ⟨h3,H⟩ := bC H
   ·refine nA h3 ?_
    refine tK ?_
    exact jA (true,false,0,0,0,0,0,r24.2.b,r24.2.i,r24.2.h) H [7,6,5,0,1] [7,0]
   refine tA h3 ?_
   refine gA 2 227 129 ?_
   refine Tr.at ?_
   refine lA 1 ?_
   obtain ⟨r25,er25,H⟩ := bs H
   refine LAt.callL tOk [.lend] (f := 155) (av := #[.tmp 29]) (ats := #[91]) (d := (some 30)) (ty := 33) (g := none) kr kr kr [] (zEH n r24.2 r25 er25) kr (.inl rfl) ?_
   refine uA 2 227 129 ?_
   exact jA (true,true,r25.1.Root,r25.1.Co,r25.1.Hops,r25.1.Bridge,r25.1.Port,r25.2.b,r25.2.i,r25.2.h) H [7,6,5,0,1] [7,0]
  rintro ⟨y13,y14,y15,y16,y17,y18,y19,y20,y21,y22⟩ H
  have H : (Zo n (fun v => qQ n mo10 x1 v.1 v.2.1 v.2.2.1 v.2.2.2.1 v.2.2.2.2) r12 y1 y2 y13 y14 y15 y16 y17 y18 y19 y20 y21 y22) = some o10 := H
  unfold Zo at H
  refine Tr.at ?_
  refine lA 3 ?_
  obtain ⟨hg23,H⟩ := gs H
  refine LAt.appMU tOk (t := 24) (ty := 24) (e := 100) (x := (.tmp 32)) (y := (.tmp 34)) (d := 35) (g := none) (tI 100) Pt.row y2 [(⟨y13,r12.1,y14,(⟨y15,y16,y17,y18,y19⟩ : Vec)⟩ : Pt)] kr kr kr kr kr kr kr kr kr kr hg23 ?_
  refine LAt.moveU (T := lk tab) (ty := 24) (x := (.tmp 35)) (d := 5) (g := none) false [cL 8 (y2 ++ [(⟨y13,r12.1,y14,(⟨y15,y16,y17,y18,y19⟩ : Vec)⟩ : Pt)]) Pt.row] kr kr kr kr kr ?_
  refine dA 99 1 ?_
  refine eA 3 99 1 ?_
  exact jB mo10 ((IntKind.wrap .i64 (y1 + 1)),(y2 ++ [(⟨y13,r12.1,y14,(⟨y15,y16,y17,y18,y19⟩ : Vec)⟩ : Pt)]),y20,y21,y22) H [6,5,0,1] [0]
 rintro ⟨y6,y7,y8,y9⟩ H
 have H : (Y2 n y6 y7 y8 y9) = some r := H
 unfold Y2 at H
 refine gA 2 49 1 ?_
 refine te ?_
 obtain rfl := si H
 exact Fin.ofY _ [(false,[cL 8 y6 Pt.row])] [] _ [] _ [(0,[cF 1 y7 zk,cI y8,cI y9])] kr rfl rfl rfl kr kr kr kr rfl rfl rfl
def Jv (n : Nat) : Option (Int) :=
  (some (-1))
def ZD (n : Nat) : Nat → zD → Int → Int → Option ((Unit) ⊕ (Int))
  | 0,_,_,_ => none
  | mo2 + 1,x0,x1,y1 => (bif (decide (y1 < (x0.Rows.length : Int))) then ((idx x0.Rows y1).bind fun v3 => (bif (v3.Id == x1) then (some (Sum.inr y1)) else (ZD n mo2 x0 x1 (IntKind.wrap .i64 (y1 + 1))))) else (some (Sum.inl ())))
def Qa (n : Nat) (x0 : zD) (x1 : Int) : Option (Int) :=
  ((ZD n n x0 x1 0).bind fun o => match o with | .inl _ => (Jv n) | .inr r => some r)
theorem zE8 (n : Nat) (x0 : zD) (x1 : Int) (r : Int) (H : Qa n x0 x1 = some r) : zG Tryz.prog 172 [.val true (CV.frzRow (zD.row x0)),.val false [.lit (.int .i64 x1)]] [.val false [.lit (.int .i64 r)]] [] := by
 refine cW Tryz.func172 (fun g d => sl [g 0,sl [g 1] (.block 0 (.loop (sl [sl [g 2] (cn 10 .skip (.exit 0)),.block 1 (sl [g 4] (cn 20 (sl [g 5] .ret) .skip))] (g 3)))),g 6] .ret) [.tmp 4] fun cx => ?_
 unfold Qa at H
 refine gA 2 6 4 ?_
 refine tS ?_
 refine gA 1 38 4 ?_
 obtain ⟨o2,eo2,Ho2⟩ := bs H
 clear H
 refine Tr.mid (ι := Unit) (fun v => ⟨22,0,[],[]⟩) (fun v => Jv n = some r) ?_ ?_
 ·refine tB ?_
  refine Tr.loop (ι := Nat × (Int)) (fun v => ⟨22,0,[sI 5 v.2,sA 2 2 2 0,sI 1 x1],[(2,(CV.frzRow (zD.row x0)))]⟩) (fun v => ZD n v.1 x0 x1 v.2 = some o2) (fun v => v.1) (n,0) eo2 (St.sub_of [5,2,1] [2] kr) ?_
  rintro ⟨mo2,y1⟩ H
  have H : ZD n mo2 x0 x1 y1 = some o2 := H
  obtain _ | mo2 := mo2
  ·exact nN H
  rw [ZD] at H
  refine tS ?_
  refine rA 3 ?_
  refine kF x0.Rows zC.row ?_
  refine uA 1 1062 4 ?_
  obtain ⟨h1,H⟩ | ⟨h1,H⟩ := bC H
  ·refine nA h1 ?_
   refine Tr.exit ?_
   refine aJ ?_
   obtain rfl := si H
   have H := Ho2
   dsimp only at H
   exact jA () H [] []
  refine tA h1 ?_
  refine tK ?_
  refine tS ?_
  refine tB ?_
  refine rA 3 ?_
  obtain ⟨v3,ev3,H⟩ := bs H
  refine iA zC.row ev3 ?_
  refine uA 4 1048614 4 ?_
  obtain ⟨h2,H⟩ | ⟨h2,H⟩ := bC H
  ·refine nA h2 ?_
   refine tK ?_
   refine eA 3 38 4 ?_
   exact jB mo2 (IntKind.wrap .i64 (y1 + 1)) H [5,2,1] [2]
  refine tA h2 ?_
  refine gA 2 16 0 ?_
  refine te ?_
  obtain rfl := si H
  have H := Ho2
  dsimp only at H
  exact fJ [(false,[cI y1])] H
 rintro _ H
 have H : (Jv n) = some r := H
 unfold Jv at H
 refine gA 1 16 0 ?_
 exact te (fJ [(false,[cI (-1)])] H)
def JT (n : Nat) : Option (Bool) :=
  (some true)
def qp (n : Nat) : Nat → zD → Int → Option ((Unit) ⊕ (Bool))
  | 0,_,_ => none
  | mo5 + 1,x0,y4 => (bif (decide (y4 < (x0.Pv.length : Int))) then ((idx x0.Pv y4).bind fun v6 => ((Qa n x0 v6).bind fun r7 => (bif (decide (r7 < 0)) then (some (Sum.inr false)) else (qp n mo5 x0 (IntKind.wrap .i64 (y4 + 1)))))) else (some (Sum.inl ())))
def Z7 (n : Nat) (x0 : zD) : Option (Bool) :=
  ((qp n n x0 0).bind fun o => match o with | .inl _ => (JT n) | .inr r => some r)
def qf (n : Nat) : Nat → zD → Int → Int → Option ((Unit) ⊕ (Bool))
  | 0,_,_,_ => none
  | mo8 + 1,x0,x1,y3 => (bif (decide (y3 < (x0.Rows.length : Int))) then ((idx x0.Rows y3).bind fun v9 => ((za n v9.Id 1 99).bind fun r10 => (bif (!r10) then (some (Sum.inr false)) else ((za n v9.Members 0 (IntKind.wrap .i64 ((IntKind.wrap .i64 (1 * 2 ^ min (((IntKind.wrap .u64 x1) : Int)).toNat (IntKind.bits .i64))) - 1))).bind fun r11 => (bif (!r11) then (some (Sum.inr false)) else ((za n v9.Bare 0 (IntKind.wrap .i64 ((IntKind.wrap .i64 (1 * 2 ^ min (((IntKind.wrap .u64 x1) : Int)).toNat (IntKind.bits .i64))) - 1))).bind fun r12 => (bif (!r12) then (some (Sum.inr false)) else (bif ((IntKind.wrap .i64 (BitVec.ofInt (IntKind.bits .i64) v9.Bare &&& BitVec.ofInt (IntKind.bits .i64) v9.Members).toNat) != v9.Bare) then (some (Sum.inr false)) else (bif (decide (y3 > 0)) then ((idx x0.Rows (IntKind.wrap .i64 (y3 - 1))).bind fun v13 => (bif (decide (v13.Id ≥ v9.Id)) then (some (Sum.inr false)) else (qf n mo8 x0 x1 (IntKind.wrap .i64 (y3 + 1))))) else (qf n mo8 x0 x1 (IntKind.wrap .i64 (y3 + 1)))))))))))) else (some (Sum.inl ())))
def qG (n : Nat) (x0 : zD) (x1 : Int) : Option (Bool) :=
  ((za n x1 1 6).bind fun r1 => (bif (!r1) then (some false) else (bif ((x0.Pv.length : Int) != x1) then (some false) else (bif (decide ((x0.Rows.length : Int) > 6)) then (some false) else (bif (decide ((0 : Int) ≤ (IntKind.wrap .u64 x1))) then ((qf n n x0 x1 0).bind fun o => match o with | .inl _ => (Z7 n x0) | .inr r => some r) else none)))))
def zJU : Tab := ⟨44,[0,1,2,4,12,16,48,16,208,272,528,1280,2048,6144,2048,26624,34816,67584,163840,262144,786432,262144,2359296,5505024,262144,17039360,42205184,67371008,134479872,268435456,805306368,1342177280,2147483648,6442450944,2147483648,19327352832,45097156608,70866960384,139586437120,2147483648,551903297536,1376537018368,2201439174656,4398314946560],[0,1,2,4,8,16,48,16,208,272,528,1024,2048,6144,2048,26624,34816,67584,131072,262144,786432,262144,2359296,5505024,262144,17039360,42205184,67371008,134217728,268435456,805306368,1342177280,2147483648,6442450944,2147483648,19327352832,45097156608,70866960384,139586437120,2147483648,551903297536,1376537018368,2201439174656,4398314946560],[0,1,3,7,15,31,63,31,255,511,1023,2047,4095,8191,4095,32767,65535,131071,262143,524287,1048575,524287,2621439,8388607,524287,17301503,67108863,134217727,268435455,536870911,1073741823,2147483647,4294967295,8589934591,4294967295,21474836479,68719476735,137438953471,274877906943,4294967295,554050781183,2199023255551,4398046511103,8796093022207]⟩
theorem zV : z9 (rg Tryz.f104 8) zJU = true := kr
theorem zFh (n : Nat) (y3 : Int) (v9 : zC) (x1 : Int) (x0 : zD) (h11 : (decide (y3 > 0)) = false) (cx : Cx) : AT Tryz.prog cx (rg Tryz.f104 8) [⟨[],3,65,66⟩,⟨[],3,62,63⟩,⟨[],3,60,61⟩,⟨[15],3,53,54⟩,⟨[8,15],3,46,47⟩,⟨[2,8,15],3,41,42⟩] 15 [28,27,26,25,24,23,22,21,20,19,18,17,16,15,14,13,12,11,10,9,8,7,6,5,4,3,2,1,0] ⟨100,0,[sB 69 false,sI 66 v9.Bare,sA 65 7 3 2,sI 63 v9.Members,sA 62 7 3 1,sI 61 v9.Bare,sA 60 7 3 2,sI 54 v9.Bare,sA 53 7 3 2,sI 47 v9.Members,sA 46 7 3 1,sI 42 v9.Id,sA 41 7 3 0,sA 7 7 3 0,sI 6 y3,sI 5 (IntKind.wrap .i64 ((IntKind.wrap .i64 (1 * 2 ^ min (((IntKind.wrap .u64 x1) : Int)).toNat (IntKind.bits .i64))) - 1)),sA 2 2 2 0],[(7,(zC.row v9)),(2,(CV.frzRow (zD.row x0)))]⟩ (fun s => s = ⟨100,0,[sB 84 false,sI 6 y3,sI 5 (IntKind.wrap .i64 ((IntKind.wrap .i64 (1 * 2 ^ min (((IntKind.wrap .u64 x1) : Int)).toNat (IntKind.bits .i64))) - 1)),sA 2 2 2 0],[(2,(CV.frzRow (zD.row x0)))]⟩) := by
 refine mA zV [(29,[]),(30,[]),(31,[])] 12 [⟨[],3,65,66⟩,⟨[],3,62,63⟩,⟨[],3,60,61⟩,⟨[15],3,53,54⟩,⟨[8,15],3,46,47⟩,⟨[2,8,15],3,41,42⟩] fun cx => ?_
 refine sA_ 0x126f060c600000000e4 132 ⟨100,0,[sB 72 (decide (y3 > 0)),sB 69 false,sI 66 v9.Bare,sA 65 7 3 2,sI 63 v9.Members,sA 62 7 3 1,sI 61 v9.Bare,sA 60 7 3 2,sI 54 v9.Bare,sA 53 7 3 2,sI 47 v9.Members,sA 46 7 3 1,sI 42 v9.Id,sA 41 7 3 0,sA 7 7 3 0,sI 6 y3,sI 5 (IntKind.wrap .i64 ((IntKind.wrap .i64 (1 * 2 ^ min (((IntKind.wrap .u64 x1) : Int)).toNat (IntKind.bits .i64))) - 1)),sA 2 2 2 0],[(7,(zC.row v9)),(2,(CV.frzRow (zD.row x0)))]⟩ ?_
 rw [h11]
 refine mA zV [(32,[]),(33,[]),(34,[]),(35,[]),(36,[]),(37,[]),(38,[]),(39,[]),(40,[]),(41,[]),(42,[]),(43,[])] 0 [⟨[],3,65,66⟩,⟨[],3,62,63⟩,⟨[],3,60,61⟩,⟨[15],3,53,54⟩,⟨[8,15],3,46,47⟩,⟨[2,8,15],3,41,42⟩] fun cx => ?_
 exact mE zV [84,6,5,2] [2]
theorem zFi (n : Nat) (y3 : Int) (v9 : zC) (x1 : Int) (x0 : zD) (v13 : zC) (h11 : (decide (y3 > 0)) = true) (ev13 : (idx x0.Rows (IntKind.wrap .i64 (y3 - 1))) = some v13) (cx : Cx) : AT Tryz.prog cx (rg Tryz.f104 8) [⟨[],3,65,66⟩,⟨[],3,62,63⟩,⟨[],3,60,61⟩,⟨[15],3,53,54⟩,⟨[8,15],3,46,47⟩,⟨[2,8,15],3,41,42⟩] 15 [28,27,26,25,24,23,22,21,20,19,18,17,16,15,14,13,12,11,10,9,8,7,6,5,4,3,2,1,0] ⟨100,0,[sB 69 false,sI 66 v9.Bare,sA 65 7 3 2,sI 63 v9.Members,sA 62 7 3 1,sI 61 v9.Bare,sA 60 7 3 2,sI 54 v9.Bare,sA 53 7 3 2,sI 47 v9.Members,sA 46 7 3 1,sI 42 v9.Id,sA 41 7 3 0,sA 7 7 3 0,sI 6 y3,sI 5 (IntKind.wrap .i64 ((IntKind.wrap .i64 (1 * 2 ^ min (((IntKind.wrap .u64 x1) : Int)).toNat (IntKind.bits .i64))) - 1)),sA 2 2 2 0],[(7,(zC.row v9)),(2,(CV.frzRow (zD.row x0)))]⟩ (fun s => s = ⟨100,0,[sB 84 (decide (v13.Id ≥ v9.Id)),sI 6 y3,sI 5 (IntKind.wrap .i64 ((IntKind.wrap .i64 (1 * 2 ^ min (((IntKind.wrap .u64 x1) : Int)).toNat (IntKind.bits .i64))) - 1)),sA 2 2 2 0],[(2,(CV.frzRow (zD.row x0)))]⟩) := by
 refine mA zV [(29,[]),(30,[]),(31,[])] 12 [⟨[],3,65,66⟩,⟨[],3,62,63⟩,⟨[],3,60,61⟩,⟨[15],3,53,54⟩,⟨[8,15],3,46,47⟩,⟨[2,8,15],3,41,42⟩] fun cx => ?_
 refine sA_ 0x126f060c600000000e4 132 ⟨100,0,[sB 72 (decide (y3 > 0)),sB 69 false,sI 66 v9.Bare,sA 65 7 3 2,sI 63 v9.Members,sA 62 7 3 1,sI 61 v9.Bare,sA 60 7 3 2,sI 54 v9.Bare,sA 53 7 3 2,sI 47 v9.Members,sA 46 7 3 1,sI 42 v9.Id,sA 41 7 3 0,sA 7 7 3 0,sI 6 y3,sI 5 (IntKind.wrap .i64 ((IntKind.wrap .i64 (1 * 2 ^ min (((IntKind.wrap .u64 x1) : Int)).toNat (IntKind.bits .i64))) - 1)),sA 2 2 2 0],[(7,(zC.row v9)),(2,(CV.frzRow (zD.row x0)))]⟩ ?_
 rw [h11]
 refine mA zV [(32,[]),(33,[]),(34,[]),(35,[])] 8 [⟨[],26,73,74⟩,⟨[],3,65,66⟩,⟨[],3,62,63⟩,⟨[],3,60,61⟩,⟨[15],3,53,54⟩,⟨[8,15],3,46,47⟩,⟨[2,8,15],3,41,42⟩] fun cx => ?_
 refine iN zV 36 zC.row ev13 fun cx => ?_
 refine mA zV [(37,[]),(38,[]),(39,[]),(40,[]),(41,[]),(42,[]),(43,[])] 0 [⟨[],3,80,81⟩,⟨[],26,73,74⟩,⟨[],3,65,66⟩,⟨[],3,62,63⟩,⟨[],3,60,61⟩,⟨[15],3,53,54⟩,⟨[8,15],3,46,47⟩,⟨[2,8,15],3,41,42⟩] fun cx => ?_
 exact mE zV [84,6,5,2] [2]
theorem zFj (n : Nat) (v9 : zC) (y3 : Int) (x1 : Int) (x0 : zD) (cx : Cx) : AT Tryz.prog cx (rg Tryz.f104 8) [⟨[],3,65,66⟩,⟨[],3,62,63⟩,⟨[],3,60,61⟩,⟨[15],3,53,54⟩,⟨[8,15],3,46,47⟩,⟨[2,8,15],3,41,42⟩] 15 [28,27,26,25,24,23,22,21,20,19,18,17,16,15,14,13,12,11,10,9,8,7,6,5,4,3,2,1,0] ⟨100,0,[sB 69 true,sI 66 v9.Bare,sA 65 7 3 2,sI 63 v9.Members,sA 62 7 3 1,sI 61 v9.Bare,sA 60 7 3 2,sI 54 v9.Bare,sA 53 7 3 2,sI 47 v9.Members,sA 46 7 3 1,sI 42 v9.Id,sA 41 7 3 0,sA 7 7 3 0,sI 6 y3,sI 5 (IntKind.wrap .i64 ((IntKind.wrap .i64 (1 * 2 ^ min (((IntKind.wrap .u64 x1) : Int)).toNat (IntKind.bits .i64))) - 1)),sA 2 2 2 0],[(7,(zC.row v9)),(2,(CV.frzRow (zD.row x0)))]⟩ (fun s => s = ⟨100,0,[sB 84 true,sI 6 y3,sI 5 (IntKind.wrap .i64 ((IntKind.wrap .i64 (1 * 2 ^ min (((IntKind.wrap .u64 x1) : Int)).toNat (IntKind.bits .i64))) - 1)),sA 2 2 2 0],[(2,(CV.frzRow (zD.row x0)))]⟩) := by
 refine mA zV [(29,[]),(30,[]),(31,[]),(32,[]),(33,[]),(34,[]),(35,[]),(36,[]),(37,[]),(38,[]),(39,[]),(40,[]),(41,[]),(42,[]),(43,[])] 0 [⟨[],3,65,66⟩,⟨[],3,62,63⟩,⟨[],3,60,61⟩,⟨[15],3,53,54⟩,⟨[8,15],3,46,47⟩,⟨[2,8,15],3,41,42⟩] fun cx => ?_
 exact mE zV [84,6,5,2] [2]
theorem Jh (n : Nat) (x0 : zD) (x1 : Int) (r : Bool) (H : qG n x0 x1 = some r) : zG Tryz.prog 104 [.val true (CV.frzRow (zD.row x0)),.val false [.lit (.int .i64 x1)]] [.val false [.lit (.bool r)]] [] := by
 refine cW Tryz.func104 (fun g d => sl [g 0,sl [g 1] (cn 24 (sl [g 2] .ret) .skip),g 3,sl [g 4] (.block 0 (.loop (sl [sl [g 5] (cn 33 .skip (.exit 0)),.block 1 (sl [g 7,d 8] (cn 84 (sl [g 9] .ret) .skip))] (g 6)))),sl [g 10] (.block 2 (.loop (sl [sl [g 11] (cn 89 .skip (.exit 2)),.block 3 (sl [d 13] (cn 99 (sl [g 14] .ret) .skip))] (g 12)))),g 15] .ret) [.tmp 4] fun cx => ?_
 unfold qG at H
 refine gA 2 6 4 ?_
 refine tS ?_
 refine rA 1 ?_
 obtain ⟨r1,er1,H⟩ := bs H
 refine vA [.rd,.rd,.rd] (zZ n x1 1 6 r1 er1) ?_
 refine lA 2 ?_
 refine sL 4102 4 ⟨100,0,[sB 12 (!r1),sA 2 2 2 0,sI 1 x1],[(2,(CV.frzRow (zD.row x0)))]⟩ ?_
 cases h1 : (!r1)
 ·have H := zI h1 H
  refine lA 2 ?_
  refine kF x0.Pv intRow ?_
  refine lA 4 ?_
  refine sL 524294 4 ⟨100,0,[sB 19 ((x0.Pv.length : Int) != x1),sA 2 2 2 0,sI 1 x1],[(2,(CV.frzRow (zD.row x0)))]⟩ ?_
  cases h2 : ((x0.Pv.length : Int) != x1)
  ·have H := zI h2 H
   refine lA 2 ?_
   refine kF x0.Rows zC.row ?_
   refine uA 2 16777222 4 ?_
   obtain ⟨h3,H⟩ | ⟨h3,H⟩ := bC H
   ·refine nA h3 ?_
    refine tK ?_
    refine rA 2 ?_
    obtain ⟨hg2,H⟩ := gs H
    refine LAt.binC tOk (op := .shl) (t := 3) (ty := 163) (ty' := 3) (x := (.const (.int .i64 1))) (y := (.tmp 26)) (d := 27) (g := none) (.int .i64 1) (.int .u64 (IntKind.wrap .u64 x1)) (.int .i64 (IntKind.wrap .i64 (1 * 2 ^ min (((IntKind.wrap .u64 x1) : Int)).toNat (IntKind.bits .i64)))) _ kr kr kr kr kr (φ := (0 : Int) ≤ (IntKind.wrap .u64 x1)) kr (of_decide_eq_true hg2) rfl ?_
    refine uA 2 36 4 ?_
    refine tS ?_
    refine gA 1 100 4 ?_
    obtain ⟨o8,eo8,Ho8⟩ := bs H
    clear H
    refine Tr.mid (ι := Unit) (fun v => ⟨100,0,[sA 2 2 2 0],[(2,(CV.frzRow (zD.row x0)))]⟩) (fun v => Z7 n x0 = some r) ?_ ?_
    ·refine tB ?_
     refine Tr.loop (ι := Nat × (Int)) (fun v => ⟨100,0,[sI 6 v.2,sI 5 (IntKind.wrap .i64 ((IntKind.wrap .i64 (1 * 2 ^ min (((IntKind.wrap .u64 x1) : Int)).toNat (IntKind.bits .i64))) - 1)),sA 2 2 2 0],[(2,(CV.frzRow (zD.row x0)))]⟩) (fun v => qf n v.1 x0 x1 v.2 = some o8) (fun v => v.1) (n,0) eo8 (St.sub_of [6,5,2] [2] kr) ?_
     rintro ⟨mo8,y3⟩ H
     have H : qf n mo8 x0 x1 y3 = some o8 := H
     obtain _ | mo8 := mo8
     ·exact nN H
     rw [qf] at H
     refine tS ?_
     refine rA 3 ?_
     refine kF x0.Rows zC.row ?_
     refine uA 1 8589934692 4 ?_
     obtain ⟨h6,H⟩ | ⟨h6,H⟩ := bC H
     ·refine nA h6 ?_
      refine Tr.exit ?_
      refine aJ ?_
      obtain rfl := si H
      have H := Ho8
      dsimp only at H
      exact jA () H [2] [2]
     refine tA h6 ?_
     refine tK ?_
     refine tS ?_
     refine tB ?_
     refine rA 3 ?_
     obtain ⟨v9,ev9,H⟩ := bs H
     refine iA zC.row ev9 ?_
     refine uA 3 228 132 ?_
     obtain ⟨r10,er10,H⟩ := bs H
     refine sT ⟨100,0,[sA 7 7 3 0,sI 6 y3,sI 5 (IntKind.wrap .i64 ((IntKind.wrap .i64 (1 * 2 ^ min (((IntKind.wrap .u64 x1) : Int)).toNat (IntKind.bits .i64))) - 1)),sA 2 2 2 0],[(7,(zC.row v9)),(2,(CV.frzRow (zD.row x0)))]⟩ ?_
     cases h7 : (!r10)
     ·have H := zI h7 H
      obtain ⟨r11,er11,H⟩ := bs H
      refine sT ⟨100,0,[sA 7 7 3 0,sI 6 y3,sI 5 (IntKind.wrap .i64 ((IntKind.wrap .i64 (1 * 2 ^ min (((IntKind.wrap .u64 x1) : Int)).toNat (IntKind.bits .i64))) - 1)),sA 2 2 2 0],[(7,(zC.row v9)),(2,(CV.frzRow (zD.row x0)))]⟩ ?_
      cases h8 : (!r11)
      ·have H := zI h8 H
       obtain ⟨r12,er12,H⟩ := bs H
       refine sT ⟨100,0,[sA 7 7 3 0,sI 6 y3,sI 5 (IntKind.wrap .i64 ((IntKind.wrap .i64 (1 * 2 ^ min (((IntKind.wrap .u64 x1) : Int)).toNat (IntKind.bits .i64))) - 1)),sA 2 2 2 0],[(7,(zC.row v9)),(2,(CV.frzRow (zD.row x0)))]⟩ ?_
       cases h9 : (!r12)
       ·have H := zI h9 H
        refine sT ⟨100,0,[sA 7 7 3 0,sI 6 y3,sI 5 (IntKind.wrap .i64 ((IntKind.wrap .i64 (1 * 2 ^ min (((IntKind.wrap .u64 x1) : Int)).toNat (IntKind.bits .i64))) - 1)),sA 2 2 2 0],[(7,(zC.row v9)),(2,(CV.frzRow (zD.row x0)))]⟩ ?_
        cases h10 : ((IntKind.wrap .i64 (BitVec.ofInt (IntKind.bits .i64) v9.Bare &&& BitVec.ofInt (IntKind.bits .i64) v9.Members).toNat) != v9.Bare)
        ·have H := zI h10 H
         refine sT ⟨100,0,[sA 7 7 3 0,sI 6 y3,sI 5 (IntKind.wrap .i64 ((IntKind.wrap .i64 (1 * 2 ^ min (((IntKind.wrap .u64 x1) : Int)).toNat (IntKind.bits .i64))) - 1)),sA 2 2 2 0],[(7,(zC.row v9)),(2,(CV.frzRow (zD.row x0)))]⟩ ?_
         cases h11 : (decide (y3 > 0))
         ·have H := zI h11 H
          refine Tr.draws mixed 44 kr ⟨100,0,[sB 84 false,sI 6 y3,sI 5 (IntKind.wrap .i64 ((IntKind.wrap .i64 (1 * 2 ^ min (((IntKind.wrap .u64 x1) : Int)).toNat (IntKind.bits .i64))) - 1)),sA 2 2 2 0],[(2,(CV.frzRow (zD.row x0)))]⟩ (fun cx => ?_) ?_
          ·refine mA zV [(0,[]),(1,[2,8,15])] 42 [⟨[2,8,15],3,41,42⟩] fun cx => ?_
           refine mC zV 2 ?_
           refine vA [.rd,.rd,.rd] (zZ n v9.Id 1 99 r10 er10) ?_
           refine fA ?_
           refine mA zV [(3,[]),(4,[])] 39 [⟨[2,8,15],3,41,42⟩] fun cx => ?_
           refine sA_ 41781441855716 132 ⟨100,0,[sB 45 (!r10),sI 42 v9.Id,sA 41 7 3 0,sA 7 7 3 0,sI 6 y3,sI 5 (IntKind.wrap .i64 ((IntKind.wrap .i64 (1 * 2 ^ min (((IntKind.wrap .u64 x1) : Int)).toNat (IntKind.bits .i64))) - 1)),sA 2 2 2 0],[(7,(zC.row v9)),(2,(CV.frzRow (zD.row x0)))]⟩ ?_
           rw [h7]
           refine mA zV [(5,[]),(6,[8,15]),(7,[])] 36 [⟨[8,15],3,46,47⟩,⟨[2,8,15],3,41,42⟩] fun cx => ?_
           refine mC zV 8 ?_
           refine vA [.rd,.rd,.rd] (zZ n v9.Members 0 (IntKind.wrap .i64 ((IntKind.wrap .i64 (1 * 2 ^ min (((IntKind.wrap .u64 x1) : Int)).toNat (IntKind.bits .i64))) - 1)) r11 er11) ?_
           refine fA ?_
           refine mA zV [(9,[]),(10,[]),(11,[])] 32 [⟨[8,15],3,46,47⟩,⟨[2,8,15],3,41,42⟩] fun cx => ?_
           refine sA_ 4721302929670372 132 ⟨100,0,[sB 52 (!r11),sI 47 v9.Members,sA 46 7 3 1,sI 42 v9.Id,sA 41 7 3 0,sA 7 7 3 0,sI 6 y3,sI 5 (IntKind.wrap .i64 ((IntKind.wrap .i64 (1 * 2 ^ min (((IntKind.wrap .u64 x1) : Int)).toNat (IntKind.bits .i64))) - 1)),sA 2 2 2 0],[(7,(zC.row v9)),(2,(CV.frzRow (zD.row x0)))]⟩ ?_
           rw [h8]
           refine mA zV [(12,[]),(13,[15]),(14,[])] 29 [⟨[15],3,53,54⟩,⟨[8,15],3,46,47⟩,⟨[2,8,15],3,41,42⟩] fun cx => ?_
           refine mC zV 15 ?_
           refine vA [.rd,.rd,.rd] (zZ n v9.Bare 0 (IntKind.wrap .i64 ((IntKind.wrap .i64 (1 * 2 ^ min (((IntKind.wrap .u64 x1) : Int)).toNat (IntKind.bits .i64))) - 1)) r12 er12) ?_
           refine fA ?_
           refine mA zV [(16,[]),(17,[]),(18,[])] 25 [⟨[15],3,53,54⟩,⟨[8,15],3,46,47⟩,⟨[2,8,15],3,41,42⟩] fun cx => ?_
           refine sA_ 0x860c600000000e4 132 ⟨100,0,[sB 59 (!r12),sI 54 v9.Bare,sA 53 7 3 2,sI 47 v9.Members,sA 46 7 3 1,sI 42 v9.Id,sA 41 7 3 0,sA 7 7 3 0,sI 6 y3,sI 5 (IntKind.wrap .i64 ((IntKind.wrap .i64 (1 * 2 ^ min (((IntKind.wrap .u64 x1) : Int)).toNat (IntKind.bits .i64))) - 1)),sA 2 2 2 0],[(7,(zC.row v9)),(2,(CV.frzRow (zD.row x0)))]⟩ ?_
           rw [h9]
           refine mA zV [(19,[]),(20,[]),(21,[]),(22,[]),(23,[]),(24,[]),(25,[]),(26,[]),(27,[]),(28,[])] 15 [⟨[],3,65,66⟩,⟨[],3,62,63⟩,⟨[],3,60,61⟩,⟨[15],3,53,54⟩,⟨[8,15],3,46,47⟩,⟨[2,8,15],3,41,42⟩] fun cx => ?_
           refine sA_ 0x26f060c600000000e4 132 ⟨100,0,[sB 69 ((IntKind.wrap .i64 (BitVec.ofInt (IntKind.bits .i64) v9.Bare &&& BitVec.ofInt (IntKind.bits .i64) v9.Members).toNat) != v9.Bare),sI 66 v9.Bare,sA 65 7 3 2,sI 63 v9.Members,sA 62 7 3 1,sI 61 v9.Bare,sA 60 7 3 2,sI 54 v9.Bare,sA 53 7 3 2,sI 47 v9.Members,sA 46 7 3 1,sI 42 v9.Id,sA 41 7 3 0,sA 7 7 3 0,sI 6 y3,sI 5 (IntKind.wrap .i64 ((IntKind.wrap .i64 (1 * 2 ^ min (((IntKind.wrap .u64 x1) : Int)).toNat (IntKind.bits .i64))) - 1)),sA 2 2 2 0],[(7,(zC.row v9)),(2,(CV.frzRow (zD.row x0)))]⟩ ?_
           rw [h10]
           exact zFh n y3 v9 x1 x0 h11 cx
          refine nB_ ?_
          refine tK ?_
          refine eA 3 100 4 ?_
          exact jB mo8 (IntKind.wrap .i64 (y3 + 1)) H [6,5,2] [2]
         have H := zJ h11 H
         obtain ⟨v13,ev13,H⟩ := bs H
         refine Tr.draws mixed 44 kr ⟨100,0,[sB 84 (decide (v13.Id ≥ v9.Id)),sI 6 y3,sI 5 (IntKind.wrap .i64 ((IntKind.wrap .i64 (1 * 2 ^ min (((IntKind.wrap .u64 x1) : Int)).toNat (IntKind.bits .i64))) - 1)),sA 2 2 2 0],[(2,(CV.frzRow (zD.row x0)))]⟩ (fun cx => ?_) ?_
         ·refine mA zV [(0,[]),(1,[2,8,15])] 42 [⟨[2,8,15],3,41,42⟩] fun cx => ?_
          refine mC zV 2 ?_
          refine vA [.rd,.rd,.rd] (zZ n v9.Id 1 99 r10 er10) ?_
          refine fA ?_
          refine mA zV [(3,[]),(4,[])] 39 [⟨[2,8,15],3,41,42⟩] fun cx => ?_
          refine sA_ 41781441855716 132 ⟨100,0,[sB 45 (!r10),sI 42 v9.Id,sA 41 7 3 0,sA 7 7 3 0,sI 6 y3,sI 5 (IntKind.wrap .i64 ((IntKind.wrap .i64 (1 * 2 ^ min (((IntKind.wrap .u64 x1) : Int)).toNat (IntKind.bits .i64))) - 1)),sA 2 2 2 0],[(7,(zC.row v9)),(2,(CV.frzRow (zD.row x0)))]⟩ ?_
          rw [h7]
          refine mA zV [(5,[]),(6,[8,15]),(7,[])] 36 [⟨[8,15],3,46,47⟩,⟨[2,8,15],3,41,42⟩] fun cx => ?_
          refine mC zV 8 ?_
          refine vA [.rd,.rd,.rd] (zZ n v9.Members 0 (IntKind.wrap .i64 ((IntKind.wrap .i64 (1 * 2 ^ min (((IntKind.wrap .u64 x1) : Int)).toNat (IntKind.bits .i64))) - 1)) r11 er11) ?_
          refine fA ?_
          refine mA zV [(9,[]),(10,[]),(11,[])] 32 [⟨[8,15],3,46,47⟩,⟨[2,8,15],3,41,42⟩] fun cx => ?_
          refine sA_ 4721302929670372 132 ⟨100,0,[sB 52 (!r11),sI 47 v9.Members,sA 46 7 3 1,sI 42 v9.Id,sA 41 7 3 0,sA 7 7 3 0,sI 6 y3,sI 5 (IntKind.wrap .i64 ((IntKind.wrap .i64 (1 * 2 ^ min (((IntKind.wrap .u64 x1) : Int)).toNat (IntKind.bits .i64))) - 1)),sA 2 2 2 0],[(7,(zC.row v9)),(2,(CV.frzRow (zD.row x0)))]⟩ ?_
          rw [h8]
          refine mA zV [(12,[]),(13,[15]),(14,[])] 29 [⟨[15],3,53,54⟩,⟨[8,15],3,46,47⟩,⟨[2,8,15],3,41,42⟩] fun cx => ?_
          refine mC zV 15 ?_
          refine vA [.rd,.rd,.rd] (zZ n v9.Bare 0 (IntKind.wrap .i64 ((IntKind.wrap .i64 (1 * 2 ^ min (((IntKind.wrap .u64 x1) : Int)).toNat (IntKind.bits .i64))) - 1)) r12 er12) ?_
          refine fA ?_
          refine mA zV [(16,[]),(17,[]),(18,[])] 25 [⟨[15],3,53,54⟩,⟨[8,15],3,46,47⟩,⟨[2,8,15],3,41,42⟩] fun cx => ?_
          refine sA_ 0x860c600000000e4 132 ⟨100,0,[sB 59 (!r12),sI 54 v9.Bare,sA 53 7 3 2,sI 47 v9.Members,sA 46 7 3 1,sI 42 v9.Id,sA 41 7 3 0,sA 7 7 3 0,sI 6 y3,sI 5 (IntKind.wrap .i64 ((IntKind.wrap .i64 (1 * 2 ^ min (((IntKind.wrap .u64 x1) : Int)).toNat (IntKind.bits .i64))) - 1)),sA 2 2 2 0],[(7,(zC.row v9)),(2,(CV.frzRow (zD.row x0)))]⟩ ?_
          rw [h9]
          refine mA zV [(19,[]),(20,[]),(21,[]),(22,[]),(23,[]),(24,[]),(25,[]),(26,[]),(27,[]),(28,[])] 15 [⟨[],3,65,66⟩,⟨[],3,62,63⟩,⟨[],3,60,61⟩,⟨[15],3,53,54⟩,⟨[8,15],3,46,47⟩,⟨[2,8,15],3,41,42⟩] fun cx => ?_
          refine sA_ 0x26f060c600000000e4 132 ⟨100,0,[sB 69 ((IntKind.wrap .i64 (BitVec.ofInt (IntKind.bits .i64) v9.Bare &&& BitVec.ofInt (IntKind.bits .i64) v9.Members).toNat) != v9.Bare),sI 66 v9.Bare,sA 65 7 3 2,sI 63 v9.Members,sA 62 7 3 1,sI 61 v9.Bare,sA 60 7 3 2,sI 54 v9.Bare,sA 53 7 3 2,sI 47 v9.Members,sA 46 7 3 1,sI 42 v9.Id,sA 41 7 3 0,sA 7 7 3 0,sI 6 y3,sI 5 (IntKind.wrap .i64 ((IntKind.wrap .i64 (1 * 2 ^ min (((IntKind.wrap .u64 x1) : Int)).toNat (IntKind.bits .i64))) - 1)),sA 2 2 2 0],[(7,(zC.row v9)),(2,(CV.frzRow (zD.row x0)))]⟩ ?_
          rw [h10]
          exact zFi n y3 v9 x1 x0 v13 h11 ev13 cx
         refine sT ⟨100,0,[sB 84 (decide (v13.Id ≥ v9.Id)),sI 6 y3,sI 5 (IntKind.wrap .i64 ((IntKind.wrap .i64 (1 * 2 ^ min (((IntKind.wrap .u64 x1) : Int)).toNat (IntKind.bits .i64))) - 1)),sA 2 2 2 0],[(2,(CV.frzRow (zD.row x0)))]⟩ ?_
         cases h12 : (decide (v13.Id ≥ v9.Id))
         ·have H := zI h12 H
          refine nB_ ?_
          refine tK ?_
          refine eA 3 100 4 ?_
          exact jB mo8 (IntKind.wrap .i64 (y3 + 1)) H [6,5,2] [2]
         have H := zJ h12 H
         refine tB_ ?_
         refine gA 1 16 0 ?_
         refine te ?_
         obtain rfl := si H
         have H := Ho8
         dsimp only at H
         exact fF H
        have H := zJ h10 H
        refine Tr.draws mixed 44 kr ⟨100,0,[sB 84 true,sI 6 y3,sI 5 (IntKind.wrap .i64 ((IntKind.wrap .i64 (1 * 2 ^ min (((IntKind.wrap .u64 x1) : Int)).toNat (IntKind.bits .i64))) - 1)),sA 2 2 2 0],[(2,(CV.frzRow (zD.row x0)))]⟩ (fun cx => ?_) ?_
        ·refine mA zV [(0,[]),(1,[2,8,15])] 42 [⟨[2,8,15],3,41,42⟩] fun cx => ?_
         refine mC zV 2 ?_
         refine vA [.rd,.rd,.rd] (zZ n v9.Id 1 99 r10 er10) ?_
         refine fA ?_
         refine mA zV [(3,[]),(4,[])] 39 [⟨[2,8,15],3,41,42⟩] fun cx => ?_
         refine sA_ 41781441855716 132 ⟨100,0,[sB 45 (!r10),sI 42 v9.Id,sA 41 7 3 0,sA 7 7 3 0,sI 6 y3,sI 5 (IntKind.wrap .i64 ((IntKind.wrap .i64 (1 * 2 ^ min (((IntKind.wrap .u64 x1) : Int)).toNat (IntKind.bits .i64))) - 1)),sA 2 2 2 0],[(7,(zC.row v9)),(2,(CV.frzRow (zD.row x0)))]⟩ ?_
         rw [h7]
         refine mA zV [(5,[]),(6,[8,15]),(7,[])] 36 [⟨[8,15],3,46,47⟩,⟨[2,8,15],3,41,42⟩] fun cx => ?_
         refine mC zV 8 ?_
         refine vA [.rd,.rd,.rd] (zZ n v9.Members 0 (IntKind.wrap .i64 ((IntKind.wrap .i64 (1 * 2 ^ min (((IntKind.wrap .u64 x1) : Int)).toNat (IntKind.bits .i64))) - 1)) r11 er11) ?_
         refine fA ?_
         refine mA zV [(9,[]),(10,[]),(11,[])] 32 [⟨[8,15],3,46,47⟩,⟨[2,8,15],3,41,42⟩] fun cx => ?_
         refine sA_ 4721302929670372 132 ⟨100,0,[sB 52 (!r11),sI 47 v9.Members,sA 46 7 3 1,sI 42 v9.Id,sA 41 7 3 0,sA 7 7 3 0,sI 6 y3,sI 5 (IntKind.wrap .i64 ((IntKind.wrap .i64 (1 * 2 ^ min (((IntKind.wrap .u64 x1) : Int)).toNat (IntKind.bits .i64))) - 1)),sA 2 2 2 0],[(7,(zC.row v9)),(2,(CV.frzRow (zD.row x0)))]⟩ ?_
         rw [h8]
         refine mA zV [(12,[]),(13,[15]),(14,[])] 29 [⟨[15],3,53,54⟩,⟨[8,15],3,46,47⟩,⟨[2,8,15],3,41,42⟩] fun cx => ?_
         refine mC zV 15 ?_
         refine vA [.rd,.rd,.rd] (zZ n v9.Bare 0 (IntKind.wrap .i64 ((IntKind.wrap .i64 (1 * 2 ^ min (((IntKind.wrap .u64 x1) : Int)).toNat (IntKind.bits .i64))) - 1)) r12 er12) ?_
         refine fA ?_
         refine mA zV [(16,[]),(17,[]),(18,[])] 25 [⟨[15],3,53,54⟩,⟨[8,15],3,46,47⟩,⟨[2,8,15],3,41,42⟩] fun cx => ?_
         refine sA_ 0x860c600000000e4 132 ⟨100,0,[sB 59 (!r12),sI 54 v9.Bare,sA 53 7 3 2,sI 47 v9.Members,sA 46 7 3 1,sI 42 v9.Id,sA 41 7 3 0,sA 7 7 3 0,sI 6 y3,sI 5 (IntKind.wrap .i64 ((IntKind.wrap .i64 (1 * 2 ^ min (((IntKind.wrap .u64 x1) : Int)).toNat (IntKind.bits .i64))) - 1)),sA 2 2 2 0],[(7,(zC.row v9)),(2,(CV.frzRow (zD.row x0)))]⟩ ?_
         rw [h9]
         refine mA zV [(19,[]),(20,[]),(21,[]),(22,[]),(23,[]),(24,[]),(25,[]),(26,[]),(27,[]),(28,[])] 15 [⟨[],3,65,66⟩,⟨[],3,62,63⟩,⟨[],3,60,61⟩,⟨[15],3,53,54⟩,⟨[8,15],3,46,47⟩,⟨[2,8,15],3,41,42⟩] fun cx => ?_
         refine sA_ 0x26f060c600000000e4 132 ⟨100,0,[sB 69 ((IntKind.wrap .i64 (BitVec.ofInt (IntKind.bits .i64) v9.Bare &&& BitVec.ofInt (IntKind.bits .i64) v9.Members).toNat) != v9.Bare),sI 66 v9.Bare,sA 65 7 3 2,sI 63 v9.Members,sA 62 7 3 1,sI 61 v9.Bare,sA 60 7 3 2,sI 54 v9.Bare,sA 53 7 3 2,sI 47 v9.Members,sA 46 7 3 1,sI 42 v9.Id,sA 41 7 3 0,sA 7 7 3 0,sI 6 y3,sI 5 (IntKind.wrap .i64 ((IntKind.wrap .i64 (1 * 2 ^ min (((IntKind.wrap .u64 x1) : Int)).toNat (IntKind.bits .i64))) - 1)),sA 2 2 2 0],[(7,(zC.row v9)),(2,(CV.frzRow (zD.row x0)))]⟩ ?_
         rw [h10]
         exact zFj n v9 y3 x1 x0 cx
        refine tB_ ?_
        refine gA 1 16 0 ?_
        refine te ?_
        obtain rfl := si H
        have H := Ho8
        dsimp only at H
        exact fF H
       have H := zJ h9 H
       refine Tr.draws mixed 44 kr ⟨100,0,[sB 84 true,sI 6 y3,sI 5 (IntKind.wrap .i64 ((IntKind.wrap .i64 (1 * 2 ^ min (((IntKind.wrap .u64 x1) : Int)).toNat (IntKind.bits .i64))) - 1)),sA 2 2 2 0],[(2,(CV.frzRow (zD.row x0)))]⟩ (fun cx => ?_) ?_
       ·refine mA zV [(0,[]),(1,[2,8,15])] 42 [⟨[2,8,15],3,41,42⟩] fun cx => ?_
        refine mC zV 2 ?_
        refine vA [.rd,.rd,.rd] (zZ n v9.Id 1 99 r10 er10) ?_
        refine fA ?_
        refine mA zV [(3,[]),(4,[])] 39 [⟨[2,8,15],3,41,42⟩] fun cx => ?_
        refine sA_ 41781441855716 132 ⟨100,0,[sB 45 (!r10),sI 42 v9.Id,sA 41 7 3 0,sA 7 7 3 0,sI 6 y3,sI 5 (IntKind.wrap .i64 ((IntKind.wrap .i64 (1 * 2 ^ min (((IntKind.wrap .u64 x1) : Int)).toNat (IntKind.bits .i64))) - 1)),sA 2 2 2 0],[(7,(zC.row v9)),(2,(CV.frzRow (zD.row x0)))]⟩ ?_
        rw [h7]
        refine mA zV [(5,[]),(6,[8,15]),(7,[])] 36 [⟨[8,15],3,46,47⟩,⟨[2,8,15],3,41,42⟩] fun cx => ?_
        refine mC zV 8 ?_
        refine vA [.rd,.rd,.rd] (zZ n v9.Members 0 (IntKind.wrap .i64 ((IntKind.wrap .i64 (1 * 2 ^ min (((IntKind.wrap .u64 x1) : Int)).toNat (IntKind.bits .i64))) - 1)) r11 er11) ?_
        refine fA ?_
        refine mA zV [(9,[]),(10,[]),(11,[])] 32 [⟨[8,15],3,46,47⟩,⟨[2,8,15],3,41,42⟩] fun cx => ?_
        refine sA_ 4721302929670372 132 ⟨100,0,[sB 52 (!r11),sI 47 v9.Members,sA 46 7 3 1,sI 42 v9.Id,sA 41 7 3 0,sA 7 7 3 0,sI 6 y3,sI 5 (IntKind.wrap .i64 ((IntKind.wrap .i64 (1 * 2 ^ min (((IntKind.wrap .u64 x1) : Int)).toNat (IntKind.bits .i64))) - 1)),sA 2 2 2 0],[(7,(zC.row v9)),(2,(CV.frzRow (zD.row x0)))]⟩ ?_
        rw [h8]
        refine mA zV [(12,[]),(13,[15]),(14,[])] 29 [⟨[15],3,53,54⟩,⟨[8,15],3,46,47⟩,⟨[2,8,15],3,41,42⟩] fun cx => ?_
        refine mC zV 15 ?_
        refine vA [.rd,.rd,.rd] (zZ n v9.Bare 0 (IntKind.wrap .i64 ((IntKind.wrap .i64 (1 * 2 ^ min (((IntKind.wrap .u64 x1) : Int)).toNat (IntKind.bits .i64))) - 1)) r12 er12) ?_
        refine fA ?_
        refine mA zV [(16,[]),(17,[]),(18,[])] 25 [⟨[15],3,53,54⟩,⟨[8,15],3,46,47⟩,⟨[2,8,15],3,41,42⟩] fun cx => ?_
        refine sA_ 0x860c600000000e4 132 ⟨100,0,[sB 59 (!r12),sI 54 v9.Bare,sA 53 7 3 2,sI 47 v9.Members,sA 46 7 3 1,sI 42 v9.Id,sA 41 7 3 0,sA 7 7 3 0,sI 6 y3,sI 5 (IntKind.wrap .i64 ((IntKind.wrap .i64 (1 * 2 ^ min (((IntKind.wrap .u64 x1) : Int)).toNat (IntKind.bits .i64))) - 1)),sA 2 2 2 0],[(7,(zC.row v9)),(2,(CV.frzRow (zD.row x0)))]⟩ ?_
        rw [h9]
        refine mA zV [(19,[]),(20,[]),(21,[]),(22,[]),(23,[]),(24,[]),(25,[]),(26,[]),(27,[]),(28,[]),(29,[]),(30,[]),(31,[]),(32,[]),(33,[]),(34,[]),(35,[]),(36,[]),(37,[]),(38,[]),(39,[]),(40,[]),(41,[]),(42,[]),(43,[])] 0 [⟨[15],3,53,54⟩,⟨[8,15],3,46,47⟩,⟨[2,8,15],3,41,42⟩] fun cx => ?_
        exact mE zV [84,6,5,2] [2]
       refine tB_ ?_
       refine gA 1 16 0 ?_
       refine te ?_
       obtain rfl := si H
       have H := Ho8
       dsimp only at H
       exact fF H
      have H := zJ h8 H
      refine Tr.draws mixed 44 kr ⟨100,0,[sB 84 true,sI 6 y3,sI 5 (IntKind.wrap .i64 ((IntKind.wrap .i64 (1 * 2 ^ min (((IntKind.wrap .u64 x1) : Int)).toNat (IntKind.bits .i64))) - 1)),sA 2 2 2 0],[(2,(CV.frzRow (zD.row x0)))]⟩ (fun cx => ?_) ?_
      ·refine mA zV [(0,[]),(1,[2,8])] 42 [⟨[2,8],3,41,42⟩] fun cx => ?_
       refine mC zV 2 ?_
       refine vA [.rd,.rd,.rd] (zZ n v9.Id 1 99 r10 er10) ?_
       refine fA ?_
       refine mA zV [(3,[]),(4,[])] 39 [⟨[2,8],3,41,42⟩] fun cx => ?_
       refine sA_ 41781441855716 132 ⟨100,0,[sB 45 (!r10),sI 42 v9.Id,sA 41 7 3 0,sA 7 7 3 0,sI 6 y3,sI 5 (IntKind.wrap .i64 ((IntKind.wrap .i64 (1 * 2 ^ min (((IntKind.wrap .u64 x1) : Int)).toNat (IntKind.bits .i64))) - 1)),sA 2 2 2 0],[(7,(zC.row v9)),(2,(CV.frzRow (zD.row x0)))]⟩ ?_
       rw [h7]
       refine mA zV [(5,[]),(6,[8]),(7,[])] 36 [⟨[8],3,46,47⟩,⟨[2,8],3,41,42⟩] fun cx => ?_
       refine mC zV 8 ?_
       refine vA [.rd,.rd,.rd] (zZ n v9.Members 0 (IntKind.wrap .i64 ((IntKind.wrap .i64 (1 * 2 ^ min (((IntKind.wrap .u64 x1) : Int)).toNat (IntKind.bits .i64))) - 1)) r11 er11) ?_
       refine fA ?_
       refine mA zV [(9,[]),(10,[]),(11,[])] 32 [⟨[8],3,46,47⟩,⟨[2,8],3,41,42⟩] fun cx => ?_
       refine sA_ 4721302929670372 132 ⟨100,0,[sB 52 (!r11),sI 47 v9.Members,sA 46 7 3 1,sI 42 v9.Id,sA 41 7 3 0,sA 7 7 3 0,sI 6 y3,sI 5 (IntKind.wrap .i64 ((IntKind.wrap .i64 (1 * 2 ^ min (((IntKind.wrap .u64 x1) : Int)).toNat (IntKind.bits .i64))) - 1)),sA 2 2 2 0],[(7,(zC.row v9)),(2,(CV.frzRow (zD.row x0)))]⟩ ?_
       rw [h8]
       refine mA zV [(12,[]),(13,[]),(14,[]),(15,[]),(16,[]),(17,[]),(18,[]),(19,[]),(20,[]),(21,[]),(22,[]),(23,[]),(24,[]),(25,[]),(26,[]),(27,[]),(28,[]),(29,[]),(30,[]),(31,[]),(32,[]),(33,[]),(34,[]),(35,[]),(36,[]),(37,[]),(38,[]),(39,[]),(40,[]),(41,[]),(42,[]),(43,[])] 0 [⟨[8],3,46,47⟩,⟨[2,8],3,41,42⟩] fun cx => ?_
       exact mE zV [84,6,5,2] [2]
      refine tB_ ?_
      refine gA 1 16 0 ?_
      refine te ?_
      obtain rfl := si H
      have H := Ho8
      dsimp only at H
      exact fF H
     have H := zJ h7 H
     refine Tr.draws mixed 44 kr ⟨100,0,[sB 84 true,sI 6 y3,sI 5 (IntKind.wrap .i64 ((IntKind.wrap .i64 (1 * 2 ^ min (((IntKind.wrap .u64 x1) : Int)).toNat (IntKind.bits .i64))) - 1)),sA 2 2 2 0],[(2,(CV.frzRow (zD.row x0)))]⟩ (fun cx => ?_) ?_
     ·refine mA zV [(0,[]),(1,[2])] 42 [⟨[2],3,41,42⟩] fun cx => ?_
      refine mC zV 2 ?_
      refine vA [.rd,.rd,.rd] (zZ n v9.Id 1 99 r10 er10) ?_
      refine fA ?_
      refine mA zV [(3,[]),(4,[])] 39 [⟨[2],3,41,42⟩] fun cx => ?_
      refine sA_ 41781441855716 132 ⟨100,0,[sB 45 (!r10),sI 42 v9.Id,sA 41 7 3 0,sA 7 7 3 0,sI 6 y3,sI 5 (IntKind.wrap .i64 ((IntKind.wrap .i64 (1 * 2 ^ min (((IntKind.wrap .u64 x1) : Int)).toNat (IntKind.bits .i64))) - 1)),sA 2 2 2 0],[(7,(zC.row v9)),(2,(CV.frzRow (zD.row x0)))]⟩ ?_
      rw [h7]
      refine mA zV [(5,[]),(6,[]),(7,[]),(8,[]),(9,[]),(10,[]),(11,[]),(12,[]),(13,[]),(14,[]),(15,[]),(16,[]),(17,[]),(18,[]),(19,[]),(20,[]),(21,[]),(22,[]),(23,[]),(24,[]),(25,[]),(26,[]),(27,[]),(28,[]),(29,[]),(30,[]),(31,[]),(32,[]),(33,[]),(34,[]),(35,[]),(36,[]),(37,[]),(38,[]),(39,[]),(40,[]),(41,[]),(42,[]),(43,[])] 0 [⟨[2],3,41,42⟩] fun cx => ?_
      exact mE zV [84,6,5,2] [2]
     refine tB_ ?_
     refine gA 1 16 0 ?_
     refine te ?_
     obtain rfl := si H
     have H := Ho8
     dsimp only at H
     exact fF H
    rintro _ H
    have H : (Z7 n x0) = some r := H
    unfold Z7 at H
    refine tS ?_
    refine gA 1 260 4 ?_
    obtain ⟨o5,eo5,Ho5⟩ := bs H
    clear H
    refine Tr.mid (ι := Unit) (fun v => ⟨100,0,[],[]⟩) (fun v => JT n = some r) ?_ ?_
    ·refine tB ?_
     refine Tr.loop (ι := Nat × (Int)) (fun v => ⟨100,0,[sI 8 v.2,sA 2 2 2 0],[(2,(CV.frzRow (zD.row x0)))]⟩) (fun v => qp n v.1 x0 v.2 = some o5) (fun v => v.1) (n,0) eo5 (St.sub_of [8,2] [2] kr) ?_
     rintro ⟨mo5,y4⟩ H
     have H : qp n mo5 x0 y4 = some o5 := H
     obtain _ | mo5 := mo5
     ·exact nN H
     rw [qp] at H
     refine tS ?_
     refine rA 3 ?_
     refine kF x0.Pv intRow ?_
     refine uA 1 0x20000000000000000000104 4 ?_
     obtain ⟨h4,H⟩ | ⟨h4,H⟩ := bC H
     ·refine nA h4 ?_
      refine Tr.exit ?_
      refine aJ ?_
      obtain rfl := si H
      have H := Ho5
      dsimp only at H
      exact jA () H [] []
     refine tA h4 ?_
     refine tK ?_
     refine tS ?_
     refine tB ?_
     obtain ⟨v6,ev6,H⟩ := bs H
     obtain ⟨r7,er7,H⟩ := bs H
     refine Tr.draws mixed 8 kr ⟨100,0,[sB 99 (decide (r7 < 0)),sI 8 y4,sA 2 2 2 0],[(2,(CV.frzRow (zD.row x0)))]⟩ (fun cx => ?_) ?_
     ·refine aA [(0,[6]),(1,[]),(2,[6]),(3,[])] 4 [⟨[6],27,93,94⟩,⟨[6],29,2,92⟩] fun cx => ?_
      refine aI tOk 4 27 0 94 95 96 none ⟨(.box 2),[(0,0)],1,false,1,(CV.frzEs (x0.Pv.map intRow))⟩ y4 [cI v6] _ kr kr kr kr kr kr rfl (ZF ev6) rfl (fun cx => ?_)
      refine aA [(5,[])] 2 [⟨[6],27,93,94⟩,⟨[6],29,2,92⟩] fun cx => ?_
      refine bA 6 ?_
      refine vA [.rd,.rd] (zE8 n x0 v6 r7 er7) ?_
      refine fA ?_
      refine aA [(7,[])] 0 [⟨[6],27,93,94⟩,⟨[6],29,2,92⟩] fun cx => ?_
      exact eE [99,8,2] [2]
     refine sT ⟨100,0,[sB 99 (decide (r7 < 0)),sI 8 y4,sA 2 2 2 0],[(2,(CV.frzRow (zD.row x0)))]⟩ ?_
     cases h5 : (decide (r7 < 0))
     ·have H := zI h5 H
      refine nB_ ?_
      refine tK ?_
      refine eA 3 260 4 ?_
      exact jB mo5 (IntKind.wrap .i64 (y4 + 1)) H [8,2] [2]
     have H := zJ h5 H
     refine tB_ ?_
     refine gA 1 16 0 ?_
     refine te ?_
     obtain rfl := si H
     have H := Ho5
     dsimp only at H
     exact fF H
    rintro _ H
    have H : (JT n) = some r := H
    unfold JT at H
    refine gA 1 16 0 ?_
    exact te (fT H)
   refine tA h3 ?_
   refine gA 1 16 0 ?_
   exact te (fF H)
  have H := zJ h2 H
  refine uA 5 16777222 4 ?_
  refine tB_ ?_
  refine gA 1 16 0 ?_
  exact te (fF H)
 have H := zJ h1 H
 refine uA 12 16777222 4 ?_
 refine tB_ ?_
 refine gA 1 16 0 ?_
 exact te (fF H)
def qq (n : Nat) (x0 : zD) : Option (zD) :=
  (bif (decide (([] : List zC).length + x0.Rows.length ≤ 268435456)) then (bif (decide (([] : List Int).length + x0.Pv.length ≤ 268435456)) then (some (⟨(([] : List zC) ++ x0.Rows),(([] : List Int) ++ x0.Pv)⟩ : zD)) else none) else none)
theorem QA (n : Nat) (x0 : zD) (r : zD) (H : qq n x0 = some r) : zG Tryz.prog 157 [.val true (CV.frzRow (zD.row x0))] [.val true (zD.row r)] [] := by
 refine cW Tryz.func157 (fun g d => sl [g 0,d 1] .ret) [.cell 2 29] fun cx => ?_
 unfold qq at H
 refine gA 2 6 6 ?_
 obtain ⟨hg1,H⟩ := gs H
 obtain ⟨hg2,H⟩ := gs H
 refine Tr.draws mixed 10 kr ⟨12,0,[sA 2 2 2 0],[(2,[cL 3 (([] : List zC) ++ x0.Rows) zC.row,cL 1 (([] : List Int) ++ x0.Pv) intRow])]⟩ (fun cx => ?_) ?_
 ·refine aA [(1,[]),(2,[3,7,8,9]),(5,[]),(6,[7,8,9])] 6 [⟨[7,8,9],27,8,9⟩,⟨[3,7,8,9],26,4,5⟩] fun cx => ?_
  refine AT.big2 tOk 0 4 kr (And.intro kr ?_) (And.intro kr ?_)
  ·refine lA 1 ?_
   refine fA ?_
   refine AT.big2 tOk 3 4 kr (And.intro kr ?_) (And.intro kr ?_)
   ·refine pD zC.row hg1 ?_
    refine fA ?_
    refine bA 4 ?_
    refine lA 1 ?_
    refine fA ?_
    refine bA 7 ?_
    refine pD intRow hg2 ?_
    refine fA ?_
    refine bA 8 ?_
    refine lA 1 ?_
    refine fA ?_
    refine bA 9 ?_
    refine lA 1 ?_
    refine fA ?_
    exact eE [2] [2]
   ·refine lA 1 ?_
    refine fA ?_
    refine bA 3 ?_
    refine pD zC.row hg1 ?_
    refine fA ?_
    refine bA 7 ?_
    refine pD intRow hg2 ?_
    refine fA ?_
    refine bA 8 ?_
    refine lA 1 ?_
    refine fA ?_
    refine bA 9 ?_
    refine lA 1 ?_
    refine fA ?_
    exact eE [2] [2]
  ·refine lA 1 ?_
   refine fA ?_
   refine bA 0 ?_
   refine lA 1 ?_
   refine fA ?_
   refine bA 3 ?_
   refine pD zC.row hg1 ?_
   refine fA ?_
   refine bA 7 ?_
   refine pD intRow hg2 ?_
   refine fA ?_
   refine bA 8 ?_
   refine lA 1 ?_
   refine fA ?_
   refine bA 9 ?_
   refine lA 1 ?_
   refine fA ?_
   exact eE [2] [2]
 exact te (fJ [(true,[cL 3 (([] : List zC) ++ x0.Rows) zC.row,cL 1 (([] : List Int) ++ x0.Pv) intRow])] H)
def Yf (n : Nat) (x0 : zD) (x1 : zD) : Option (zD × Bool) :=
  ((qG n x0 (x1.Pv.length : Int)).bind fun r1 => (bif (!r1) then ((qq n x1).bind fun r2 => (some (r2,false))) else (some (x0,true))))
theorem zDg (n : Nat) (x0 : zD) (x1 : zD) (r : zD × Bool) (H : Yf n x0 x1 = some r) : zG Tryz.prog 196 [.own true (zD.row x0),.val true (CV.frzRow (zD.row x1))] [.val true (zD.row r.1),.val false [.lit (.bool r.2)]] [] := by
 refine cW Tryz.func196 (fun g d => sl [g 0,sl [g 1] (cn 11 (sl [g 2] .ret) .skip),g 3] .ret) [.cell 4 29,.tmp 5] fun cx => ?_
 unfold Yf at H
 refine gA 4 28 28 ?_
 refine tS ?_
 refine rA 3 ?_
 refine kF x1.Pv intRow ?_
 obtain ⟨r1,er1,H⟩ := bs H
 refine vB [.rd,.rd] [.box 2] (Jh n x0 (x1.Pv.length : Int) r1 er1) (.inr (zH (zL zR zh) zO)) ?_
 refine uA 1 2076 28 ?_
 obtain ⟨h1,H⟩ | ⟨h1,H⟩ := bC H
 ·refine nA h1 ?_
  refine tK ?_
  refine gA 3 48 16 ?_
  exact te (fJ [(true,(zD.row x0)),(false,[cB true])] H)
 refine tA h1 ?_
 refine rA 1 ?_
 obtain ⟨r2,er2,H⟩ := bs H
 refine vA [.rd] (QA n x1 r2 er2) ?_
 refine uA 2 48 16 ?_
 exact te (fJ [(true,(zD.row r2)),(false,[cB false])] H)
def Yl (n : Nat) (x0 : zD) (x1 : Int) (x2 : Int) : Option (zD × Bool) :=
  ((qG n x0 (x0.Pv.length : Int)).bind fun r1 => (bif (!r1) then ((qq n x0).bind fun r7 => (some (r7,false))) else ((za n x1 0 (IntKind.wrap .i64 ((x0.Pv.length : Int) - 1))).bind fun r2 => (bif (!r2) then ((qq n x0).bind fun r6 => (some (r6,false))) else ((qq n x0).bind fun r3 => ((idx r3.Pv x1).bind fun v4 => ((Yf n (⟨r3.Rows,(r3.Pv.set (x1.toNat) x2)⟩ : zD) x0).bind fun r5 => (some (r5.1,r5.2)))))))))
theorem zG1 (n : Nat) (x0 : zD) (x1 : Int) (x2 : Int) (r : zD × Bool) (H : Yl n x0 x1 x2 = some r) : zG Tryz.prog 190 [.val true (CV.frzRow (zD.row x0)),.val false [.lit (.int .i64 x1)],.val false [.lit (.int .i64 x2)]] [.val true (zD.row r.1),.val false [.lit (.bool r.2)]] [] := by
 refine cW Tryz.func190 (fun g d => sl [g 0,sl [g 1] (cn 23 (sl [g 2] .ret) .skip),g 3,g 4,g 5] .ret) [.cell 6 29,.tmp 7] fun cx => ?_
 unfold Yl at H
 refine gA 3 78 72 ?_
 refine tS ?_
 refine rA 3 ?_
 refine kF x0.Pv intRow ?_
 obtain ⟨r1,er1,H⟩ := bs H
 refine vA [.rd,.rd] (Jh n x0 (x0.Pv.length : Int) r1 er1) ?_
 refine lA 2 ?_
 refine sL 32846 72 ⟨38,0,[sB 15 (!r1),sA 6 6 2 0,sA 3 3 2 0,sI 1 x1,sI 2 x2],[(6,[cL 3 ([] : List zC) zC.row,cL 1 ([] : List Int) intRow]),(3,(CV.frzRow (zD.row x0)))]⟩ ?_
 cases h1 : (!r1)
 ·have H := zI h1 H
  refine lA 3 ?_
  refine kF x0.Pv intRow ?_
  refine lA 1 ?_
  obtain ⟨r2,er2,H⟩ := bs H
  refine vA [.rd,.rd,.rd] (zZ n x1 0 (IntKind.wrap .i64 ((x0.Pv.length : Int) - 1)) r2 er2) ?_
  refine uA 2 8388686 72 ?_
  obtain ⟨h2,H⟩ | ⟨h2,H⟩ := bC H
  ·refine nA h2 ?_
   refine tK ?_
   refine rA 1 ?_
   obtain ⟨r3,er3,H⟩ := bs H
   refine vA [.rd] (QA n x0 r3 er3) ?_
   refine uA 2 334 328 ?_
   refine rA 4 ?_
   obtain ⟨v4,ev4,H⟩ := bs H
   refine oA intRow ev4 ?_
   refine LAt.storeB tOk (t := 3) (ty := 0) (ad := (.tmp 32)) (x := (.tmp 31)) (g := none) (tI 3) false [cI x2] 8 1 (x1.toNat) 1 0 1 r3.Pv intRow v4 x2 kr kr kr kr kr kr kr kr (Qx ev4).2 kr kr kr kr ?_
   refine dA 328 328 ?_
   refine rA 2 ?_
   obtain ⟨r5,er5,H⟩ := bs H
   refine vA [.own,.rd] (zDg n (⟨r3.Rows,(r3.Pv.set (x1.toNat) x2)⟩ : zD) x0 r5 er5) ?_
   refine uA 4 192 64 ?_
   exact te (fJ [(true,(zD.row r5.1)),(false,[cB r5.2])] H)
  refine tA h2 ?_
  refine rA 1 ?_
  obtain ⟨r6,er6,H⟩ := bs H
  refine vA [.rd] (QA n x0 r6 er6) ?_
  refine uA 2 192 64 ?_
  exact te (fJ [(true,(zD.row r6)),(false,[cB false])] H)
 have H := zJ h1 H
 refine uA 8 8388686 72 ?_
 refine tB_ ?_
 refine rA 1 ?_
 obtain ⟨r7,er7,H⟩ := bs H
 refine vA [.rd] (QA n x0 r7 er7) ?_
 refine uA 2 192 64 ?_
 exact te (fJ [(true,(zD.row r7)),(false,[cB false])] H)
def Q1 (n : Nat) (x0 : zD) (x1 : Int) : Option (zD × Bool) :=
  ((Qa n x0 x1).bind fun r1 => ((qG n x0 (x0.Pv.length : Int)).bind fun r2 => (bif (!r2) then ((qq n x0).bind fun r10 => (some (r10,false))) else (bif (decide (r1 < 0)) then ((qq n x0).bind fun r9 => (some (r9,false))) else ((qq n x0).bind fun r3 => (bif (decide ((0 : Int) ≤ 0) && (decide ((0 : Int) ≤ r1) && decide ((r1 : Int) ≤ (x0.Rows.length : Int)))) then (bif (decide (([] : List zC).length + ((x0.Rows.drop ((0 : Int)).toNat).take (((r1 : Int)).toNat - ((0 : Int)).toNat)).length ≤ 268435456)) then (bif (decide ((0 : Int) ≤ (IntKind.wrap .i64 (r1 + 1))) && (decide (((IntKind.wrap .i64 (r1 + 1)) : Int) ≤ (x0.Rows.length : Int)) && decide (((x0.Rows.length : Int) : Int) ≤ (x0.Rows.length : Int)))) then (bif (decide ((([] : List zC) ++ ((x0.Rows.drop ((0 : Int)).toNat).take (((r1 : Int)).toNat - ((0 : Int)).toNat))).length + ((x0.Rows.drop (((IntKind.wrap .i64 (r1 + 1)) : Int)).toNat).take ((((x0.Rows.length : Int) : Int)).toNat - (((IntKind.wrap .i64 (r1 + 1)) : Int)).toNat)).length ≤ 268435456)) then ((Yf n (⟨((([] : List zC) ++ ((x0.Rows.drop ((0 : Int)).toNat).take (((r1 : Int)).toNat - ((0 : Int)).toNat))) ++ ((x0.Rows.drop (((IntKind.wrap .i64 (r1 + 1)) : Int)).toNat).take ((((x0.Rows.length : Int) : Int)).toNat - (((IntKind.wrap .i64 (r1 + 1)) : Int)).toNat))),r3.Pv⟩ : zD) x0).bind fun r8 => (some (r8.1,r8.2))) else none) else none) else none) else none))))))
def zJe : Tab := ⟨14,[0,0,2,0,12,17,0,64,0,256,640,1056,4095,8191],[0,0,2,0,12,17,0,64,0,256,640,1056,0,6144],[0,0,2,0,14,31,0,64,0,256,960,2047,4095,8191]⟩
theorem zm : z9 (rg Tryz.f191 5) zJe = true := kr
theorem zE2 (n : Nat) (x0 : zD) (r1 : Int) (r3 : zD) (hg4 : (decide ((0 : Int) ≤ 0) && (decide ((0 : Int) ≤ r1) && decide ((r1 : Int) ≤ (x0.Rows.length : Int)))) = true) (hg5 : (decide (([] : List zC).length + ((x0.Rows.drop ((0 : Int)).toNat).take (((r1 : Int)).toNat - ((0 : Int)).toNat)).length ≤ 268435456)) = true) (hg6 : (decide ((0 : Int) ≤ (IntKind.wrap .i64 (r1 + 1))) && (decide (((IntKind.wrap .i64 (r1 + 1)) : Int) ≤ (x0.Rows.length : Int)) && decide (((x0.Rows.length : Int) : Int) ≤ (x0.Rows.length : Int)))) = true) (hg7 : (decide ((([] : List zC) ++ ((x0.Rows.drop ((0 : Int)).toNat).take (((r1 : Int)).toNat - ((0 : Int)).toNat))).length + ((x0.Rows.drop (((IntKind.wrap .i64 (r1 + 1)) : Int)).toNat).take ((((x0.Rows.length : Int) : Int)).toNat - (((IntKind.wrap .i64 (r1 + 1)) : Int)).toNat)).length ≤ 268435456)) = true) (cx : Cx) : AT Tryz.prog cx (rg Tryz.f191 5) [] 14 [] ⟨43,0,[sA 7 7 2 0,sI 6 r1,sA 4 4 2 0,sA 2 2 2 0],[(7,(zD.row r3)),(4,[cL 3 ([] : List zC) zC.row,cL 1 ([] : List Int) intRow]),(2,(CV.frzRow (zD.row x0)))]⟩ (fun s => s = ⟨43,0,[sA 7 7 2 0,sA 4 4 2 0,sA 2 2 2 0],[(7,[cL 3 ((([] : List zC) ++ ((x0.Rows.drop ((0 : Int)).toNat).take (((r1 : Int)).toNat - ((0 : Int)).toNat))) ++ ((x0.Rows.drop (((IntKind.wrap .i64 (r1 + 1)) : Int)).toNat).take ((((x0.Rows.length : Int) : Int)).toNat - (((IntKind.wrap .i64 (r1 + 1)) : Int)).toNat))) zC.row,cL 1 r3.Pv intRow]),(4,[cL 3 ([] : List zC) zC.row,cL 1 ([] : List Int) intRow]),(2,(CV.frzRow (zD.row x0)))]⟩) := by
 refine mA zm [(1,[]),(2,[4,5,11,13]),(3,[]),(6,[]),(7,[10,11,13]),(8,[]),(9,[])] 7 [⟨[10,11,13],26,31,32⟩,⟨[4,5,11,13],26,26,27⟩] fun cx => ?_
 refine mB3 tOk zm 0 4 10 kr (And.intro kr ?_) (And.intro kr ?_) (And.intro kr ?_)
 ·refine lA 1 ?_
  refine fA ?_
  refine mB2 tOk zm 4 10 kr (And.intro kr ?_) (And.intro kr ?_)
  ·refine LAt.cutG tOk (t := 26) (ty := 26) (e := 113) (x := (.tmp 27)) (lo := none) (hi := (some (.tmp 28))) (d := 29) (g := none) (tI 113) zC.row x0.Rows ⟨(.box 2),[(0,0)],0,false,3,(CV.frzEs (x0.Rows.map zC.row))⟩ 0 r1 kr kr kr kr kr kr rfl kr rfl kr kr hg4 ?_
   refine fA ?_
   refine mB2 tOk zm 5 10 kr (And.intro kr ?_) (And.intro kr ?_)
   ·refine pD zC.row hg5 ?_
    refine fA ?_
    refine mC zm 10 ?_
    refine LAt.cutG tOk (t := 26) (ty := 26) (e := 113) (x := (.tmp 32)) (lo := (some (.tmp 34))) (hi := none) (d := 35) (g := none) (tI 113) zC.row x0.Rows ⟨(.box 2),[(0,0)],0,false,3,(CV.frzEs (x0.Rows.map zC.row))⟩ (IntKind.wrap .i64 (r1 + 1)) (x0.Rows.length : Int) kr kr kr kr kr kr rfl kr rfl kr kr hg6 ?_
    refine fA ?_
    refine mC zm 11 ?_
    refine pD zC.row hg7 ?_
    refine fA ?_
    refine mA zm [(12,[])] 1 [⟨[10,11,13],26,31,32⟩,⟨[4,5,11,13],26,26,27⟩] fun cx => ?_
    refine mC zm 13 ?_
    refine lA 1 ?_
    refine fA ?_
    exact mE zm [7,4,2] [7,4,2]
   ·refine LAt.cutG tOk (t := 26) (ty := 26) (e := 113) (x := (.tmp 32)) (lo := (some (.tmp 34))) (hi := none) (d := 35) (g := none) (tI 113) zC.row x0.Rows ⟨(.box 2),[(0,0)],0,false,3,(CV.frzEs (x0.Rows.map zC.row))⟩ (IntKind.wrap .i64 (r1 + 1)) (x0.Rows.length : Int) kr kr kr kr kr kr rfl kr rfl kr kr hg6 ?_
    refine fA ?_
    refine mC zm 5 ?_
    refine pD zC.row hg5 ?_
    refine fA ?_
    refine mC zm 11 ?_
    refine pD zC.row hg7 ?_
    refine fA ?_
    refine mA zm [(12,[])] 1 [⟨[10,11,13],26,31,32⟩,⟨[4,5,11,13],26,26,27⟩] fun cx => ?_
    refine mC zm 13 ?_
    refine lA 1 ?_
    refine fA ?_
    exact mE zm [7,4,2] [7,4,2]
  ·refine LAt.cutG tOk (t := 26) (ty := 26) (e := 113) (x := (.tmp 32)) (lo := (some (.tmp 34))) (hi := none) (d := 35) (g := none) (tI 113) zC.row x0.Rows ⟨(.box 2),[(0,0)],0,false,3,(CV.frzEs (x0.Rows.map zC.row))⟩ (IntKind.wrap .i64 (r1 + 1)) (x0.Rows.length : Int) kr kr kr kr kr kr rfl kr rfl kr kr hg6 ?_
   refine fA ?_
   refine mC zm 4 ?_
   refine LAt.cutG tOk (t := 26) (ty := 26) (e := 113) (x := (.tmp 27)) (lo := none) (hi := (some (.tmp 28))) (d := 29) (g := none) (tI 113) zC.row x0.Rows ⟨(.box 2),[(0,0)],0,false,3,(CV.frzEs (x0.Rows.map zC.row))⟩ 0 r1 kr kr kr kr kr kr rfl kr rfl kr kr hg4 ?_
   refine fA ?_
   refine mC zm 5 ?_
   refine pD zC.row hg5 ?_
   refine fA ?_
   refine mC zm 11 ?_
   refine pD zC.row hg7 ?_
   refine fA ?_
   refine mA zm [(12,[])] 1 [⟨[10,11,13],26,31,32⟩,⟨[4,5,11,13],26,26,27⟩] fun cx => ?_
   refine mC zm 13 ?_
   refine lA 1 ?_
   refine fA ?_
   exact mE zm [7,4,2] [7,4,2]
 ·refine LAt.cutG tOk (t := 26) (ty := 26) (e := 113) (x := (.tmp 27)) (lo := none) (hi := (some (.tmp 28))) (d := 29) (g := none) (tI 113) zC.row x0.Rows ⟨(.box 2),[(0,0)],0,false,3,(CV.frzEs (x0.Rows.map zC.row))⟩ 0 r1 kr kr kr kr kr kr rfl kr rfl kr kr hg4 ?_
  refine fA ?_
  refine mB2 tOk zm 0 10 kr (And.intro kr ?_) (And.intro kr ?_)
  ·refine lA 1 ?_
   refine fA ?_
   refine mB2 tOk zm 5 10 kr (And.intro kr ?_) (And.intro kr ?_)
   ·refine pD zC.row hg5 ?_
    refine fA ?_
    refine mC zm 10 ?_
    refine LAt.cutG tOk (t := 26) (ty := 26) (e := 113) (x := (.tmp 32)) (lo := (some (.tmp 34))) (hi := none) (d := 35) (g := none) (tI 113) zC.row x0.Rows ⟨(.box 2),[(0,0)],0,false,3,(CV.frzEs (x0.Rows.map zC.row))⟩ (IntKind.wrap .i64 (r1 + 1)) (x0.Rows.length : Int) kr kr kr kr kr kr rfl kr rfl kr kr hg6 ?_
    refine fA ?_
    refine mC zm 11 ?_
    refine pD zC.row hg7 ?_
    refine fA ?_
    refine mA zm [(12,[])] 1 [⟨[10,11,13],26,31,32⟩,⟨[4,5,11,13],26,26,27⟩] fun cx => ?_
    refine mC zm 13 ?_
    refine lA 1 ?_
    refine fA ?_
    exact mE zm [7,4,2] [7,4,2]
   ·refine LAt.cutG tOk (t := 26) (ty := 26) (e := 113) (x := (.tmp 32)) (lo := (some (.tmp 34))) (hi := none) (d := 35) (g := none) (tI 113) zC.row x0.Rows ⟨(.box 2),[(0,0)],0,false,3,(CV.frzEs (x0.Rows.map zC.row))⟩ (IntKind.wrap .i64 (r1 + 1)) (x0.Rows.length : Int) kr kr kr kr kr kr rfl kr rfl kr kr hg6 ?_
    refine fA ?_
    refine mC zm 5 ?_
    refine pD zC.row hg5 ?_
    refine fA ?_
    refine mC zm 11 ?_
    refine pD zC.row hg7 ?_
    refine fA ?_
    refine mA zm [(12,[])] 1 [⟨[10,11,13],26,31,32⟩,⟨[4,5,11,13],26,26,27⟩] fun cx => ?_
    refine mC zm 13 ?_
    refine lA 1 ?_
    refine fA ?_
    exact mE zm [7,4,2] [7,4,2]
  ·refine LAt.cutG tOk (t := 26) (ty := 26) (e := 113) (x := (.tmp 32)) (lo := (some (.tmp 34))) (hi := none) (d := 35) (g := none) (tI 113) zC.row x0.Rows ⟨(.box 2),[(0,0)],0,false,3,(CV.frzEs (x0.Rows.map zC.row))⟩ (IntKind.wrap .i64 (r1 + 1)) (x0.Rows.length : Int) kr kr kr kr kr kr rfl kr rfl kr kr hg6 ?_
   refine fA ?_
   refine mC zm 0 ?_
   refine lA 1 ?_
   refine fA ?_
   refine mC zm 5 ?_
   refine pD zC.row hg5 ?_
   refine fA ?_
   refine mC zm 11 ?_
   refine pD zC.row hg7 ?_
   refine fA ?_
   refine mA zm [(12,[])] 1 [⟨[10,11,13],26,31,32⟩,⟨[4,5,11,13],26,26,27⟩] fun cx => ?_
   refine mC zm 13 ?_
   refine lA 1 ?_
   refine fA ?_
   exact mE zm [7,4,2] [7,4,2]
 ·refine LAt.cutG tOk (t := 26) (ty := 26) (e := 113) (x := (.tmp 32)) (lo := (some (.tmp 34))) (hi := none) (d := 35) (g := none) (tI 113) zC.row x0.Rows ⟨(.box 2),[(0,0)],0,false,3,(CV.frzEs (x0.Rows.map zC.row))⟩ (IntKind.wrap .i64 (r1 + 1)) (x0.Rows.length : Int) kr kr kr kr kr kr rfl kr rfl kr kr hg6 ?_
  refine fA ?_
  refine mB2 tOk zm 0 4 kr (And.intro kr ?_) (And.intro kr ?_)
  ·refine lA 1 ?_
   refine fA ?_
   refine mC zm 4 ?_
   refine LAt.cutG tOk (t := 26) (ty := 26) (e := 113) (x := (.tmp 27)) (lo := none) (hi := (some (.tmp 28))) (d := 29) (g := none) (tI 113) zC.row x0.Rows ⟨(.box 2),[(0,0)],0,false,3,(CV.frzEs (x0.Rows.map zC.row))⟩ 0 r1 kr kr kr kr kr kr rfl kr rfl kr kr hg4 ?_
   refine fA ?_
   refine mC zm 5 ?_
   refine pD zC.row hg5 ?_
   refine fA ?_
   refine mC zm 11 ?_
   refine pD zC.row hg7 ?_
   refine fA ?_
   refine mA zm [(12,[])] 1 [⟨[10,11,13],26,31,32⟩,⟨[4,5,11,13],26,26,27⟩] fun cx => ?_
   refine mC zm 13 ?_
   refine lA 1 ?_
   refine fA ?_
   exact mE zm [7,4,2] [7,4,2]
  ·refine LAt.cutG tOk (t := 26) (ty := 26) (e := 113) (x := (.tmp 27)) (lo := none) (hi := (some (.tmp 28))) (d := 29) (g := none) (tI 113) zC.row x0.Rows ⟨(.box 2),[(0,0)],0,false,3,(CV.frzEs (x0.Rows.map zC.row))⟩ 0 r1 kr kr kr kr kr kr rfl kr rfl kr kr hg4 ?_
   refine fA ?_
   refine mC zm 0 ?_
   refine lA 1 ?_
   refine fA ?_
   refine mC zm 5 ?_
   refine pD zC.row hg5 ?_
   refine fA ?_
   refine mC zm 11 ?_
   refine pD zC.row hg7 ?_
   refine fA ?_
   refine mA zm [(12,[])] 1 [⟨[10,11,13],26,31,32⟩,⟨[4,5,11,13],26,26,27⟩] fun cx => ?_
   refine mC zm 13 ?_
   refine lA 1 ?_
   refine fA ?_
   exact mE zm [7,4,2] [7,4,2]
theorem zGz (n : Nat) (x0 : zD) (x1 : Int) (r : zD × Bool) (H : Q1 n x0 x1 = some r) : zG Tryz.prog 191 [.val true (CV.frzRow (zD.row x0)),.val false [.lit (.int .i64 x1)]] [.val true (zD.row r.1),.val false [.lit (.bool r.2)]] [] := by
 refine cW Tryz.func191 (fun g d => sl [g 0,g 1,sl [g 2] (cn 20 (sl [g 3] .ret) .skip),g 4,d 5,g 6] .ret) [.cell 4 29,.tmp 5] fun cx => ?_
 unfold Q1 at H
 refine gA 3 22 20 ?_
 refine rA 2 ?_
 obtain ⟨r1,er1,H⟩ := bs H
 refine vA [.rd,.rd] (zE8 n x0 x1 r1 er1) ?_
 refine uA 1 84 20 ?_
 refine tS ?_
 refine rA 3 ?_
 refine kF x0.Pv intRow ?_
 obtain ⟨r2,er2,H⟩ := bs H
 refine vA [.rd,.rd] (Jh n x0 (x0.Pv.length : Int) r2 er2) ?_
 refine lA 2 ?_
 refine sL 131156 20 ⟨43,0,[sB 17 (!r2),sI 6 r1,sA 4 4 2 0,sA 2 2 2 0],[(4,[cL 3 ([] : List zC) zC.row,cL 1 ([] : List Int) intRow]),(2,(CV.frzRow (zD.row x0)))]⟩ ?_
 cases h1 : (!r2)
 ·have H := zI h1 H
  refine uA 3 1048660 20 ?_
  obtain ⟨h2,H⟩ | ⟨h2,H⟩ := bC H
  ·refine nA h2 ?_
   refine tK ?_
   refine rA 1 ?_
   obtain ⟨r3,er3,H⟩ := bs H
   refine vA [.rd] (QA n x0 r3 er3) ?_
   refine uA 2 212 148 ?_
   obtain ⟨hg4,H⟩ := gs H
   obtain ⟨hg5,H⟩ := gs H
   obtain ⟨hg6,H⟩ := gs H
   obtain ⟨hg7,H⟩ := gs H
   refine sT ⟨43,0,[sA 7 7 2 0,sI 6 r1,sA 4 4 2 0,sA 2 2 2 0],[(7,(zD.row r3)),(4,[cL 3 ([] : List zC) zC.row,cL 1 ([] : List Int) intRow]),(2,(CV.frzRow (zD.row x0)))]⟩ ?_
   refine Tr.draws mixed 14 kr ⟨43,0,[sA 7 7 2 0,sA 4 4 2 0,sA 2 2 2 0],[(7,[cL 3 ((([] : List zC) ++ ((x0.Rows.drop ((0 : Int)).toNat).take (((r1 : Int)).toNat - ((0 : Int)).toNat))) ++ ((x0.Rows.drop (((IntKind.wrap .i64 (r1 + 1)) : Int)).toNat).take ((((x0.Rows.length : Int) : Int)).toNat - (((IntKind.wrap .i64 (r1 + 1)) : Int)).toNat))) zC.row,cL 1 r3.Pv intRow]),(4,[cL 3 ([] : List zC) zC.row,cL 1 ([] : List Int) intRow]),(2,(CV.frzRow (zD.row x0)))]⟩ (zE2 n x0 r1 r3 hg4 hg5 hg6 hg7) ?_
   refine rA 2 ?_
   obtain ⟨r8,er8,H⟩ := bs H
   refine vA [.own,.rd] (zDg n (⟨((([] : List zC) ++ ((x0.Rows.drop ((0 : Int)).toNat).take (((r1 : Int)).toNat - ((0 : Int)).toNat))) ++ ((x0.Rows.drop (((IntKind.wrap .i64 (r1 + 1)) : Int)).toNat).take ((((x0.Rows.length : Int) : Int)).toNat - (((IntKind.wrap .i64 (r1 + 1)) : Int)).toNat))),r3.Pv⟩ : zD) x0 r8 er8) ?_
   refine uA 4 48 16 ?_
   exact te (fJ [(true,(zD.row r8.1)),(false,[cB r8.2])] H)
  refine tA h2 ?_
  refine rA 1 ?_
  obtain ⟨r9,er9,H⟩ := bs H
  refine vA [.rd] (QA n x0 r9 er9) ?_
  refine uA 2 48 16 ?_
  exact te (fJ [(true,(zD.row r9)),(false,[cB false])] H)
 have H := zJ h1 H
 refine uA 3 1048660 20 ?_
 refine tB_ ?_
 refine rA 1 ?_
 obtain ⟨r10,er10,H⟩ := bs H
 refine vA [.rd] (QA n x0 r10 er10) ?_
 refine uA 2 48 16 ?_
 exact te (fJ [(true,(zD.row r10)),(false,[cB false])] H)
def JK (n : Nat) (x0 : Src) (x1 : Int) : Option (zC × Src) :=
  (bif (decide ((0 : Int) ≤ (IntKind.wrap .u64 x1))) then ((zN n x0 (IntKind.wrap .i64 ((IntKind.wrap .i64 ((IntKind.wrap .i64 (1 * 2 ^ min (((IntKind.wrap .u64 x1) : Int)).toNat (IntKind.bits .i64))) - 1)) + 1))).bind fun r2 => ((zc n r2.2 [1,2,3,2]).bind fun r3 => ((zN n r3.2 (IntKind.wrap .i64 ((IntKind.wrap .i64 ((IntKind.wrap .i64 (1 * 2 ^ min (((IntKind.wrap .u64 x1) : Int)).toNat (IntKind.bits .i64))) - 1)) + 1))).bind fun r4 => (some ((⟨r3.1,r2.1,(IntKind.wrap .i64 (BitVec.ofInt (IntKind.bits .i64) r2.1 &&& BitVec.ofInt (IntKind.bits .i64) r4.1).toNat)⟩ : zC),r4.2))))) else none)
noncomputable abbrev zHk (k : Nat) := Rg Tryz.f193 k
theorem zHO (n : Nat) (x0 : Src) (x1 : Int) (r : zC × Src) (H : JK n x0 x1 = some r) : zG Tryz.prog 193 [.ptr (CV.frzRow (Src.row x0)),.val false [.lit (.int .i64 x1)]] [.val true (zC.row r.1)] [(0,(CV.frzRow (Src.row r.2)))] := by
 refine zG.of_body tOk Tryz.func193 rfl (c := (.seq (zHk 0) (.seq (zHk 1) (.seq (zHk 2) (.seq (zHk 3) .ret))))) kr (Nat.le_of_ble_eq_true kr) 1 (rs := [.cell 4 113]) rfl [] .nil [(true,(zC.row r.1))] [] [(0,(CV.frzRow (Src.row r.2)))] fun cx => ?_
 show Tr _ _ _ ⟨26,1,[sA 0 0 3 0,sI 1 x1],[(0,(CV.frzRow (Src.row x0)))]⟩ _
 unfold JK at H
 refine gA 1 19 17 ?_
 refine rA 2 ?_
 obtain ⟨hg1,H⟩ := gs H
 refine LAt.binC tOk (op := .shl) (t := 3) (ty := 163) (ty' := 3) (x := (.const (.int .i64 1))) (y := (.tmp 8)) (d := 9) (g := none) (.int .i64 1) (.int .u64 (IntKind.wrap .u64 x1)) (.int .i64 (IntKind.wrap .i64 (1 * 2 ^ min (((IntKind.wrap .u64 x1) : Int)).toNat (IntKind.bits .i64)))) _ kr kr kr kr kr (φ := (0 : Int) ≤ (IntKind.wrap .u64 x1)) kr (of_decide_eq_true hg1) rfl ?_
 refine uA 2 49 17 ?_
 refine rA 3 ?_
 obtain ⟨r2,er2,H⟩ := bs H
 refine LAt.callL tOk [.lend,.rd] (f := 119) (av := #[.tmp 11,.tmp 13]) (ats := #[91,3]) (d := (some 14)) (ty := 3) (g := none) kr kr kr [] (zQ n x0 (IntKind.wrap .i64 ((IntKind.wrap .i64 ((IntKind.wrap .i64 (1 * 2 ^ min (((IntKind.wrap .u64 x1) : Int)).toNat (IntKind.bits .i64))) - 1)) + 1)) r2 er2) kr (.inl rfl) ?_
 refine uA 1 113 17 ?_
 refine rA 2 ?_
 obtain ⟨r3,er3,H⟩ := bs H
 refine LAt.callL tOk [.lend,.rd] (f := 78) (av := #[.tmp 15,.tmp 16]) (ats := #[91,27]) (d := (some 17)) (ty := 3) (g := none) kr kr kr [] (zr n r2.2 [1,2,3,2] r3 er3) kr (.inl rfl) ?_
 refine lA 5 ?_
 obtain ⟨r4,er4,H⟩ := bs H
 refine LAt.callL tOk [.lend,.rd] (f := 119) (av := #[.tmp 20,.tmp 22]) (ats := #[91,3]) (d := (some 23)) (ty := 3) (g := none) kr kr kr [] (zQ n r3.2 (IntKind.wrap .i64 ((IntKind.wrap .i64 ((IntKind.wrap .i64 (1 * 2 ^ min (((IntKind.wrap .u64 x1) : Int)).toNat (IntKind.bits .i64))) - 1)) + 1)) r4 er4) kr (.inl rfl) ?_
 refine uA 3 17 17 ?_
 refine te ?_
 obtain rfl := si H
 exact Fin.ofY _ [(true,[cI r3.1,cI r2.1,cI (IntKind.wrap .i64 (BitVec.ofInt (IntKind.bits .i64) r2.1 &&& BitVec.ofInt (IntKind.bits .i64) r4.1).toNat)])] [] _ [] _ [(0,(CV.frzRow (Src.row r4.2)))] kr rfl rfl rfl kr kr kr kr rfl rfl rfl
def Yp (n : Nat) (x0 : zD) (x1 : zC) (y5 : Bool) (y6 : (List zC)) : Option (zD) :=
  (bif (!y5) then (bif (decide (y6.length + [x1].length ≤ 268435456)) then (some (⟨(y6 ++ [x1]),(([] : List Int) ++ x0.Pv)⟩ : zD)) else none) else (some (⟨y6,(([] : List Int) ++ x0.Pv)⟩ : zD)))
def Z4 (n : Nat) (k : (Int × Bool × (List zC) → Option ((Bool × (List zC)) ⊕ (zD)))) (x0 : zD) (x1 : zC) (y2 : Int) (y9 : Bool) (y10 : Bool) (y11 : Bool) (y12 : Bool) (y13 : (List zC)) : Option ((Bool × (List zC)) ⊕ (zD)) :=
  ((idx x0.Rows y2).bind fun v14 => (bif (v14.Id != x1.Id) then ((idx x0.Rows y2).bind fun v15 => (bif (decide (y13.length + [v15].length ≤ 268435456)) then (k ((IntKind.wrap .i64 (y2 + 1)),y12,(y13 ++ [v15]))) else none)) else (k ((IntKind.wrap .i64 (y2 + 1)),y12,y13))))
def qg (n : Nat) : Nat → zD → zC → Int → Bool → (List zC) → Option ((Bool × (List zC)) ⊕ (zD))
  | 0,_,_,_,_,_ => none
  | mo8 + 1,x0,x1,y2,y3,y4 => (bif (decide (y2 < (x0.Rows.length : Int))) then (bif (!y3) then ((idx x0.Rows y2).bind fun v17 => (bif (decide (v17.Id ≥ x1.Id)) then (bif (decide (y4.length + [x1].length ≤ 268435456)) then (Z4 n (fun v => qg n mo8 x0 x1 v.1 v.2.1 v.2.2) x0 x1 y2 true true true true (y4 ++ [x1])) else none) else (Z4 n (fun v => qg n mo8 x0 x1 v.1 v.2.1 v.2.2) x0 x1 y2 false true true y3 y4))) else (Z4 n (fun v => qg n mo8 x0 x1 v.1 v.2.1 v.2.2) x0 x1 y2 false false false y3 y4)) else (some (Sum.inl (y3,y4))))
def Yt (n : Nat) (x0 : zD) (x1 : zC) : Option (zD) :=
  (bif (decide (([] : List Int).length + x0.Pv.length ≤ 268435456)) then ((qg n n x0 x1 0 false ([] : List zC)).bind fun o => match o with | .inl (y5,y6) => (Yp n x0 x1 y5 y6) | .inr r => some r) else none)
def zJb : Tab := ⟨13,[0,1,2,4,12,4,52,68,132,4,516,1284,2052],[0,1,2,4,12,4,52,68,132,4,516,1284,2052],[0,1,3,7,15,7,63,127,255,7,519,2047,4095]⟩
theorem zAl : z9 (rg Tryz.f187 6) zJb = true := kr
theorem zFH (n : Nat) (x0 : zD) (x1 : zC) (r : zD) (H : Yt n x0 x1 = some r) : zG Tryz.prog 187 [.val true (CV.frzRow (zD.row x0)),.val true (CV.frzRow (zC.row x1))] [.val true (zD.row r)] [] := by
 refine cW Tryz.func187 (fun g d => sl [g 0,g 1,g 2,sl [g 3] (.block 0 (.loop (sl [sl [g 4] (cn 17 .skip (.exit 0)),.block 1 (sl [sl [d 6] (cn 32 (sl [g 7] (g 8)) .skip),d 9] (cn 47 (d 10) .skip))] (g 5)))),sl [g 11] (cn 59 (g 12) .skip),g 13] .ret) [.cell 4 29] fun cx => ?_
 unfold Yt at H
 refine gA 3 28 28 ?_
 refine rA 3 ?_
 obtain ⟨hg1,H⟩ := gs H
 refine pD intRow hg1 ?_
 refine uA 3 60 60 ?_
 refine gA 1 124 60 ?_
 refine tS ?_
 refine gA 1 252 60 ?_
 obtain ⟨o8,eo8,Ho8⟩ := bs H
 clear H
 refine Tr.mid (ι := Bool × (List zC)) (fun v => ⟨67,0,[sB 6 v.1,sA 5 5 2 0,sA 4 4 2 0,sA 3 3 3 0],[(5,[cL 3 v.2 zC.row,cL 1 (([] : List Int) ++ x0.Pv) intRow]),(4,[cL 3 ([] : List zC) zC.row,cL 1 ([] : List Int) intRow]),(3,(zC.row x1))]⟩) (fun v => Yp n x0 x1 v.1 v.2 = some r) ?_ ?_
 ·refine tB ?_
  refine Tr.loop (ι := Nat × (Int × Bool × (List zC))) (fun v => ⟨67,0,[sI 7 v.2.1,sB 6 v.2.2.1,sA 5 5 2 0,sA 4 4 2 0,sA 3 3 3 0,sA 2 2 2 0],[(5,[cL 3 v.2.2.2 zC.row,cL 1 (([] : List Int) ++ x0.Pv) intRow]),(4,[cL 3 ([] : List zC) zC.row,cL 1 ([] : List Int) intRow]),(3,(zC.row x1)),(2,(CV.frzRow (zD.row x0)))]⟩) (fun v => qg n v.1 x0 x1 v.2.1 v.2.2.1 v.2.2.2 = some o8) (fun v => v.1) (n,(0,false,([] : List zC))) eo8 (St.sub_of [7,6,5,4,3,2] [5,4,3,2] kr) ?_
  rintro ⟨mo8,y2,y3,y4⟩ H
  have H : qg n mo8 x0 x1 y2 y3 y4 = some o8 := H
  obtain _ | mo8 := mo8
  ·exact nN H
  rw [qg] at H
  refine tS ?_
  refine rA 3 ?_
  refine kF x0.Rows zC.row ?_
  refine uA 1 254204 60 ?_
  obtain ⟨h2,H⟩ | ⟨h2,H⟩ := bC H
  ·refine nA h2 ?_
   refine Tr.exit ?_
   refine aJ ?_
   obtain rfl := si H
   have H := Ho8
   dsimp only at H
   exact jA (y3,y4) H [6,5,4,3] [5,4,3]
  refine tA h2 ?_
  refine tK ?_
  refine tS ?_
  refine tB ?_
  refine tS ?_
  refine Tr.mid (ι := Bool × Bool × Bool × Bool × (List zC)) (fun v => ⟨67,0,[sB 32 v.1,sB 22 v.2.1,sB 21 v.2.2.1,sB 20 y3,sB 17 true,sI 16 (x0.Rows.length : Int),sC 15 (cF 3 x0.Rows zC.row),sA 14 2 2 0,sI 13 y2,sI 7 y2,sB 6 v.2.2.2.1,sA 5 5 2 0,sA 4 4 2 0,sA 3 3 3 0,sA 2 2 2 0],[(5,[cL 3 v.2.2.2.2 zC.row,cL 1 (([] : List Int) ++ x0.Pv) intRow]),(4,[cL 3 ([] : List zC) zC.row,cL 1 ([] : List Int) intRow]),(3,(zC.row x1)),(2,(CV.frzRow (zD.row x0)))]⟩) (fun v => Z4 n (fun v => qg n mo8 x0 x1 v.1 v.2.1 v.2.2) x0 x1 y2 v.1 v.2.1 v.2.2.1 v.2.2.2.1 v.2.2.2.2 = some o8) ?_ ?_
  ·refine tS ?_
   refine sT ⟨67,0,[sB 17 (decide (y2 < (x0.Rows.length : Int))),sI 16 (x0.Rows.length : Int),sC 15 (cF 3 x0.Rows zC.row),sA 14 2 2 0,sI 13 y2,sI 7 y2,sB 6 y3,sA 5 5 2 0,sA 4 4 2 0,sA 3 3 3 0,sA 2 2 2 0],[(5,[cL 3 y4 zC.row,cL 1 (([] : List Int) ++ x0.Pv) intRow]),(4,[cL 3 ([] : List zC) zC.row,cL 1 ([] : List Int) intRow]),(3,(zC.row x1)),(2,(CV.frzRow (zD.row x0)))]⟩ ?_
   cases h4 : (!y3)
   ·have H := zI h4 H
    refine Tr.draw mixed 13 kr ⟨67,0,[sB 32 false,(31,.tup []),(30,.tup []),(29,.tup []),(28,.tup []),(27,.tup []),(26,.tup []),(25,.tup []),(24,.tup []),(23,.tup []),sB 22 false,sB 21 false,sB 20 y3,sB 17 (decide (y2 < (x0.Rows.length : Int))),sI 16 (x0.Rows.length : Int),sC 15 (cF 3 x0.Rows zC.row),sA 14 2 2 0,sI 13 y2,sI 7 y2,sB 6 y3,sA 5 5 2 0,sA 4 4 2 0,sA 3 3 3 0,sA 2 2 2 0],[(5,[cL 3 y4 zC.row,cL 1 (([] : List Int) ++ x0.Pv) intRow]),(4,[cL 3 ([] : List zC) zC.row,cL 1 ([] : List Int) intRow]),(3,(zC.row x1)),(2,(CV.frzRow (zD.row x0)))]⟩ (fun cx => ?_) ?_
    ·refine mA zAl [(0,[]),(1,[]),(2,[])] 10 [] fun cx => ?_
     refine sA_ 7594236 60 ⟨67,0,[sB 22 (!y3),sB 21 (!y3),sB 20 y3,sB 17 (decide (y2 < (x0.Rows.length : Int))),sI 16 (x0.Rows.length : Int),sC 15 (cF 3 x0.Rows zC.row),sA 14 2 2 0,sI 13 y2,sI 7 y2,sB 6 y3,sA 5 5 2 0,sA 4 4 2 0,sA 3 3 3 0,sA 2 2 2 0],[(5,[cL 3 y4 zC.row,cL 1 (([] : List Int) ++ x0.Pv) intRow]),(4,[cL 3 ([] : List zC) zC.row,cL 1 ([] : List Int) intRow]),(3,(zC.row x1)),(2,(CV.frzRow (zD.row x0)))]⟩ ?_
     rw [h4]
     refine mA zAl [(3,[]),(4,[]),(5,[]),(6,[]),(7,[]),(8,[]),(9,[]),(10,[]),(11,[]),(12,[])] 0 [] fun cx => ?_
     exact mE zAl [32,31,30,29,28,27,26,25,24,23,22,21,20,17,16,15,14,13,7,6,5,4,3,2] [5,4,3,2]
    refine nB_ ?_
    refine tK ?_
    refine sB' 8589140220 60 ⟨67,0,[sB 32 false,(31,.tup []),(30,.tup []),(29,.tup []),(28,.tup []),(27,.tup []),(26,.tup []),(25,.tup []),(24,.tup []),(23,.tup []),sB 22 false,sB 21 false,sB 20 y3,sB 17 (decide (y2 < (x0.Rows.length : Int))),sI 16 (x0.Rows.length : Int),sC 15 (cF 3 x0.Rows zC.row),sA 14 2 2 0,sI 13 y2,sI 7 y2,sB 6 y3,sA 5 5 2 0,sA 4 4 2 0,sA 3 3 3 0,sA 2 2 2 0],[(5,[cL 3 y4 zC.row,cL 1 (([] : List Int) ++ x0.Pv) intRow]),(4,[cL 3 ([] : List zC) zC.row,cL 1 ([] : List Int) intRow]),(3,(zC.row x1)),(2,(CV.frzRow (zD.row x0)))]⟩ ?_
    rw [h2]
    exact jA (false,false,false,y3,y4) H [32,22,21,20,17,16,15,14,13,7,6,5,4,3,2] [5,4,3,2]
   have H := zJ h4 H
   obtain ⟨v17,ev17,H⟩ := bs H
   refine Tr.draw mixed 13 kr ⟨67,0,[sB 32 (decide (v17.Id ≥ x1.Id)),sB 31 (decide (v17.Id ≥ x1.Id)),sI 30 x1.Id,sA 29 3 3 0,sI 28 v17.Id,(27,.fad ((zC.row v17))),(26,.fad ((zC.row v17))),sI 25 y2,sR 24 2 2 0 1 false,sA 23 2 2 0,sB 22 true,sB 21 true,sB 20 y3,sB 17 (decide (y2 < (x0.Rows.length : Int))),sI 16 (x0.Rows.length : Int),sC 15 (cF 3 x0.Rows zC.row),sA 14 2 2 0,sI 13 y2,sI 7 y2,sB 6 y3,sA 5 5 2 0,sA 4 4 2 0,sA 3 3 3 0,sA 2 2 2 0],[(5,[cL 3 y4 zC.row,cL 1 (([] : List Int) ++ x0.Pv) intRow]),(4,[cL 3 ([] : List zC) zC.row,cL 1 ([] : List Int) intRow]),(3,(zC.row x1)),(2,(CV.frzRow (zD.row x0)))]⟩ (fun cx => ?_) ?_
   ·refine mA zAl [(0,[]),(1,[]),(2,[])] 10 [] fun cx => ?_
    refine sA_ 7594236 60 ⟨67,0,[sB 22 (!y3),sB 21 (!y3),sB 20 y3,sB 17 (decide (y2 < (x0.Rows.length : Int))),sI 16 (x0.Rows.length : Int),sC 15 (cF 3 x0.Rows zC.row),sA 14 2 2 0,sI 13 y2,sI 7 y2,sB 6 y3,sA 5 5 2 0,sA 4 4 2 0,sA 3 3 3 0,sA 2 2 2 0],[(5,[cL 3 y4 zC.row,cL 1 (([] : List Int) ++ x0.Pv) intRow]),(4,[cL 3 ([] : List zC) zC.row,cL 1 ([] : List Int) intRow]),(3,(zC.row x1)),(2,(CV.frzRow (zD.row x0)))]⟩ ?_
    rw [h4]
    refine mA zAl [(3,[]),(4,[]),(5,[])] 7 [⟨[],26,23,24⟩] fun cx => ?_
    refine iN zAl 6 zC.row ev17 fun cx => ?_
    refine mA zAl [(7,[]),(8,[]),(9,[]),(10,[]),(11,[]),(12,[])] 0 [⟨[],3,29,30⟩,⟨[],26,23,24⟩] fun cx => ?_
    exact mE zAl [32,31,30,29,28,27,26,25,24,23,22,21,20,17,16,15,14,13,7,6,5,4,3,2] [5,4,3,2]
   refine sT ⟨67,0,[sB 32 (decide (v17.Id ≥ x1.Id)),sB 31 (decide (v17.Id ≥ x1.Id)),sI 30 x1.Id,sA 29 3 3 0,sI 28 v17.Id,(27,.fad ((zC.row v17))),(26,.fad ((zC.row v17))),sI 25 y2,sR 24 2 2 0 1 false,sA 23 2 2 0,sB 22 true,sB 21 true,sB 20 y3,sB 17 (decide (y2 < (x0.Rows.length : Int))),sI 16 (x0.Rows.length : Int),sC 15 (cF 3 x0.Rows zC.row),sA 14 2 2 0,sI 13 y2,sI 7 y2,sB 6 y3,sA 5 5 2 0,sA 4 4 2 0,sA 3 3 3 0,sA 2 2 2 0],[(5,[cL 3 y4 zC.row,cL 1 (([] : List Int) ++ x0.Pv) intRow]),(4,[cL 3 ([] : List zC) zC.row,cL 1 ([] : List Int) intRow]),(3,(zC.row x1)),(2,(CV.frzRow (zD.row x0)))]⟩ ?_
   cases h5 : (decide (v17.Id ≥ x1.Id))
   ·have H := zI h5 H
    refine nB_ ?_
    refine tK ?_
    refine sB' 8589140220 60 ⟨67,0,[sB 32 false,sB 31 false,sI 30 x1.Id,sA 29 3 3 0,sI 28 v17.Id,(27,.fad ((zC.row v17))),(26,.fad ((zC.row v17))),sI 25 y2,sR 24 2 2 0 1 false,sA 23 2 2 0,sB 22 true,sB 21 true,sB 20 y3,sB 17 (decide (y2 < (x0.Rows.length : Int))),sI 16 (x0.Rows.length : Int),sC 15 (cF 3 x0.Rows zC.row),sA 14 2 2 0,sI 13 y2,sI 7 y2,sB 6 y3,sA 5 5 2 0,sA 4 4 2 0,sA 3 3 3 0,sA 2 2 2 0],[(5,[cL 3 y4 zC.row,cL 1 (([] : List Int) ++ x0.Pv) intRow]),(4,[cL 3 ([] : List zC) zC.row,cL 1 ([] : List Int) intRow]),(3,(zC.row x1)),(2,(CV.frzRow (zD.row x0)))]⟩ ?_
    rw [h2]
    exact jA (false,true,true,y3,y4) H [32,22,21,20,17,16,15,14,13,7,6,5,4,3,2] [5,4,3,2]
   have H := zJ h5 H
   refine tB_ ?_
   refine rA 4 ?_
   obtain ⟨hg18,H⟩ := gs H
   refine LAt.appMU tOk (t := 26) (ty := 26) (e := 113) (x := (.tmp 34)) (y := (.tmp 36)) (d := 37) (g := none) (tI 113) zC.row y4 [x1] kr kr kr kr kr kr kr kr kr kr hg18 ?_
   refine uA 2 326416720124 60 ?_
   refine eA 1 326416720124 60 ?_
   refine sB' 326416720124 60 ⟨67,0,[sB 6 true,sA 38 5 2 0,sV 35 (zC.row x1),sA 33 5 2 0,sB 32 true,sB 31 true,sI 30 x1.Id,sA 29 3 3 0,sI 28 v17.Id,(27,.fad ((zC.row v17))),(26,.fad ((zC.row v17))),sI 25 y2,sR 24 2 2 0 1 false,sA 23 2 2 0,sB 22 true,sB 21 true,sB 20 y3,sB 17 (decide (y2 < (x0.Rows.length : Int))),sI 16 (x0.Rows.length : Int),sC 15 (cF 3 x0.Rows zC.row),sA 14 2 2 0,sI 13 y2,sI 7 y2,sA 5 5 2 0,sA 4 4 2 0,sA 3 3 3 0,sA 2 2 2 0],[(5,[cL 3 (y4 ++ [x1]) zC.row,cL 1 (([] : List Int) ++ x0.Pv) intRow]),(4,[cL 3 ([] : List zC) zC.row,cL 1 ([] : List Int) intRow]),(3,(zC.row x1)),(2,(CV.frzRow (zD.row x0)))]⟩ ?_
   rw [h2]
   exact jA (true,true,true,true,(y4 ++ [x1])) H [32,22,21,20,17,16,15,14,13,7,6,5,4,3,2] [5,4,3,2]
  rintro ⟨y9,y10,y11,y12,y13⟩ H
  have H : (Z4 n (fun v => qg n mo8 x0 x1 v.1 v.2.1 v.2.2) x0 x1 y2 y9 y10 y11 y12 y13) = some o8 := H
  unfold Z4 at H
  obtain ⟨v14,ev14,H⟩ := bs H
  refine Tr.draws mixed 9 kr ⟨67,0,[sB 47 (v14.Id != x1.Id),sI 46 x1.Id,sA 45 3 3 0,sI 44 v14.Id,(43,.fad ((zC.row v14))),(42,.fad ((zC.row v14))),sI 41 y2,sR 40 2 2 0 1 false,sA 39 2 2 0,sB 32 y9,sB 22 y10,sB 21 y11,sB 20 y3,sB 17 true,sI 16 (x0.Rows.length : Int),sC 15 (cF 3 x0.Rows zC.row),sA 14 2 2 0,sI 13 y2,sI 7 y2,sB 6 y12,sA 5 5 2 0,sA 4 4 2 0,sA 3 3 3 0,sA 2 2 2 0],[(5,[cL 3 y13 zC.row,cL 1 (([] : List Int) ++ x0.Pv) intRow]),(4,[cL 3 ([] : List zC) zC.row,cL 1 ([] : List Int) intRow]),(3,(zC.row x1)),(2,(CV.frzRow (zD.row x0)))]⟩ (fun cx => ?_) ?_
  ·refine aA [(0,[]),(1,[]),(2,[])] 6 [⟨[],26,39,40⟩] fun cx => ?_
   refine aI tOk 3 26 0 40 41 42 none ⟨(.box 2),[(0,0)],0,false,3,(CV.frzEs (x0.Rows.map zC.row))⟩ y2 (zC.row v14) _ kr kr kr kr kr kr rfl (ZF ev14) rfl (fun cx => ?_)
   refine aA [(4,[]),(5,[]),(6,[]),(7,[]),(8,[])] 0 [⟨[],3,45,46⟩,⟨[],26,39,40⟩] fun cx => ?_
   exact eE [47,46,45,44,43,42,41,40,39,32,22,21,20,17,16,15,14,13,7,6,5,4,3,2] [5,4,3,2]
  refine sT ⟨67,0,[sB 47 (v14.Id != x1.Id),sI 46 x1.Id,sA 45 3 3 0,sI 44 v14.Id,(43,.fad ((zC.row v14))),(42,.fad ((zC.row v14))),sI 41 y2,sR 40 2 2 0 1 false,sA 39 2 2 0,sB 32 y9,sB 22 y10,sB 21 y11,sB 20 y3,sB 17 true,sI 16 (x0.Rows.length : Int),sC 15 (cF 3 x0.Rows zC.row),sA 14 2 2 0,sI 13 y2,sI 7 y2,sB 6 y12,sA 5 5 2 0,sA 4 4 2 0,sA 3 3 3 0,sA 2 2 2 0],[(5,[cL 3 y13 zC.row,cL 1 (([] : List Int) ++ x0.Pv) intRow]),(4,[cL 3 ([] : List zC) zC.row,cL 1 ([] : List Int) intRow]),(3,(zC.row x1)),(2,(CV.frzRow (zD.row x0)))]⟩ ?_
  cases h3 : (v14.Id != x1.Id)
  ·have H := zI h3 H
   refine nB_ ?_
   refine tK ?_
   refine eA 3 0xff81007fe0fc 60 ?_
   exact jB mo8 ((IntKind.wrap .i64 (y2 + 1)),y12,y13) H [7,6,5,4,3,2] [5,4,3,2]
  have H := zJ h3 H
  refine tB_ ?_
  obtain ⟨v15,ev15,H⟩ := bs H
  obtain ⟨hg16,H⟩ := gs H
  refine Tr.draw mixed 11 kr ⟨67,0,[sA 57 5 2 0,sV 54 (zC.row v15),(53,.fad ((zC.row v15))),sI 52 y2,sR 51 2 2 0 1 false,sA 50 2 2 0,sA 48 5 2 0,sB 47 true,sI 46 x1.Id,sA 45 3 3 0,sI 44 v14.Id,(43,.fad ((zC.row v14))),(42,.fad ((zC.row v14))),sI 41 y2,sR 40 2 2 0 1 false,sA 39 2 2 0,sB 32 y9,sB 22 y10,sB 21 y11,sB 20 y3,sB 17 true,sI 16 (x0.Rows.length : Int),sC 15 (cF 3 x0.Rows zC.row),sA 14 2 2 0,sI 13 y2,sI 7 y2,sB 6 y12,sA 5 5 2 0,sA 4 4 2 0,sA 3 3 3 0,sA 2 2 2 0],[(5,[cL 3 (y13 ++ [v15]) zC.row,cL 1 (([] : List Int) ++ x0.Pv) intRow]),(4,[cL 3 ([] : List zC) zC.row,cL 1 ([] : List Int) intRow]),(3,(zC.row x1)),(2,(CV.frzRow (zD.row x0)))]⟩ (fun cx => ?_) ?_
  ·refine aA [(0,[]),(1,[8,10]),(2,[]),(3,[7,8,10]),(4,[])] 6 [⟨[7,8,10],26,50,51⟩,⟨[8,10],26,48,49⟩] fun cx => ?_
   refine aI tOk 5 26 0 51 52 53 none ⟨(.box 2),[(0,0)],0,false,3,(CV.frzEs (x0.Rows.map zC.row))⟩ y2 (zC.row v15) _ kr kr kr kr kr kr rfl (ZF ev15) rfl (fun cx => ?_)
   refine aA [(6,[])] 4 [⟨[7,8,10],26,50,51⟩,⟨[8,10],26,48,49⟩] fun cx => ?_
   refine bA 7 ?_
   refine lA 1 ?_
   refine fA ?_
   refine bA 8 ?_
   refine LAt.appMU tOk (t := 26) (ty := 26) (e := 113) (x := (.tmp 49)) (y := (.tmp 55)) (d := 56) (g := none) (tI 113) zC.row y13 [v15] kr kr kr kr kr kr kr kr kr kr hg16 ?_
   refine fA ?_
   refine aA [(9,[])] 1 [⟨[7,8,10],26,50,51⟩,⟨[8,10],26,48,49⟩] fun cx => ?_
   refine bA 10 ?_
   refine lA 1 ?_
   refine fA ?_
   exact eE [57,54,53,52,51,50,48,47,46,45,44,43,42,41,40,39,32,22,21,20,17,16,15,14,13,7,6,5,4,3,2] [5,4,3,2]
  refine eA 3 0x27dff81007fe0fc 60 ?_
  exact jB mo8 ((IntKind.wrap .i64 (y2 + 1)),y12,(y13 ++ [v15])) H [7,6,5,4,3,2] [5,4,3,2]
 rintro ⟨y5,y6⟩ H
 have H : (Yp n x0 x1 y5 y6) = some r := H
 unfold Yp at H
 refine tS ?_
 refine gA 2 0x800000000000038 56 ?_
 obtain ⟨h1,H⟩ | ⟨h1,H⟩ := bC H
 ·refine nA h1 ?_
  refine tK ?_
  refine gA 2 16 16 ?_
  exact te (fJ [(true,[cL 3 y6 zC.row,cL 1 (([] : List Int) ++ x0.Pv) intRow])] H)
 refine tA h1 ?_
 refine Tr.at ?_
 refine lA 4 ?_
 obtain ⟨hg7,H⟩ := gs H
 refine LAt.appMU tOk (t := 26) (ty := 26) (e := 113) (x := (.tmp 61)) (y := (.tmp 63)) (d := 64) (g := none) (tI 113) zC.row y6 [x1] kr kr kr kr kr kr kr kr kr kr hg7 ?_
 refine uA 2 48 48 ?_
 refine gA 2 16 16 ?_
 exact te (fJ [(true,[cL 3 (y6 ++ [x1]) zC.row,cL 1 (([] : List Int) ++ x0.Pv) intRow])] H)
def JG (n : Nat) (x0 : zD) (x1 : zC) : Option (zD × Bool) :=
  ((qG n x0 (x0.Pv.length : Int)).bind fun r1 => (bif (!r1) then ((qq n x0).bind fun r4 => (some (r4,false))) else ((Yt n x0 x1).bind fun r2 => ((Yf n r2 x0).bind fun r3 => (some (r3.1,r3.2))))))
theorem zHJ (n : Nat) (x0 : zD) (x1 : zC) (r : zD × Bool) (H : JG n x0 x1 = some r) : zG Tryz.prog 192 [.val true (CV.frzRow (zD.row x0)),.val true (CV.frzRow (zC.row x1))] [.val true (zD.row r.1),.val false [.lit (.bool r.2)]] [] := by
 refine cW Tryz.func192 (fun g d => sl [g 0,sl [g 1] (cn 11 (sl [g 2] .ret) .skip),d 3] .ret) [.cell 4 29,.tmp 5] fun cx => ?_
 unfold JG at H
 refine gA 4 28 28 ?_
 refine tS ?_
 refine rA 3 ?_
 refine kF x0.Pv intRow ?_
 obtain ⟨r1,er1,H⟩ := bs H
 refine vA [.rd,.rd] (Jh n x0 (x0.Pv.length : Int) r1 er1) ?_
 refine uA 1 2076 28 ?_
 obtain ⟨h1,H⟩ | ⟨h1,H⟩ := bC H
 ·refine nA h1 ?_
  refine tK ?_
  obtain ⟨r2,er2,H⟩ := bs H
  obtain ⟨r3,er3,H⟩ := bs H
  refine Tr.draws mixed 9 kr ⟨21,0,[sB 5 r3.2,sA 4 4 2 0],[(4,(zD.row r3.1))]⟩ (fun cx => ?_) ?_
  ·refine aA [(0,[2,4,7]),(1,[2,4,7]),(3,[4,7])] 6 [⟨[4,7],29,2,17⟩,⟨[2,4,7],113,3,15⟩,⟨[2,4,7],29,2,14⟩] fun cx => ?_
   refine bA 2 ?_
   refine vA [.rd,.rd] (zFH n x0 x1 r2 er2) ?_
   refine fA ?_
   refine bA 4 ?_
   refine vA [.own,.rd] (zDg n r2 x0 r3 er3) ?_
   refine fA ?_
   refine aA [(5,[]),(6,[])] 2 [⟨[4,7],29,2,17⟩,⟨[2,4,7],113,3,15⟩,⟨[2,4,7],29,2,14⟩] fun cx => ?_
   refine bA 7 ?_
   refine lA 1 ?_
   refine fA ?_
   refine aA [(8,[])] 0 [⟨[4,7],29,2,17⟩,⟨[2,4,7],113,3,15⟩,⟨[2,4,7],29,2,14⟩] fun cx => ?_
   exact eE [5,4] [4]
  exact te (fJ [(true,(zD.row r3.1)),(false,[cB r3.2])] H)
 refine tA h1 ?_
 refine rA 1 ?_
 obtain ⟨r4,er4,H⟩ := bs H
 refine vA [.rd] (QA n x0 r4 er4) ?_
 refine uA 2 48 16 ?_
 exact te (fJ [(true,(zD.row r4)),(false,[cB false])] H)
def JX (n : Nat) (y9 : (List Int)) (y10 : Int) (y11 : Int) (y12 : (List zC)) (y13 : (List Int)) : Option (zD × Src) :=
  (some ((⟨y12,y13⟩ : zD),(⟨y9,y10,y11⟩ : Src)))
def ZI (n : Nat) : Nat → Int → Int → (List Int) → Int → Int → (List zC) → (List Int) → Option (((List Int) × Int × Int × (List zC) × (List Int)) ⊕ (zD × Src))
  | 0,_,_,_,_,_,_,_ => none
  | mo14 + 1,x1,y3,y4,y5,y6,y7,y8 => (bif (decide (y3 > 0)) then ((zN n (⟨y4,y5,y6⟩ : Src) 4).bind fun r15 => (bif (r15.1 == 0) then ((zN n r15.2 x1).bind fun r20 => ((zN n r20.2 3).bind fun r21 => ((Yl n (⟨y7,y8⟩ : zD) r20.1 (IntKind.wrap .i64 (1 + r21.1))).bind fun r22 => (ZI n mo14 x1 (IntKind.wrap .i64 (y3 - 1)) r21.2.b r21.2.i r21.2.h r22.1.Rows r22.1.Pv)))) else (bif (r15.1 == 1) then ((zN n r15.2 2).bind fun r18 => ((Q1 n (⟨y7,y8⟩ : zD) (IntKind.wrap .i64 (2 + r18.1))).bind fun r19 => (ZI n mo14 x1 (IntKind.wrap .i64 (y3 - 1)) r18.2.b r18.2.i r18.2.h r19.1.Rows r19.1.Pv))) else ((JK n r15.2 x1).bind fun r16 => ((JG n (⟨y7,y8⟩ : zD) r16.1).bind fun r17 => (ZI n mo14 x1 (IntKind.wrap .i64 (y3 - 1)) r16.2.b r16.2.i r16.2.h r17.1.Rows r17.1.Pv)))))) else (some (Sum.inl (y4,y5,y6,y7,y8))))
def YV (n : Nat) (x0 : Src) (x1 : Int) : Option (zD × Src) :=
  ((QQ n x1).bind fun r1 => ((zN n x0 6).bind fun r2 => ((ZI n n x1 r2.1 r2.2.b r2.2.i r2.2.h r1.Rows r1.Pv).bind fun o => match o with | .inl (y9,y10,y11,y12,y13) => (JX n y9 y10 y11 y12 y13) | .inr r => some r)))
def zJa : Tab := ⟨12,[0,0,0,6,0,24,32,105,128,256,256,1023],[0,0,0,6,0,16,32,73,128,256,256,512],[0,0,0,6,0,30,62,127,255,511,511,1023]⟩
noncomputable abbrev zCc (k : Nat) := Rg Tryz.f182 k
noncomputable abbrev zId (k : Nat) := Rd Tryz.f182 k
theorem JZ : z9 (rg Tryz.f182 8) zJa = true := kr
theorem zEI (n : Nat) (x0 : Src) (x1 : Int) (r : zD × Src) (H : YV n x0 x1 = some r) : zG Tryz.prog 182 [.ptr (CV.frzRow (Src.row x0)),.val false [.lit (.int .i64 x1)]] [.val true (zD.row r.1)] [(0,(CV.frzRow (Src.row r.2)))] := by
 refine zG.of_body tOk Tryz.func182 rfl (c := (.seq (zCc 0) (.seq (zCc 1) (.seq (.seq (zCc 2) (.block 0 (.loop (.seq (.seq (zCc 3) (.cond (.tmp 12) .skip (.exit 0))) (.seq (.block 1 (.seq (zCc 5) (.block 2 (.seq (zCc 7) (.cond (.tmp 25) (zId 8) (.seq (zCc 9) (.cond (.tmp 38) (zId 10) (zId 6)))))))) (zCc 4)))))) (.seq (zCc 11) .ret))))) kr (Nat.le_of_ble_eq_true kr) 1 (rs := [.cell 4 29]) rfl [] .nil [(true,(zD.row r.1))] [] [(0,(CV.frzRow (Src.row r.2)))] fun cx => ?_
 show Tr _ _ _ ⟨49,1,[sA 0 0 3 0,sI 1 x1],[(0,(CV.frzRow (Src.row x0)))]⟩ _
 unfold YV at H
 refine gA 1 19 17 ?_
 refine rA 1 ?_
 obtain ⟨r1,er1,H⟩ := bs H
 refine vA [.rd] (zDd n x1 r1 er1) ?_
 refine uA 2 51 49 ?_
 refine tS ?_
 refine rA 1 ?_
 obtain ⟨r2,er2,H⟩ := bs H
 refine LAt.callL tOk [.lend,.rd] (f := 119) (av := #[.tmp 9,.const (.int .i64 6)]) (ats := #[91,3]) (d := (some 10)) (ty := 3) (g := none) kr kr kr [] (zQ n x0 6 r2 er2) kr (.inl rfl) ?_
 refine uA 1 115 49 ?_
 obtain ⟨o14,eo14,Ho14⟩ := bs H
 clear H
 refine Tr.mid (ι := (List Int) × Int × Int × (List zC) × (List Int)) (fun v => ⟨49,1,[sA 5 5 2 0,sA 4 4 2 0,sA 0 0 3 0],[(0,[cF 1 v.1 zk,cI v.2.1,cI v.2.2.1]),(5,[cL 3 v.2.2.2.1 zC.row,cL 1 v.2.2.2.2 intRow]),(4,[cL 3 ([] : List zC) zC.row,cL 1 ([] : List Int) intRow])]⟩) (fun v => JX n v.1 v.2.1 v.2.2.1 v.2.2.2.1 v.2.2.2.2 = some r) ?_ ?_
 ·refine tB ?_
  refine Tr.loop (ι := Nat × (Int × (List Int) × Int × Int × (List zC) × (List Int))) (fun v => ⟨49,1,[sI 6 v.2.1,sA 5 5 2 0,sA 4 4 2 0,sA 0 0 3 0,sI 1 x1],[(0,[cF 1 v.2.2.1 zk,cI v.2.2.2.1,cI v.2.2.2.2.1]),(5,[cL 3 v.2.2.2.2.2.1 zC.row,cL 1 v.2.2.2.2.2.2 intRow]),(4,[cL 3 ([] : List zC) zC.row,cL 1 ([] : List Int) intRow])]⟩) (fun v => ZI n v.1 x1 v.2.1 v.2.2.1 v.2.2.2.1 v.2.2.2.2.1 v.2.2.2.2.2.1 v.2.2.2.2.2.2 = some o14) (fun v => v.1) (n,(r2.1,r2.2.b,r2.2.i,r2.2.h,r1.Rows,r1.Pv)) eo14 (St.sub_of [6,5,4,0,1] [0,5,4] kr) ?_
  rintro ⟨mo14,y3,y4,y5,y6,y7,y8⟩ H
  have H : ZI n mo14 x1 y3 y4 y5 y6 y7 y8 = some o14 := H
  obtain _ | mo14 := mo14
  ·exact nN H
  rw [ZI] at H
  refine tS ?_
  refine gA 2 4211 49 ?_
  obtain ⟨h1,H⟩ | ⟨h1,H⟩ := bC H
  ·refine nA h1 ?_
   refine Tr.exit ?_
   refine aJ ?_
   obtain rfl := si H
   have H := Ho14
   dsimp only at H
   exact jA (y4,y5,y6,y7,y8) H [5,4,0] [0,5,4]
  refine tA h1 ?_
  refine tK ?_
  refine tS ?_
  refine tB ?_
  refine rA 1 ?_
  obtain ⟨r15,er15,H⟩ := bs H
  refine LAt.callL tOk [.lend,.rd] (f := 119) (av := #[.tmp 15,.const (.int .i64 4)]) (ats := #[91,3]) (d := (some 16)) (ty := 3) (g := none) kr kr kr [] (zQ n (⟨y4,y5,y6⟩ : Src) 4 r15 er15) kr (.inl rfl) ?_
  refine dA 65651 49 ?_
  refine tB ?_
  refine gA 2 33620083 49 ?_
  obtain ⟨h2,H⟩ | ⟨h2,H⟩ := bC H
  ·refine nA h2 ?_
   refine gA 2 274877907059 49 ?_
   obtain ⟨h3,H⟩ | ⟨h3,H⟩ := bC H
   ·refine nA h3 ?_
    obtain ⟨r16,er16,H⟩ := bs H
    obtain ⟨r17,er17,H⟩ := bs H
    refine Tr.draw mixed 9 kr ⟨49,1,[sI 6 y3,sA 5 5 2 0,sA 4 4 2 0,sA 0 0 3 0,sI 1 x1],[(5,(zD.row r17.1)),(0,(CV.frzRow (Src.row r16.2))),(4,[cL 3 ([] : List zC) zC.row,cL 1 ([] : List Int) intRow])]⟩ (fun cx => ?_) ?_
    ·refine aA [(0,[4,8]),(1,[]),(2,[])] 6 [⟨[4,8],29,5,18⟩] fun cx => ?_
     refine bA 3 ?_
     refine LAt.callL tOk [.lend,.rd] (f := 193) (av := #[.tmp 19,.tmp 20]) (ats := #[91,3]) (d := (some 21)) (ty := 113) (g := none) kr kr kr [] (zHO n r15.2 x1 r16 er16) kr (.inl rfl) ?_
     refine fA ?_
     refine bA 4 ?_
     refine vB [.rd,.rd] [.box 5] (zHJ n (⟨y7,y8⟩ : zD) r16.1 r17 er17) (.inr (zH (zD.row_mine _) (zH (zL zR zh) zO))) ?_
     refine fA ?_
     refine AT.movT tOk 5 (ty := 177) (t := 22) (d := 17) (g := none) [(true,(zD.row r17.1)),(false,[cB r17.2])] _ kr kr kr (.inl rfl) kr kr kr kr rfl (fun cx => ?_)
     refine aA [(6,[]),(7,[])] 1 [⟨[4,8],29,5,18⟩] fun cx => ?_
     refine bA 8 ?_
     refine lA 1 ?_
     refine fA ?_
     exact eE [6,5,4,0,1] [5,0,4]
    refine eA 3 115 49 ?_
    exact jB mo14 ((IntKind.wrap .i64 (y3 - 1)),r16.2.b,r16.2.i,r16.2.h,r17.1.Rows,r17.1.Pv) H [6,5,4,0,1] [0,5,4]
   refine tA h3 ?_
   obtain ⟨r18,er18,H⟩ := bs H
   obtain ⟨r19,er19,H⟩ := bs H
   refine Tr.draw mixed 9 kr ⟨49,1,[sI 6 y3,sA 5 5 2 0,sA 4 4 2 0,sA 0 0 3 0,sI 1 x1],[(5,(zD.row r19.1)),(0,(CV.frzRow (Src.row r18.2))),(4,[cL 3 ([] : List zC) zC.row,cL 1 ([] : List Int) intRow])]⟩ (fun cx => ?_) ?_
   ·refine aA [(0,[4,8]),(1,[])] 7 [⟨[4,8],29,5,41⟩] fun cx => ?_
    refine bA 2 ?_
    refine LAt.callL tOk [.lend,.rd] (f := 119) (av := #[.tmp 42,.const (.int .i64 2)]) (ats := #[91,3]) (d := (some 43)) (ty := 3) (g := none) kr kr kr [] (zQ n r15.2 2 r18 er18) kr (.inl rfl) ?_
    refine fA ?_
    refine aA [(3,[])] 5 [⟨[4,8],29,5,41⟩] fun cx => ?_
    refine bA 4 ?_
    refine vB [.rd,.rd] [.box 5] (zGz n (⟨y7,y8⟩ : zD) (IntKind.wrap .i64 (2 + r18.1)) r19 er19) (.inr (zH (zD.row_mine _) (zH (zL zR zh) zO))) ?_
    refine fA ?_
    refine AT.movT tOk 5 (ty := 177) (t := 45) (d := 40) (g := none) [(true,(zD.row r19.1)),(false,[cB r19.2])] _ kr kr kr (.inl rfl) kr kr kr kr rfl (fun cx => ?_)
    refine aA [(6,[]),(7,[])] 1 [⟨[4,8],29,5,41⟩] fun cx => ?_
    refine bA 8 ?_
    refine lA 1 ?_
    refine fA ?_
    exact eE [6,5,4,0,1] [5,0,4]
   refine eA 3 115 49 ?_
   exact jB mo14 ((IntKind.wrap .i64 (y3 - 1)),r18.2.b,r18.2.i,r18.2.h,r19.1.Rows,r19.1.Pv) H [6,5,4,0,1] [0,5,4]
  refine tA h2 ?_
  obtain ⟨r20,er20,H⟩ := bs H
  obtain ⟨r21,er21,H⟩ := bs H
  obtain ⟨r22,er22,H⟩ := bs H
  refine Tr.draw mixed 12 kr ⟨49,1,[sI 6 y3,sA 5 5 2 0,sA 4 4 2 0,sA 0 0 3 0,sI 1 x1],[(5,(zD.row r22.1)),(0,(CV.frzRow (Src.row r21.2))),(4,[cL 3 ([] : List zC) zC.row,cL 1 ([] : List Int) intRow])]⟩ (fun cx => ?_) ?_
  ·refine mA JZ [(0,[7,11]),(1,[]),(2,[]),(4,[])] 8 [⟨[7,11],29,5,28⟩] fun cx => ?_
   refine mC JZ 3 ?_
   refine LAt.callL tOk [.lend,.rd] (f := 119) (av := #[.tmp 29,.tmp 30]) (ats := #[91,3]) (d := (some 31)) (ty := 3) (g := none) kr kr kr [] (zQ n r15.2 x1 r20 er20) kr (.inl rfl) ?_
   refine fA ?_
   refine mC JZ 5 ?_
   refine LAt.callL tOk [.lend,.rd] (f := 119) (av := #[.tmp 32,.const (.int .i64 3)]) (ats := #[91,3]) (d := (some 33)) (ty := 3) (g := none) kr kr kr [] (zQ n r20.2 3 r21 er21) kr (.inl rfl) ?_
   refine fA ?_
   refine mA JZ [(6,[])] 5 [⟨[7,11],29,5,28⟩] fun cx => ?_
   refine mC JZ 7 ?_
   refine vB [.rd,.rd,.rd] [.box 5] (zG1 n (⟨y7,y8⟩ : zD) r20.1 (IntKind.wrap .i64 (1 + r21.1)) r22 er22) (.inr (zH (zD.row_mine _) (zH (zL zR zh) zO))) ?_
   refine fA ?_
   refine AT.movT tOk 8 (ty := 177) (t := 35) (d := 27) (g := none) [(true,(zD.row r22.1)),(false,[cB r22.2])] _ kr (oM JZ kr) (dM JZ kr) (.inl rfl) kr kr kr kr rfl (fun cx => ?_)
   refine mA JZ [(9,[]),(10,[])] 1 [⟨[7,11],29,5,28⟩] fun cx => ?_
   refine mC JZ 11 ?_
   refine lA 1 ?_
   refine fA ?_
   exact mE JZ [6,5,4,0,1] [5,0,4]
  refine eA 3 115 49 ?_
  exact jB mo14 ((IntKind.wrap .i64 (y3 - 1)),r21.2.b,r21.2.i,r21.2.h,r22.1.Rows,r22.1.Pv) H [6,5,4,0,1] [0,5,4]
 rintro ⟨y9,y10,y11,y12,y13⟩ H
 have H : (JX n y9 y10 y11 y12 y13) = some r := H
 unfold JX at H
 refine gA 2 17 17 ?_
 refine te ?_
 obtain rfl := si H
 exact Fin.ofY _ [(true,[cL 3 y12 zC.row,cL 1 y13 intRow])] [] _ [] _ [(0,[cF 1 y9 zk,cI y10,cI y11])] kr rfl rfl rfl kr kr kr kr rfl rfl rfl
def Qd (n : Nat) (x0 : Src) : Option (Int × Src) :=
  ((zc n x0 [11,12,13,14]).bind fun r1 => (some (r1.1,r1.2)))
noncomputable abbrev zJS (k : Nat) := Rg Tryz.f184 k
theorem zBR (n : Nat) (x0 : Src) (r : Int × Src) (H : Qd n x0 = some r) : zG Tryz.prog 184 [.ptr (CV.frzRow (Src.row x0))] [.val false [.lit (.int .i64 r.1)]] [(0,(CV.frzRow (Src.row r.2)))] := by
 refine zG.of_body tOk Tryz.func184 rfl (c := (.seq (zJS 0) (.seq (zJS 1) .ret))) kr (Nat.le_of_ble_eq_true kr) 1 (rs := [.tmp 2]) rfl [] .nil [(false,[.lit (.int .i64 r.1)])] [] [(0,(CV.frzRow (Src.row r.2)))] fun cx => ?_
 show Tr _ _ _ ⟨6,1,[sA 0 0 3 0],[(0,(CV.frzRow (Src.row x0)))]⟩ _
 unfold Qd at H
 refine gA 1 1 1 ?_
 refine rA 2 ?_
 obtain ⟨r1,er1,H⟩ := bs H
 refine LAt.callL tOk [.lend,.rd] (f := 78) (av := #[.tmp 3,.tmp 4]) (ats := #[91,27]) (d := (some 5)) (ty := 3) (g := none) kr kr kr [] (zr n x0 [11,12,13,14] r1 er1) kr (.inl rfl) ?_
 refine uA 1 5 1 ?_
 refine te ?_
 obtain rfl := si H
 exact Fin.ofY _ [(false,[cI r1.1])] [] _ [] _ [(0,(CV.frzRow (Src.row r1.2)))] kr rfl rfl rfl kr kr kr kr rfl rfl rfl
def zAO (n : Nat) : Option (Int) :=
  (some (-1))
def ZB (n : Nat) : Nat → (List zB) → Int → Int → Int → Option ((Unit) ⊕ (Int))
  | 0,_,_,_,_ => none
  | mo2 + 1,x0,x1,x2,y1 => (bif (decide (y1 < (x0.length : Int))) then ((idx x0 y1).bind fun v3 => (bif (v3.Tag == x1) then ((idx x0 y1).bind fun v4 => (bif (v4.Mac == x2) then (some (Sum.inr y1)) else (ZB n mo2 x0 x1 x2 (IntKind.wrap .i64 (y1 + 1))))) else (ZB n mo2 x0 x1 x2 (IntKind.wrap .i64 (y1 + 1))))) else (some (Sum.inl ())))
def Ye (n : Nat) (x0 : (List zB)) (x1 : Int) (x2 : Int) : Option (Int) :=
  ((ZB n n x0 x1 x2 0).bind fun o => match o with | .inl _ => (zAO n) | .inr r => some r)
theorem zGA (n : Nat) (x0 : (List zB)) (x1 : Int) (x2 : Int) (r : Int) (H : Ye n x0 x1 x2 = some r) : zG Tryz.prog 194 [.val false [.sl false 5 (CV.frzEs (x0.map zB.row))],.val false [.lit (.int .i64 x1)],.val false [.lit (.int .i64 x2)]] [.val false [.lit (.int .i64 r)]] [] := by
 refine cW Tryz.func194 (fun g d => sl [g 0,sl [g 1] (.block 0 (.loop (sl [sl [g 2] (cn 11 .skip (.exit 0)),.block 1 (sl [g 4] (cn 29 (sl [g 5] .ret) .skip))] (g 3)))),g 6] .ret) [.tmp 6] fun cx => ?_
 unfold Ye at H
 refine gA 1 7 0 ?_
 refine tS ?_
 refine gA 1 135 0 ?_
 obtain ⟨o2,eo2,Ho2⟩ := bs H
 clear H
 refine Tr.mid (ι := Unit) (fun v => ⟨31,0,[],[]⟩) (fun v => zAO n = some r) ?_ ?_
 ·refine tB ?_
  refine Tr.loop (ι := Nat × (Int)) (fun v => ⟨31,0,[sI 7 v.2,sC 0 (cF 5 x0 zB.row),sI 1 x1,sI 2 x2],[]⟩) (fun v => ZB n v.1 x0 x1 x2 v.2 = some o2) (fun v => v.1) (n,0) eo2 (St.sub_of [7,0,1,2] [] kr) ?_
  rintro ⟨mo2,y1⟩ H
  have H : ZB n mo2 x0 x1 x2 y1 = some o2 := H
  obtain _ | mo2 := mo2
  ·exact nN H
  rw [ZB] at H
  refine tS ?_
  refine rA 2 ?_
  refine kF x0 zB.row ?_
  refine uA 1 2183 0 ?_
  obtain ⟨h1,H⟩ | ⟨h1,H⟩ := bC H
  ·refine nA h1 ?_
   refine Tr.exit ?_
   refine aJ ?_
   obtain rfl := si H
   have H := Ho2
   dsimp only at H
   exact jA () H [] []
  refine tA h1 ?_
  refine tK ?_
  refine tS ?_
  refine tB ?_
  refine rA 2 ?_
  obtain ⟨v3,ev3,H⟩ := bs H
  refine iA zB.row ev3 ?_
  refine lA 5 ?_
  refine sL 2097287 0 ⟨31,0,[sB 21 (v3.Tag == x1),sI 7 y1,sC 0 (cF 5 x0 zB.row),sI 1 x1,sI 2 x2],[]⟩ ?_
  cases h2 : (v3.Tag == x1)
  ·have H := zI h2 H
   refine uA 8 536871047 0 ?_
   refine nB_ ?_
   refine tK ?_
   refine eA 3 135 0 ?_
   exact jB mo2 (IntKind.wrap .i64 (y1 + 1)) H [7,0,1,2] []
  have H := zJ h2 H
  refine lA 2 ?_
  obtain ⟨v4,ev4,H⟩ := bs H
  refine iA zB.row ev4 ?_
  refine uA 5 536871047 0 ?_
  obtain ⟨h3,H⟩ | ⟨h3,H⟩ := bC H
  ·refine nA h3 ?_
   refine tK ?_
   refine eA 3 135 0 ?_
   exact jB mo2 (IntKind.wrap .i64 (y1 + 1)) H [7,0,1,2] []
  refine tA h3 ?_
  refine gA 2 64 0 ?_
  refine te ?_
  obtain rfl := si H
  have H := Ho2
  dsimp only at H
  exact fJ [(false,[cI y1])] H
 rintro _ H
 have H : (zAO n) = some r := H
 unfold zAO at H
 refine gA 1 64 0 ?_
 exact te (fJ [(false,[cI (-1)])] H)
def qk (n : Nat) (x0 : zB) : Option (Bool) :=
  ((za n x0.Tag 1 99).bind fun r1 => (bif r1 then ((za n x0.Mac 1 9999).bind fun r2 => (bif r2 then ((za n x0.Port 0 7).bind fun r3 => (bif r3 then ((za n x0.Age 0 4).bind fun r4 => (bif r4 then (bif (!x0.Sc) then (some true) else (some (x0.Age == 0))) else (some false))) else (some false))) else (some false))) else (some false)))
theorem zAP (n : Nat) (x0 : zB) (r : Bool) (H : qk n x0 = some r) : zG Tryz.prog 170 [.val true (CV.frzRow (zB.row x0))] [.val false [.lit (.bool r)]] [] := by
 refine cW Tryz.func170 (fun g d => sl [g 0,g 1] .ret) [.tmp 2] fun cx => ?_
 unfold qk at H
 refine gA 2 2 2 ?_
 refine rA 2 ?_
 obtain ⟨r1,er1,H⟩ := bs H
 refine vA [.rd,.rd,.rd] (zZ n x0.Tag 1 99 r1 er1) ?_
 refine lA 1 ?_
 refine sL 66 2 ⟨31,0,[sB 6 r1,sA 1 1 5 0],[(1,(zB.row x0))]⟩ ?_
 cases h1 : r1
 ·have H := zI h1 H
  refine uA 25 4 0 ?_
  exact te (fF H)
 have H := zJ h1 H
 refine lA 2 ?_
 obtain ⟨r2,er2,H⟩ := bs H
 refine vA [.rd,.rd,.rd] (zZ n x0.Mac 1 9999 r2 er2) ?_
 refine lA 2 ?_
 refine sL 2050 2 ⟨31,0,[sB 11 r2,sA 1 1 5 0],[(1,(zB.row x0))]⟩ ?_
 cases h2 : r2
 ·have H := zI h2 H
  refine uA 20 4 0 ?_
  exact te (fF H)
 have H := zJ h2 H
 refine lA 2 ?_
 obtain ⟨r3,er3,H⟩ := bs H
 refine vA [.rd,.rd,.rd] (zZ n x0.Port 0 7 r3 er3) ?_
 refine lA 2 ?_
 refine sL 65538 2 ⟨31,0,[sB 16 r3,sA 1 1 5 0],[(1,(zB.row x0))]⟩ ?_
 cases h3 : r3
 ·have H := zI h3 H
  refine uA 15 4 0 ?_
  exact te (fF H)
 have H := zJ h3 H
 refine lA 2 ?_
 obtain ⟨r4,er4,H⟩ := bs H
 refine vA [.rd,.rd,.rd] (zZ n x0.Age 0 4 r4 er4) ?_
 refine lA 2 ?_
 refine sL 2097154 2 ⟨31,0,[sB 21 r4,sA 1 1 5 0],[(1,(zB.row x0))]⟩ ?_
 cases h4 : r4
 ·have H := zI h4 H
  refine uA 10 4 0 ?_
  exact te (fF H)
 have H := zJ h4 H
 refine lA 4 ?_
 refine sL 35651586 2 ⟨31,0,[sB 25 (!x0.Sc),sB 21 true,sA 1 1 5 0],[(1,(zB.row x0))]⟩ ?_
 cases h5 : (!x0.Sc)
 ·have H := zI h5 H
  refine uA 6 4 0 ?_
  exact te (fJ [(false,[cB (x0.Age == 0)])] H)
 have H := zJ h5 H
 refine uA 6 4 0 ?_
 exact te (fT H)
def qx (n : Nat) (x0 : zB) (x1 : Int) (x2 : Int) : Option (Bool) :=
  (bif (x0.Tag != x1) then (some (decide (x0.Tag < x1))) else (some (decide (x0.Mac < x2))))
theorem zDf (n : Nat) (x0 : zB) (x1 : Int) (x2 : Int) (r : Bool) (H : qx n x0 x1 x2 = some r) : zG Tryz.prog 171 [.val true (CV.frzRow (zB.row x0)),.val false [.lit (.int .i64 x1)],.val false [.lit (.int .i64 x2)]] [.val false [.lit (.bool r)]] [] := by
 refine cW Tryz.func171 (fun g d => sl [g 0,sl [g 1] (cn 10 (sl [g 2] .ret) .skip),g 3] .ret) [.tmp 6] fun cx => ?_
 unfold qx at H
 refine gA 2 14 8 ?_
 refine tS ?_
 refine gA 4 1038 8 ?_
 obtain ⟨h1,H⟩ | ⟨h1,H⟩ := bC H
 ·refine nA h1 ?_
  refine tK ?_
  refine gA 5 64 0 ?_
  exact te (fJ [(false,[cB (decide (x0.Mac < x2))])] H)
 refine tA h1 ?_
 refine gA 5 64 0 ?_
 exact te (fJ [(false,[cB (decide (x0.Tag < x1))])] H)
def Yj (n : Nat) (x0 : (List zB)) : Option (Bool) :=
  (some (decide ((x0.length : Int) ≤ 12)))
def qD (n : Nat) : Nat → (List zB) → Int → Option ((Unit) ⊕ (Bool))
  | 0,_,_ => none
  | mo2 + 1,x0,y1 => (bif (decide (y1 < (x0.length : Int))) then ((idx x0 y1).bind fun v3 => ((qk n v3).bind fun r4 => (bif (!r4) then (some (Sum.inr false)) else (bif (decide (y1 > 0)) then ((idx x0 (IntKind.wrap .i64 (y1 - 1))).bind fun v5 => ((idx x0 y1).bind fun v6 => ((idx x0 y1).bind fun v7 => ((qx n v5 v6.Tag v7.Mac).bind fun r8 => (bif (!r8) then (some (Sum.inr false)) else (qD n mo2 x0 (IntKind.wrap .i64 (y1 + 1)))))))) else (qD n mo2 x0 (IntKind.wrap .i64 (y1 + 1))))))) else (some (Sum.inl ())))
def q3 (n : Nat) (x0 : (List zB)) : Option (Bool) :=
  ((qD n n x0 0).bind fun o => match o with | .inl _ => (Yj n x0) | .inr r => some r)
def zJT : Tab := ⟨29,[0,0,3,4,8,16,48,64,192,320,512,512,2560,5632,8704,512,512,98816,131584,262656,512,512,3146240,4194816,8389120,17318400,33554944,67109440,134217792],[0,0,3,4,8,16,32,64,192,320,512,512,2560,5632,8704,512,512,98816,131584,262656,512,512,3146240,4194816,8389120,17318400,33554944,67109440,134217792],[0,0,3,7,15,31,63,127,255,511,1023,1023,3071,8191,16383,1023,1023,99327,230399,492543,1023,1023,3146751,7341055,15729663,33554431,67108863,134217727,268435455]⟩
theorem qa : z9 (rg Tryz.f103 4) zJT = true := kr
theorem zC0 (n : Nat) (x0 : (List zB)) (r : Bool) (H : q3 n x0 = some r) : zG Tryz.prog 103 [.val false [.sl false 5 (CV.frzEs (x0.map zB.row))]] [.val false [.lit (.bool r)]] [] := by
 refine cW Tryz.func103 (fun g d => sl [g 0,sl [g 1] (.block 0 (.loop (sl [sl [g 2] (cn 7 .skip (.exit 0)),.block 1 (sl [d 4] (cn 38 (sl [g 5] .ret) .skip))] (g 3)))),g 6] .ret) [.tmp 2] fun cx => ?_
 unfold q3 at H
 refine gA 1 1 0 ?_
 refine tS ?_
 refine gA 1 9 0 ?_
 obtain ⟨o2,eo2,Ho2⟩ := bs H
 clear H
 refine Tr.mid (ι := Unit) (fun v => ⟨42,0,[sC 0 (cF 5 x0 zB.row)],[]⟩) (fun v => Yj n x0 = some r) ?_ ?_
 ·refine tB ?_
  refine Tr.loop (ι := Nat × (Int)) (fun v => ⟨42,0,[sI 3 v.2,sC 0 (cF 5 x0 zB.row)],[]⟩) (fun v => qD n v.1 x0 v.2 = some o2) (fun v => v.1) (n,0) eo2 (St.sub_of [3,0] [] kr) ?_
  rintro ⟨mo2,y1⟩ H
  have H : qD n mo2 x0 y1 = some o2 := H
  obtain _ | mo2 := mo2
  ·exact nN H
  rw [qD] at H
  refine tS ?_
  refine rA 2 ?_
  refine kF x0 zB.row ?_
  refine uA 1 137 0 ?_
  obtain ⟨h1,H⟩ | ⟨h1,H⟩ := bC H
  ·refine nA h1 ?_
   refine Tr.exit ?_
   refine aJ ?_
   obtain rfl := si H
   have H := Ho2
   dsimp only at H
   exact jA () H [0] []
  refine tA h1 ?_
  refine tK ?_
  refine tS ?_
  refine tB ?_
  obtain ⟨v3,ev3,H⟩ := bs H
  obtain ⟨r4,er4,H⟩ := bs H
  refine sT ⟨42,0,[sB 7 (decide (y1 < (x0.length : Int))),sI 3 y1,sC 0 (cF 5 x0 zB.row)],[]⟩ ?_
  cases h2 : (!r4)
  ·have H := zI h2 H
   refine sT ⟨42,0,[sB 7 (decide (y1 < (x0.length : Int))),sI 3 y1,sC 0 (cF 5 x0 zB.row)],[]⟩ ?_
   cases h3 : (decide (y1 > 0))
   ·have H := zI h3 H
    refine Tr.draws mixed 29 kr ⟨42,0,[sB 38 false,sI 3 y1,sC 0 (cF 5 x0 zB.row)],[]⟩ (fun cx => ?_) ?_
    ·refine mA qa [(0,[]),(1,[])] 27 [] fun cx => ?_
     refine iN qa 2 zB.row ev3 fun cx => ?_
     refine mA qa [(3,[])] 25 [] fun cx => ?_
     refine mC qa 4 ?_
     refine vA [.rd] (zAP n v3 r4 er4) ?_
     refine fA ?_
     refine mA qa [(5,[]),(6,[])] 22 [] fun cx => ?_
     refine sA_ 65545 0 ⟨42,0,[sB 16 (!r4),sI 3 y1,sC 0 (cF 5 x0 zB.row)],[]⟩ ?_
     rw [h2]
     refine mA qa [(7,[]),(8,[]),(9,[])] 19 [] fun cx => ?_
     refine sA_ 589833 0 ⟨42,0,[sB 19 (decide (y1 > 0)),sB 16 false,sI 3 y1,sC 0 (cF 5 x0 zB.row)],[]⟩ ?_
     rw [h3]
     refine mA qa [(10,[]),(11,[]),(12,[]),(13,[]),(14,[]),(15,[]),(16,[]),(17,[]),(18,[]),(19,[]),(20,[]),(21,[]),(22,[]),(23,[]),(24,[]),(25,[]),(26,[]),(27,[]),(28,[])] 0 [] fun cx => ?_
     exact mE qa [38,3,0] []
    refine nB_ ?_
    refine tK ?_
    refine eA 3 9 0 ?_
    exact jB mo2 (IntKind.wrap .i64 (y1 + 1)) H [3,0] []
   have H := zJ h3 H
   obtain ⟨v5,ev5,H⟩ := bs H
   obtain ⟨v6,ev6,H⟩ := bs H
   obtain ⟨v7,ev7,H⟩ := bs H
   obtain ⟨r8,er8,H⟩ := bs H
   refine Tr.draws mixed 29 kr ⟨42,0,[sB 38 (!r8),sI 3 y1,sC 0 (cF 5 x0 zB.row)],[]⟩ (fun cx => ?_) ?_
   ·refine mA qa [(0,[]),(1,[])] 27 [] fun cx => ?_
    refine iN qa 2 zB.row ev3 fun cx => ?_
    refine mA qa [(3,[])] 25 [] fun cx => ?_
    refine mC qa 4 ?_
    refine vA [.rd] (zAP n v3 r4 er4) ?_
    refine fA ?_
    refine mA qa [(5,[]),(6,[])] 22 [] fun cx => ?_
    refine sA_ 65545 0 ⟨42,0,[sB 16 (!r4),sI 3 y1,sC 0 (cF 5 x0 zB.row)],[]⟩ ?_
    rw [h2]
    refine mA qa [(7,[]),(8,[]),(9,[])] 19 [] fun cx => ?_
    refine sA_ 589833 0 ⟨42,0,[sB 19 (decide (y1 > 0)),sB 16 false,sI 3 y1,sC 0 (cF 5 x0 zB.row)],[]⟩ ?_
    rw [h3]
    refine mA qa [(10,[]),(11,[]),(12,[])] 16 [] fun cx => ?_
    refine iN qa 13 zB.row ev5 fun cx => ?_
    refine mA qa [(14,[]),(15,[]),(16,[])] 12 [] fun cx => ?_
    refine iN qa 17 zB.row ev6 fun cx => ?_
    refine mA qa [(18,[]),(19,[]),(20,[]),(21,[])] 7 [] fun cx => ?_
    refine iN qa 22 zB.row ev7 fun cx => ?_
    refine mA qa [(23,[]),(24,[])] 4 [] fun cx => ?_
    refine mC qa 25 ?_
    refine vA [.rd,.rd,.rd] (zDf n v5 v6.Tag v7.Mac r8 er8) ?_
    refine fA ?_
    refine mA qa [(26,[]),(27,[]),(28,[])] 0 [] fun cx => ?_
    exact mE qa [38,3,0] []
   refine sT ⟨42,0,[sB 38 (!r8),sI 3 y1,sC 0 (cF 5 x0 zB.row)],[]⟩ ?_
   cases h4 : (!r8)
   ·have H := zI h4 H
    refine nB_ ?_
    refine tK ?_
    refine eA 3 9 0 ?_
    exact jB mo2 (IntKind.wrap .i64 (y1 + 1)) H [3,0] []
   have H := zJ h4 H
   refine tB_ ?_
   refine gA 1 4 0 ?_
   refine te ?_
   obtain rfl := si H
   have H := Ho2
   dsimp only at H
   exact fF H
  have H := zJ h2 H
  refine Tr.draws mixed 29 kr ⟨42,0,[sB 38 true,sI 3 y1,sC 0 (cF 5 x0 zB.row)],[]⟩ (fun cx => ?_) ?_
  ·refine mA qa [(0,[]),(1,[])] 27 [] fun cx => ?_
   refine iN qa 2 zB.row ev3 fun cx => ?_
   refine mA qa [(3,[])] 25 [] fun cx => ?_
   refine mC qa 4 ?_
   refine vA [.rd] (zAP n v3 r4 er4) ?_
   refine fA ?_
   refine mA qa [(5,[]),(6,[])] 22 [] fun cx => ?_
   refine sA_ 65545 0 ⟨42,0,[sB 16 (!r4),sI 3 y1,sC 0 (cF 5 x0 zB.row)],[]⟩ ?_
   rw [h2]
   refine mA qa [(7,[]),(8,[]),(9,[]),(10,[]),(11,[]),(12,[]),(13,[]),(14,[]),(15,[]),(16,[]),(17,[]),(18,[]),(19,[]),(20,[]),(21,[]),(22,[]),(23,[]),(24,[]),(25,[]),(26,[]),(27,[]),(28,[])] 0 [] fun cx => ?_
   exact mE qa [38,3,0] []
  refine tB_ ?_
  refine gA 1 4 0 ?_
  refine te ?_
  obtain rfl := si H
  have H := Ho2
  dsimp only at H
  exact fF H
 rintro _ H
 have H : (Yj n x0) = some r := H
 unfold Yj at H
 refine rA 1 ?_
 refine kF x0 zB.row ?_
 refine uA 2 4 0 ?_
 exact te (fJ [(false,[cB (decide ((x0.length : Int) ≤ 12))])] H)
def qV (n : Nat) (x0 : (List zB)) : Option ((List zB)) :=
  (bif (decide (([] : List zB).length + x0.length ≤ 268435456)) then (some (([] : List zB) ++ x0)) else none)
theorem Z9 (n : Nat) (x0 : (List zB)) (r : (List zB)) (H : qV n x0 = some r) : zG Tryz.prog 156 [.val false [.sl false 5 (CV.frzEs (x0.map zB.row))]] [.val false [.sl true 5 (r.map zB.row)]] [] := by
 refine cW Tryz.func156 (fun g d => sl [g 0,g 1] .ret) [.tmp 2] fun cx => ?_
 unfold qV at H
 refine gA 1 1 0 ?_
 refine rA 2 ?_
 obtain ⟨hg1,H⟩ := gs H
 refine pD zB.row hg1 ?_
 refine LAt.moveU (T := lk tab) (ty := 25) (x := (.tmp 5)) (d := 2) (g := none) false [cL 5 (([] : List zB) ++ x0) zB.row] kr kr kr kr kr ?_
 refine dA 4 0 ?_
 exact te (fJ [(false,[cL 5 (([] : List zB) ++ x0) zB.row])] H)
def Yn (n : Nat) (x1 : zB) (y4 : Bool) (y5 : (List zB)) : Option ((List zB)) :=
  (bif (!y4) then (bif (decide (y5.length + [x1].length ≤ 268435456)) then (some (y5 ++ [x1])) else none) else (some y5))
def ZS (n : Nat) (k : (Int × Bool × (List zB) → Option ((Bool × (List zB)) ⊕ ((List zB))))) (x0 : (List zB)) (x1 : zB) (y1 : Int) (y8 : Bool) (y9 : (List zB)) : Option ((Bool × (List zB)) ⊕ ((List zB))) :=
  ((idx x0 y1).bind fun v10 => (bif (v10.Tag != x1.Tag) then ((idx x0 y1).bind fun v14 => (bif (decide (y9.length + [v14].length ≤ 268435456)) then (k ((IntKind.wrap .i64 (y1 + 1)),y8,(y9 ++ [v14]))) else none)) else ((idx x0 y1).bind fun v11 => (bif (v11.Mac != x1.Mac) then ((idx x0 y1).bind fun v12 => (bif (decide (y9.length + [v12].length ≤ 268435456)) then (k ((IntKind.wrap .i64 (y1 + 1)),y8,(y9 ++ [v12]))) else none)) else (k ((IntKind.wrap .i64 (y1 + 1)),y8,y9))))))
def qZ (n : Nat) : Nat → (List zB) → zB → Int → Bool → (List zB) → Option ((Bool × (List zB)) ⊕ ((List zB)))
  | 0,_,_,_,_,_ => none
  | mo7 + 1,x0,x1,y1,y2,y3 => (bif (decide (y1 < (x0.length : Int))) then (bif (!y2) then ((idx x0 y1).bind fun v16 => ((qx n v16 x1.Tag x1.Mac).bind fun r17 => (bif (!r17) then (bif (decide (y3.length + [x1].length ≤ 268435456)) then (ZS n (fun v => qZ n mo7 x0 x1 v.1 v.2.1 v.2.2) x0 x1 y1 true (y3 ++ [x1])) else none) else (ZS n (fun v => qZ n mo7 x0 x1 v.1 v.2.1 v.2.2) x0 x1 y1 y2 y3)))) else (ZS n (fun v => qZ n mo7 x0 x1 v.1 v.2.1 v.2.2) x0 x1 y1 y2 y3)) else (some (Sum.inl (y2,y3))))
def Zh (n : Nat) (x0 : (List zB)) (x1 : zB) : Option ((List zB)) :=
  ((qZ n n x0 x1 0 false ([] : List zB)).bind fun o => match o with | .inl (y4,y5) => (Yn n x1 y4 y5) | .inr r => some r)
def zJf : Tab := ⟨14,[0,1,2,4,4,28,36,4,132,4,516,1348,2052,4100],[0,1,2,4,4,28,36,4,132,4,516,1348,2052,4100],[0,1,3,7,7,31,63,7,135,7,519,2047,4095,8191]⟩
theorem Ja : z9 (rg Tryz.f195 6) zJf = true := kr
def zJg : Tab := ⟨18,[0,0,3,4,8,0,32,80,128,256,256,1792,2304,4352,256,16640,41216,65792],[0,0,3,4,8,0,32,80,128,256,256,1792,2304,4352,256,16640,41216,65792],[0,0,3,7,15,0,32,127,255,511,511,2047,4095,8191,511,16895,65535,131071]⟩
theorem Yg : z9 (rg Tryz.f195 9) zJg = true := kr
theorem JW (n : Nat) (x0 : (List zB)) (x1 : zB) (r : (List zB)) (H : Zh n x0 x1 = some r) : zG Tryz.prog 195 [.val false [.sl false 5 (CV.frzEs (x0.map zB.row))],.val true (CV.frzRow (zB.row x1))] [.val false [.sl true 5 (r.map zB.row)]] [] := by
 refine cW Tryz.func195 (fun g d => sl [g 0,g 1,g 2,sl [g 3] (.block 0 (.loop (sl [sl [g 4] (cn 12 .skip (.exit 0)),.block 1 (sl [sl [d 6] (cn 28 (sl [g 7] (g 8)) .skip),d 9] (cn 50 (g 10) .skip))] (g 5)))),sl [g 11] (cn 59 (g 12) .skip),g 13] .ret) [.tmp 4] fun cx => ?_
 unfold Zh at H
 refine gA 2 9 8 ?_
 refine rA 1 ?_
 refine LAt.moveU (T := lk tab) (ty := 25) (x := (.tmp 8)) (d := 5) (g := none) false [cL 5 ([] : List zB) zB.row] kr kr kr kr kr ?_
 refine dA 41 8 ?_
 refine gA 1 105 8 ?_
 refine tS ?_
 refine gA 1 233 8 ?_
 obtain ⟨o7,eo7,Ho7⟩ := bs H
 clear H
 refine Tr.mid (ι := Bool × (List zB)) (fun v => ⟨65,0,[sB 6 v.1,sC 5 (cL 5 v.2 zB.row),sA 3 3 5 0],[(3,(zB.row x1))]⟩) (fun v => Yn n x1 v.1 v.2 = some r) ?_ ?_
 ·refine tB ?_
  refine Tr.loop (ι := Nat × (Int × Bool × (List zB))) (fun v => ⟨65,0,[sI 7 v.2.1,sB 6 v.2.2.1,sC 5 (cL 5 v.2.2.2 zB.row),sA 3 3 5 0,sC 0 (cF 5 x0 zB.row)],[(3,(zB.row x1))]⟩) (fun v => qZ n v.1 x0 x1 v.2.1 v.2.2.1 v.2.2.2 = some o7) (fun v => v.1) (n,(0,false,([] : List zB))) eo7 (St.sub_of [7,6,5,3,0] [3] kr) ?_
  rintro ⟨mo7,y1,y2,y3⟩ H
  have H : qZ n mo7 x0 x1 y1 y2 y3 = some o7 := H
  obtain _ | mo7 := mo7
  ·exact nN H
  rw [qZ] at H
  refine tS ?_
  refine rA 2 ?_
  refine kF x0 zB.row ?_
  refine uA 1 4329 8 ?_
  obtain ⟨h2,H⟩ | ⟨h2,H⟩ := bC H
  ·refine nA h2 ?_
   refine Tr.exit ?_
   refine aJ ?_
   obtain rfl := si H
   have H := Ho7
   dsimp only at H
   exact jA (y2,y3) H [6,5,3] [3]
  refine tA h2 ?_
  refine tK ?_
  refine tS ?_
  refine tB ?_
  refine tS ?_
  refine Tr.mid (ι := Bool × (List zB)) (fun v => ⟨65,0,[sI 7 y1,sB 6 v.1,sC 5 (cL 5 v.2 zB.row),sA 3 3 5 0,sC 0 (cF 5 x0 zB.row)],[(3,(zB.row x1))]⟩) (fun v => ZS n (fun v => qZ n mo7 x0 x1 v.1 v.2.1 v.2.2) x0 x1 y1 v.1 v.2 = some o7) ?_ ?_
  ·refine tS ?_
   refine sT ⟨65,0,[sB 12 (decide (y1 < (x0.length : Int))),sI 7 y1,sB 6 y2,sC 5 (cL 5 y3 zB.row),sA 3 3 5 0,sC 0 (cF 5 x0 zB.row)],[(3,(zB.row x1))]⟩ ?_
   cases h5 : (!y2)
   ·have H := zI h5 H
    refine Tr.draw mixed 14 kr ⟨65,0,[sB 28 false,sI 7 y1,sB 6 y2,sC 5 (cL 5 y3 zB.row),sA 3 3 5 0,sC 0 (cF 5 x0 zB.row)],[(3,(zB.row x1))]⟩ (fun cx => ?_) ?_
    ·refine mA Ja [(0,[]),(1,[]),(2,[])] 11 [] fun cx => ?_
     refine sA_ 131305 8 ⟨65,0,[sB 17 (!y2),sI 7 y1,sB 6 y2,sC 5 (cL 5 y3 zB.row),sA 3 3 5 0,sC 0 (cF 5 x0 zB.row)],[(3,(zB.row x1))]⟩ ?_
     rw [h5]
     refine mA Ja [(3,[]),(4,[]),(5,[]),(6,[]),(7,[]),(8,[]),(9,[]),(10,[]),(11,[]),(12,[]),(13,[])] 0 [] fun cx => ?_
     exact mE Ja [28,7,6,5,3,0] [3]
    refine nB_ ?_
    refine tK ?_
    exact jA (y2,y3) H [7,6,5,3,0] [3]
   have H := zJ h5 H
   obtain ⟨v16,ev16,H⟩ := bs H
   obtain ⟨r17,er17,H⟩ := bs H
   refine Tr.draw mixed 14 kr ⟨65,0,[sB 28 (!r17),sI 7 y1,sB 6 y2,sC 5 (cL 5 y3 zB.row),sA 3 3 5 0,sC 0 (cF 5 x0 zB.row)],[(3,(zB.row x1))]⟩ (fun cx => ?_) ?_
   ·refine mA Ja [(0,[]),(1,[]),(2,[])] 11 [] fun cx => ?_
    refine sA_ 131305 8 ⟨65,0,[sB 17 (!y2),sI 7 y1,sB 6 y2,sC 5 (cL 5 y3 zB.row),sA 3 3 5 0,sC 0 (cF 5 x0 zB.row)],[(3,(zB.row x1))]⟩ ?_
    rw [h5]
    refine mA Ja [(3,[]),(4,[])] 9 [] fun cx => ?_
    refine iN Ja 5 zB.row ev16 fun cx => ?_
    refine mA Ja [(6,[]),(7,[]),(8,[11]),(9,[]),(10,[11])] 3 [⟨[11],3,24,25⟩,⟨[11],3,22,23⟩] fun cx => ?_
    refine mC Ja 11 ?_
    refine vA [.rd,.rd,.rd] (zDf n v16 x1.Tag x1.Mac r17 er17) ?_
    refine fA ?_
    refine mA Ja [(12,[]),(13,[])] 0 [⟨[11],3,24,25⟩,⟨[11],3,22,23⟩] fun cx => ?_
    exact mE Ja [28,7,6,5,3,0] [3]
   refine sT ⟨65,0,[sB 28 (!r17),sI 7 y1,sB 6 y2,sC 5 (cL 5 y3 zB.row),sA 3 3 5 0,sC 0 (cF 5 x0 zB.row)],[(3,(zB.row x1))]⟩ ?_
   cases h6 : (!r17)
   ·have H := zI h6 H
    refine nB_ ?_
    refine tK ?_
    exact jA (y2,y3) H [7,6,5,3,0] [3]
   have H := zJ h6 H
   refine tB_ ?_
   refine rA 3 ?_
   obtain ⟨hg18,H⟩ := gs H
   refine LAt.appMU tOk (t := 25) (ty := 25) (e := 103) (x := (.tmp 29)) (y := (.tmp 31)) (d := 32) (g := none) (tI 103) zB.row y3 [x1] kr kr kr kr kr kr kr kr kr kr hg18 ?_
   refine LAt.moveU (T := lk tab) (ty := 25) (x := (.tmp 32)) (d := 5) (g := none) false [cL 5 (y3 ++ [x1]) zB.row] kr kr kr kr kr ?_
   refine dA 169 8 ?_
   refine eA 1 233 8 ?_
   exact jA (true,(y3 ++ [x1])) H [7,6,5,3,0] [3]
  rintro ⟨y8,y9⟩ H
  have H : (ZS n (fun v => qZ n mo7 x0 x1 v.1 v.2.1 v.2.2) x0 x1 y1 y8 y9) = some o7 := H
  unfold ZS at H
  refine tS ?_
  obtain ⟨v10,ev10,H⟩ := bs H
  refine sT ⟨65,0,[sI 7 y1,sB 6 y8,sC 5 (cL 5 y9 zB.row),sA 3 3 5 0,sC 0 (cF 5 x0 zB.row)],[(3,(zB.row x1))]⟩ ?_
  cases h3 : (v10.Tag != x1.Tag)
  ·have H := zI h3 H
   obtain ⟨v11,ev11,H⟩ := bs H
   refine Tr.draw mixed 18 kr ⟨65,0,[sB 50 (v11.Mac != x1.Mac),sI 7 y1,sB 6 y8,sC 5 (cL 5 y9 zB.row),sA 3 3 5 0,sC 0 (cF 5 x0 zB.row)],[(3,(zB.row x1))]⟩ (fun cx => ?_) ?_
   ·refine mA Yg [(0,[]),(1,[])] 16 [] fun cx => ?_
    refine iN Yg 2 zB.row ev10 fun cx => ?_
    refine mA Yg [(3,[]),(4,[]),(5,[]),(6,[]),(7,[]),(8,[])] 9 [⟨[],3,38,39⟩] fun cx => ?_
    refine sA_ 3023656976617 8 ⟨65,0,[sB 41 (v10.Tag != x1.Tag),sI 39 x1.Tag,sA 38 3 5 0,sI 7 y1,sB 6 y8,sC 5 (cL 5 y9 zB.row),sA 3 3 5 0,sC 0 (cF 5 x0 zB.row)],[(3,(zB.row x1))]⟩ ?_
    rw [h3]
    refine mA Yg [(9,[]),(10,[])] 7 [⟨[],3,38,39⟩] fun cx => ?_
    refine iN Yg 11 zB.row ev11 fun cx => ?_
    refine mA Yg [(12,[]),(13,[]),(14,[]),(15,[]),(16,[]),(17,[])] 0 [⟨[],3,47,48⟩,⟨[],3,38,39⟩] fun cx => ?_
    exact mE Yg [50,7,6,5,3,0] [3]
   refine sT ⟨65,0,[sB 50 (v11.Mac != x1.Mac),sI 7 y1,sB 6 y8,sC 5 (cL 5 y9 zB.row),sA 3 3 5 0,sC 0 (cF 5 x0 zB.row)],[(3,(zB.row x1))]⟩ ?_
   cases h4 : (v11.Mac != x1.Mac)
   ·have H := zI h4 H
    refine nB_ ?_
    refine tK ?_
    refine eA 3 233 8 ?_
    exact jB mo7 ((IntKind.wrap .i64 (y1 + 1)),y8,y9) H [7,6,5,3,0] [3]
   have H := zJ h4 H
   refine tB_ ?_
   refine Tr.at ?_
   refine lA 3 ?_
   obtain ⟨v12,ev12,H⟩ := bs H
   refine iA zB.row ev12 ?_
   refine lA 2 ?_
   obtain ⟨hg13,H⟩ := gs H
   refine LAt.appMU tOk (t := 25) (ty := 25) (e := 103) (x := (.tmp 51)) (y := (.tmp 56)) (d := 57) (g := none) (tI 103) zB.row y9 [v12] kr kr kr kr kr kr kr kr kr kr hg13 ?_
   refine LAt.moveU (T := lk tab) (ty := 25) (x := (.tmp 57)) (d := 5) (g := none) false [cL 5 (y9 ++ [v12]) zB.row] kr kr kr kr kr ?_
   refine dA 233 8 ?_
   refine eA 3 233 8 ?_
   exact jB mo7 ((IntKind.wrap .i64 (y1 + 1)),y8,(y9 ++ [v12])) H [7,6,5,3,0] [3]
  have H := zJ h3 H
  refine Tr.draw mixed 18 kr ⟨65,0,[sB 50 true,sI 7 y1,sB 6 y8,sC 5 (cL 5 y9 zB.row),sA 3 3 5 0,sC 0 (cF 5 x0 zB.row)],[(3,(zB.row x1))]⟩ (fun cx => ?_) ?_
  ·refine mA Yg [(0,[]),(1,[])] 16 [] fun cx => ?_
   refine iN Yg 2 zB.row ev10 fun cx => ?_
   refine mA Yg [(3,[]),(4,[]),(5,[]),(6,[]),(7,[]),(8,[])] 9 [⟨[],3,38,39⟩] fun cx => ?_
   refine sA_ 3023656976617 8 ⟨65,0,[sB 41 (v10.Tag != x1.Tag),sI 39 x1.Tag,sA 38 3 5 0,sI 7 y1,sB 6 y8,sC 5 (cL 5 y9 zB.row),sA 3 3 5 0,sC 0 (cF 5 x0 zB.row)],[(3,(zB.row x1))]⟩ ?_
   rw [h3]
   refine mA Yg [(9,[]),(10,[]),(11,[]),(12,[]),(13,[]),(14,[]),(15,[]),(16,[]),(17,[])] 0 [⟨[],3,38,39⟩] fun cx => ?_
   exact mE Yg [50,7,6,5,3,0] [3]
  refine tB_ ?_
  refine Tr.at ?_
  refine lA 3 ?_
  obtain ⟨v14,ev14,H⟩ := bs H
  refine iA zB.row ev14 ?_
  refine lA 2 ?_
  obtain ⟨hg15,H⟩ := gs H
  refine LAt.appMU tOk (t := 25) (ty := 25) (e := 103) (x := (.tmp 51)) (y := (.tmp 56)) (d := 57) (g := none) (tI 103) zB.row y9 [v14] kr kr kr kr kr kr kr kr kr kr hg15 ?_
  refine LAt.moveU (T := lk tab) (ty := 25) (x := (.tmp 57)) (d := 5) (g := none) false [cL 5 (y9 ++ [v14]) zB.row] kr kr kr kr kr ?_
  refine dA 233 8 ?_
  refine eA 3 233 8 ?_
  exact jB mo7 ((IntKind.wrap .i64 (y1 + 1)),y8,(y9 ++ [v14])) H [7,6,5,3,0] [3]
 rintro ⟨y4,y5⟩ H
 have H : (Yn n x1 y4 y5) = some r := H
 unfold Yn at H
 refine tS ?_
 refine gA 2 0x800000000000028 8 ?_
 obtain ⟨h1,H⟩ | ⟨h1,H⟩ := bC H
 ·refine nA h1 ?_
  refine tK ?_
  refine gA 2 48 0 ?_
  exact te (fJ [(false,[cL 5 y5 zB.row])] H)
 refine tA h1 ?_
 refine Tr.at ?_
 refine lA 3 ?_
 obtain ⟨hg6,H⟩ := gs H
 refine LAt.appMU tOk (t := 25) (ty := 25) (e := 103) (x := (.tmp 60)) (y := (.tmp 62)) (d := 63) (g := none) (tI 103) zB.row y5 [x1] kr kr kr kr kr kr kr kr kr kr hg6 ?_
 refine LAt.moveU (T := lk tab) (ty := 25) (x := (.tmp 63)) (d := 5) (g := none) false [cL 5 (y5 ++ [x1]) zB.row] kr kr kr kr kr ?_
 refine dA 32 0 ?_
 refine gA 2 48 0 ?_
 exact te (fJ [(false,[cL 5 (y5 ++ [x1]) zB.row])] H)
def Ys (n : Nat) (x0 : (List zB)) (x1 : Int) (x2 : Int) (x3 : Int) : Option ((List zB)) :=
  ((Ye n x0 x1 x2).bind fun r1 => ((q3 n x0).bind fun r2 => (bif (!r2) then ((qV n x0).bind fun r13 => (some r13)) else ((qk n (⟨x1,x2,x3,0,false⟩ : zB)).bind fun r3 => (bif (!r3) then ((qV n x0).bind fun r12 => (some r12)) else (bif (decide (r1 ≥ 0)) then ((idx x0 r1).bind fun v7 => (bif v7.Sc then ((qV n x0).bind fun r11 => (some r11)) else (bif (decide (r1 < 0)) then (bif (decide ((x0.length : Int) ≥ 12)) then ((qV n x0).bind fun r10 => (some r10)) else ((Zh n x0 (⟨x1,x2,x3,0,false⟩ : zB)).bind fun r9 => (some r9))) else ((Zh n x0 (⟨x1,x2,x3,0,false⟩ : zB)).bind fun r8 => (some r8))))) else (bif (decide (r1 < 0)) then (bif (decide ((x0.length : Int) ≥ 12)) then ((qV n x0).bind fun r6 => (some r6)) else ((Zh n x0 (⟨x1,x2,x3,0,false⟩ : zB)).bind fun r5 => (some r5))) else ((Zh n x0 (⟨x1,x2,x3,0,false⟩ : zB)).bind fun r4 => (some r4)))))))))
theorem zE4 (n : Nat) (x0 : (List zB)) (x1 : Int) (x2 : Int) (x3 : Int) (r : (List zB)) (H : Ys n x0 x1 x2 x3 = some r) : zG Tryz.prog 183 [.val false [.sl false 5 (CV.frzEs (x0.map zB.row))],.val false [.lit (.int .i64 x1)],.val false [.lit (.int .i64 x2)],.val false [.lit (.int .i64 x3)]] [.val false [.sl true 5 (r.map zB.row)]] [] := by
 refine cW Tryz.func183 (fun g d => sl [g 0,g 1,g 2,sl [g 3] (cn 46 (sl [g 4] .ret) .skip),g 5] .ret) [.tmp 8] fun cx => ?_
 unfold Ys at H
 refine gA 1 15 0 ?_
 refine gA 6 519 512 ?_
 refine rA 3 ?_
 obtain ⟨r1,er1,H⟩ := bs H
 refine vA [.rd,.rd,.rd] (zGA n x0 x1 x2 r1 er1) ?_
 refine uA 1 1537 512 ?_
 refine tS ?_
 refine rA 1 ?_
 obtain ⟨r2,er2,H⟩ := bs H
 refine vA [.rd] (zC0 n x0 r2 er2) ?_
 refine lA 2 ?_
 refine sL 4195841 512 ⟨52,0,[sB 22 (!r2),sI 10 r1,sA 9 9 5 0,sC 0 (cF 5 x0 zB.row)],[(9,[cI x1,cI x2,cI x3,cI 0,cB false])]⟩ ?_
 cases h1 : (!r2)
 ·have H := zI h1 H
  refine lA 1 ?_
  obtain ⟨r3,er3,H⟩ := bs H
  refine vA [.rd] (zAP n (⟨x1,x2,x3,0,false⟩ : zB) r3 er3) ?_
  refine lA 3 ?_
  refine sL 134219265 512 ⟨52,0,[sB 27 (!r3),sI 10 r1,sA 9 9 5 0,sC 0 (cF 5 x0 zB.row)],[(9,[cI x1,cI x2,cI x3,cI 0,cB false])]⟩ ?_
  cases h2 : (!r3)
  ·have H := zI h2 H
   refine lA 3 ?_
   refine sL 1207961089 512 ⟨52,0,[sB 30 (decide (r1 ≥ 0)),sB 27 false,sI 10 r1,sA 9 9 5 0,sC 0 (cF 5 x0 zB.row)],[(9,[cI x1,cI x2,cI x3,cI 0,cB false])]⟩ ?_
   cases h3 : (decide (r1 ≥ 0))
   ·have H := zI h3 H
    refine lA 11 ?_
    refine sL 2473901163009 512 ⟨52,0,[sB 41 (decide (r1 < 0)),sB 38 false,sA 9 9 5 0,sC 0 (cF 5 x0 zB.row)],[(9,[cI x1,cI x2,cI x3,cI 0,cB false])]⟩ ?_
    cases h4 : (decide (r1 < 0))
    ·have H := zI h4 H
     refine uA 5 70368744178177 512 ?_
     refine nB_ ?_
     refine tK ?_
     refine rA 2 ?_
     obtain ⟨r4,er4,H⟩ := bs H
     refine vA [.rd,.rd] (JW n x0 (⟨x1,x2,x3,0,false⟩ : zB) r4 er4) ?_
     refine LAt.moveU (T := lk tab) (ty := 25) (x := (.tmp 51)) (d := 8) (g := none) false [cL 5 r4 zB.row] kr kr kr kr kr ?_
     refine dA 256 0 ?_
     exact te (fJ [(false,[cL 5 r4 zB.row])] H)
    have H := zJ h4 H
    refine lA 1 ?_
    refine kF x0 zB.row ?_
    refine uA 3 70368744178177 512 ?_
    obtain ⟨h5,H⟩ | ⟨h5,H⟩ := bC H
    ·refine nA h5 ?_
     refine tK ?_
     refine rA 2 ?_
     obtain ⟨r5,er5,H⟩ := bs H
     refine vA [.rd,.rd] (JW n x0 (⟨x1,x2,x3,0,false⟩ : zB) r5 er5) ?_
     refine LAt.moveU (T := lk tab) (ty := 25) (x := (.tmp 51)) (d := 8) (g := none) false [cL 5 r5 zB.row] kr kr kr kr kr ?_
     refine dA 256 0 ?_
     exact te (fJ [(false,[cL 5 r5 zB.row])] H)
    refine tA h5 ?_
    refine rA 1 ?_
    obtain ⟨r6,er6,H⟩ := bs H
    refine vA [.rd] (Z9 n x0 r6 er6) ?_
    refine LAt.moveU (T := lk tab) (ty := 25) (x := (.tmp 48)) (d := 8) (g := none) false [cL 5 r6 zB.row] kr kr kr kr kr ?_
    refine dA 256 0 ?_
    exact te (fJ [(false,[cL 5 r6 zB.row])] H)
   have H := zJ h3 H
   refine lA 2 ?_
   obtain ⟨v7,ev7,H⟩ := bs H
   refine iA zB.row ev7 ?_
   refine lA 5 ?_
   refine sL 274877908481 512 ⟨52,0,[sB 38 v7.Sc,sI 10 r1,sA 9 9 5 0,sC 0 (cF 5 x0 zB.row)],[(9,[cI x1,cI x2,cI x3,cI 0,cB false])]⟩ ?_
   cases h6 : v7.Sc
   ·have H := zI h6 H
    refine lA 3 ?_
    refine sL 2473901163009 512 ⟨52,0,[sB 41 (decide (r1 < 0)),sB 38 false,sA 9 9 5 0,sC 0 (cF 5 x0 zB.row)],[(9,[cI x1,cI x2,cI x3,cI 0,cB false])]⟩ ?_
    cases h7 : (decide (r1 < 0))
    ·have H := zI h7 H
     refine uA 5 70368744178177 512 ?_
     refine nB_ ?_
     refine tK ?_
     refine rA 2 ?_
     obtain ⟨r8,er8,H⟩ := bs H
     refine vA [.rd,.rd] (JW n x0 (⟨x1,x2,x3,0,false⟩ : zB) r8 er8) ?_
     refine LAt.moveU (T := lk tab) (ty := 25) (x := (.tmp 51)) (d := 8) (g := none) false [cL 5 r8 zB.row] kr kr kr kr kr ?_
     refine dA 256 0 ?_
     exact te (fJ [(false,[cL 5 r8 zB.row])] H)
    have H := zJ h7 H
    refine lA 1 ?_
    refine kF x0 zB.row ?_
    refine uA 3 70368744178177 512 ?_
    obtain ⟨h8,H⟩ | ⟨h8,H⟩ := bC H
    ·refine nA h8 ?_
     refine tK ?_
     refine rA 2 ?_
     obtain ⟨r9,er9,H⟩ := bs H
     refine vA [.rd,.rd] (JW n x0 (⟨x1,x2,x3,0,false⟩ : zB) r9 er9) ?_
     refine LAt.moveU (T := lk tab) (ty := 25) (x := (.tmp 51)) (d := 8) (g := none) false [cL 5 r9 zB.row] kr kr kr kr kr ?_
     refine dA 256 0 ?_
     exact te (fJ [(false,[cL 5 r9 zB.row])] H)
    refine tA h8 ?_
    refine rA 1 ?_
    obtain ⟨r10,er10,H⟩ := bs H
    refine vA [.rd] (Z9 n x0 r10 er10) ?_
    refine LAt.moveU (T := lk tab) (ty := 25) (x := (.tmp 48)) (d := 8) (g := none) false [cL 5 r10 zB.row] kr kr kr kr kr ?_
    refine dA 256 0 ?_
    exact te (fJ [(false,[cL 5 r10 zB.row])] H)
   have H := zJ h6 H
   refine uA 8 70368744178177 512 ?_
   refine tB_ ?_
   refine rA 1 ?_
   obtain ⟨r11,er11,H⟩ := bs H
   refine vA [.rd] (Z9 n x0 r11 er11) ?_
   refine LAt.moveU (T := lk tab) (ty := 25) (x := (.tmp 48)) (d := 8) (g := none) false [cL 5 r11 zB.row] kr kr kr kr kr ?_
   refine dA 256 0 ?_
   exact te (fJ [(false,[cL 5 r11 zB.row])] H)
  have H := zJ h2 H
  refine uA 19 70368744178177 512 ?_
  refine tB_ ?_
  refine rA 1 ?_
  obtain ⟨r12,er12,H⟩ := bs H
  refine vA [.rd] (Z9 n x0 r12 er12) ?_
  refine LAt.moveU (T := lk tab) (ty := 25) (x := (.tmp 48)) (d := 8) (g := none) false [cL 5 r12 zB.row] kr kr kr kr kr ?_
  refine dA 256 0 ?_
  exact te (fJ [(false,[cL 5 r12 zB.row])] H)
 have H := zJ h1 H
 refine uA 24 70368744178177 512 ?_
 refine tB_ ?_
 refine rA 1 ?_
 obtain ⟨r13,er13,H⟩ := bs H
 refine vA [.rd] (Z9 n x0 r13 er13) ?_
 refine LAt.moveU (T := lk tab) (ty := 25) (x := (.tmp 48)) (d := 8) (g := none) false [cL 5 r13 zB.row] kr kr kr kr kr ?_
 refine dA 256 0 ?_
 exact te (fJ [(false,[cL 5 r13 zB.row])] H)
def QK (n : Nat) (x0 : (List zB)) (x1 : Int) (x2 : Int) (x3 : Int) : Option ((List zB) × Bool) :=
  ((q3 n x0).bind fun r1 => (bif (!r1) then ((qV n x0).bind fun r8 => (some (r8,false))) else ((qk n (⟨x1,x2,x3,0,true⟩ : zB)).bind fun r2 => (bif (!r2) then ((qV n x0).bind fun r7 => (some (r7,false))) else ((Ye n x0 x1 x2).bind fun r3 => (bif (decide (r3 < 0)) then (bif (decide ((x0.length : Int) ≥ 12)) then ((qV n x0).bind fun r6 => (some (r6,false))) else ((Zh n x0 (⟨x1,x2,x3,0,true⟩ : zB)).bind fun r5 => (some (r5,true)))) else ((Zh n x0 (⟨x1,x2,x3,0,true⟩ : zB)).bind fun r4 => (some (r4,true)))))))))
theorem zCW (n : Nat) (x0 : (List zB)) (x1 : Int) (x2 : Int) (x3 : Int) (r : (List zB) × Bool) (H : QK n x0 x1 x2 x3 = some r) : zG Tryz.prog 185 [.val false [.sl false 5 (CV.frzEs (x0.map zB.row))],.val false [.lit (.int .i64 x1)],.val false [.lit (.int .i64 x2)],.val false [.lit (.int .i64 x3)]] [.val false [.sl true 5 (r.1.map zB.row)],.val false [.lit (.bool r.2)]] [] := by
 refine cW Tryz.func185 (fun g d => sl [g 0,g 1,sl [g 2] (cn 34 (sl [g 3] .ret) .skip),g 4] .ret) [.tmp 8,.tmp 9] fun cx => ?_
 unfold QK at H
 refine gA 2 15 0 ?_
 refine gA 6 1031 1024 ?_
 refine tS ?_
 refine rA 1 ?_
 obtain ⟨r1,er1,H⟩ := bs H
 refine vA [.rd] (zC0 n x0 r1 er1) ?_
 refine lA 2 ?_
 refine sL 263175 1024 ⟨40,0,[sB 18 (!r1),sA 10 10 5 0,sC 0 (cF 5 x0 zB.row),sI 1 x1,sI 2 x2],[(10,[cI x1,cI x2,cI x3,cI 0,cB true])]⟩ ?_
 cases h1 : (!r1)
 ·have H := zI h1 H
  refine lA 1 ?_
  obtain ⟨r2,er2,H⟩ := bs H
  refine vA [.rd] (zAP n (⟨x1,x2,x3,0,true⟩ : zB) r2 er2) ?_
  refine lA 3 ?_
  refine sL 8389639 1024 ⟨40,0,[sB 23 (!r2),sA 10 10 5 0,sC 0 (cF 5 x0 zB.row),sI 1 x1,sI 2 x2],[(10,[cI x1,cI x2,cI x3,cI 0,cB true])]⟩ ?_
  cases h2 : (!r2)
  ·have H := zI h2 H
   refine lA 3 ?_
   obtain ⟨r3,er3,H⟩ := bs H
   refine vA [.rd,.rd,.rd] (zGA n x0 x1 x2 r3 er3) ?_
   refine lA 2 ?_
   refine sL 545260545 1024 ⟨40,0,[sB 29 (decide (r3 < 0)),sB 23 false,sA 10 10 5 0,sC 0 (cF 5 x0 zB.row)],[(10,[cI x1,cI x2,cI x3,cI 0,cB true])]⟩ ?_
   cases h3 : (decide (r3 < 0))
   ·have H := zI h3 H
    refine uA 5 17179870209 1024 ?_
    refine nB_ ?_
    refine tK ?_
    refine rA 2 ?_
    obtain ⟨r4,er4,H⟩ := bs H
    refine vA [.rd,.rd] (JW n x0 (⟨x1,x2,x3,0,true⟩ : zB) r4 er4) ?_
    refine LAt.moveU (T := lk tab) (ty := 25) (x := (.tmp 39)) (d := 8) (g := none) false [cL 5 r4 zB.row] kr kr kr kr kr ?_
    refine uA 1 768 0 ?_
    exact te (fJ [(false,[cL 5 r4 zB.row]),(false,[cB true])] H)
   have H := zJ h3 H
   refine lA 1 ?_
   refine kF x0 zB.row ?_
   refine uA 3 17179870209 1024 ?_
   obtain ⟨h4,H⟩ | ⟨h4,H⟩ := bC H
   ·refine nA h4 ?_
    refine tK ?_
    refine rA 2 ?_
    obtain ⟨r5,er5,H⟩ := bs H
    refine vA [.rd,.rd] (JW n x0 (⟨x1,x2,x3,0,true⟩ : zB) r5 er5) ?_
    refine LAt.moveU (T := lk tab) (ty := 25) (x := (.tmp 39)) (d := 8) (g := none) false [cL 5 r5 zB.row] kr kr kr kr kr ?_
    refine uA 1 768 0 ?_
    exact te (fJ [(false,[cL 5 r5 zB.row]),(false,[cB true])] H)
   refine tA h4 ?_
   refine rA 1 ?_
   obtain ⟨r6,er6,H⟩ := bs H
   refine vA [.rd] (Z9 n x0 r6 er6) ?_
   refine LAt.moveU (T := lk tab) (ty := 25) (x := (.tmp 36)) (d := 8) (g := none) false [cL 5 r6 zB.row] kr kr kr kr kr ?_
   refine uA 1 768 0 ?_
   exact te (fJ [(false,[cL 5 r6 zB.row]),(false,[cB false])] H)
  have H := zJ h2 H
  refine uA 11 17179870209 1024 ?_
  refine tB_ ?_
  refine rA 1 ?_
  obtain ⟨r7,er7,H⟩ := bs H
  refine vA [.rd] (Z9 n x0 r7 er7) ?_
  refine LAt.moveU (T := lk tab) (ty := 25) (x := (.tmp 36)) (d := 8) (g := none) false [cL 5 r7 zB.row] kr kr kr kr kr ?_
  refine uA 1 768 0 ?_
  exact te (fJ [(false,[cL 5 r7 zB.row]),(false,[cB false])] H)
 have H := zJ h1 H
 refine uA 16 17179870209 1024 ?_
 refine tB_ ?_
 refine rA 1 ?_
 obtain ⟨r8,er8,H⟩ := bs H
 refine vA [.rd] (Z9 n x0 r8 er8) ?_
 refine LAt.moveU (T := lk tab) (ty := 25) (x := (.tmp 36)) (d := 8) (g := none) false [cL 5 r8 zB.row] kr kr kr kr kr ?_
 refine uA 1 768 0 ?_
 exact te (fJ [(false,[cL 5 r8 zB.row]),(false,[cB false])] H)
def Zq (n : Nat) (r3 : zA) (r4 : ByteArray × Src) (r5 : (List Pt) × Src) (r6 : zD × Src) (y17 : (List Int)) (y18 : Int) (y19 : Int) (y20 : (List zB)) : Option (zA × Src) :=
  ((zN n (⟨y17,y18,y19⟩ : Src) 5).bind fun r21 => ((zc n r21.2 [0,1,5,1000000]).bind fun r22 => (some ((⟨r3.Id,r4.1,r5.1,y20,r6.1,r21.1,r3.Pa,r3.Wo,r3.Dr,r22.1⟩ : zA),r22.2))))
def QM (n : Nat) (r1 : Int × Src) (r3 : zA) (r4 : ByteArray × Src) (r5 : (List Pt) × Src) (r6 : zD × Src) (y13 : (List Int)) (y14 : Int) (y15 : Int) (y16 : (List zB)) : Option (zA × Src) :=
  ((ZA n (⟨y13,y14,y15⟩ : Src) 3).bind fun r23 => (bif r23.1 then ((Qd n r23.2).bind fun r24 => ((zN n r24.2 (IntKind.wrap .i64 (1 + r1.1))).bind fun r25 => ((QK n y16 1 r24.1 r25.1).bind fun r26 => (Zq n r3 r4 r5 r6 r25.2.b r25.2.i r25.2.h r26.1)))) else (Zq n r3 r4 r5 r6 r23.2.b r23.2.i r23.2.h y16)))
def ZO (n : Nat) : Nat → Int × Src → Int → (List Int) → Int → Int → (List zB) → Option (((List Int) × Int × Int × (List zB)) ⊕ (zA × Src))
  | 0,_,_,_,_,_,_ => none
  | mo27 + 1,r1,y8,y9,y10,y11,y12 => (bif (decide (y8 > 0)) then ((zN n (⟨y9,y10,y11⟩ : Src) 3).bind fun r28 => ((Qd n r28.2).bind fun r29 => ((zN n r29.2 (IntKind.wrap .i64 (1 + r1.1))).bind fun r30 => ((Ys n y12 (IntKind.wrap .i64 (1 + r28.1)) r29.1 r30.1).bind fun r31 => (ZO n mo27 r1 (IntKind.wrap .i64 (y8 - 1)) r30.2.b r30.2.i r30.2.h r31))))) else (some (Sum.inl (y9,y10,y11,y12))))
def Ym (n : Nat) (x0 : Src) : Option (zA × Src) :=
  ((zN n x0 4).bind fun r1 => ((zN n r1.2 5).bind fun r2 => ((qs n (IntKind.wrap .i64 (1 + r2.1)) (IntKind.wrap .i64 (1 + r1.1))).bind fun r3 => ((Qc n r2.2 [(⟨#[]⟩ : ByteArray),(⟨#[121,97,114,100]⟩ : ByteArray),(⟨#[98,49]⟩ : ByteArray)]).bind fun r4 => ((Zw n r4.2 (IntKind.wrap .i64 (1 + r1.1))).bind fun r5 => ((YV n r5.2 (IntKind.wrap .i64 (1 + r1.1))).bind fun r6 => ((zN n r6.2 6).bind fun r7 => ((ZO n n r1 r7.1 r7.2.b r7.2.i r7.2.h r3.F).bind fun o => match o with | .inl (y13,y14,y15,y16) => (QM n r1 r3 r4 r5 r6 y13 y14 y15 y16) | .inr r => some r))))))))
def zJW : Tab := ⟨13,[0,1,0,4,8,0,40,0,0,448,594,2047,4095],[0,1,0,4,8,0,32,0,0,384,594,0,3072],[0,1,0,4,12,0,44,0,0,492,1023,2047,4095]⟩
noncomputable abbrev zAW (k : Nat) := Rg Tryz.f150 k
noncomputable abbrev zJO (k : Nat) := Rd Tryz.f150 k
theorem zAA : z9 (rg Tryz.f150 9) zJW = true := kr
def zI4 : Tab := ⟨13,[0,1,0,4,0,0,56,74,128,256,256,1023,3071],[0,1,0,4,0,0,48,74,128,256,256,0,2560],[0,1,0,4,0,0,60,127,255,511,511,1023,3071]⟩
theorem JL : z9 (rg Tryz.f150 11) zI4 = true := kr
theorem zG2 (n : Nat) (x0 : Src) (r : zA × Src) (H : Ym n x0 = some r) : zG Tryz.prog 150 [.ptr (CV.frzRow (Src.row x0))] [.val true (zA.row r.1)] [(0,(CV.frzRow (Src.row r.2)))] := by
 refine zG.of_body tOk Tryz.func150 rfl (c := (.seq (zAW 0) (.seq (zAW 1) (.seq (zAW 2) (.seq (zAW 3) (.seq (zAW 4) (.seq (zAW 5) (.seq (.seq (zAW 6) (.block 0 (.loop (.seq (.seq (zAW 7) (.cond (.tmp 29) .skip (.exit 0))) (.seq (.block 1 (zJO 9)) (zAW 8)))))) (.seq (.seq (zAW 10) (.cond (.tmp 45) (zJO 11) .skip)) (.seq (zAW 12) (.seq (zAW 13) (.seq (zAW 14) .ret)))))))))))) kr (Nat.le_of_ble_eq_true kr) 1 (rs := [.cell 2 31]) rfl [] .nil [(true,(zA.row r.1))] [] [(0,(CV.frzRow (Src.row r.2)))] fun cx => ?_
 show Tr _ _ _ ⟨66,1,[sA 0 0 3 0],[(0,(CV.frzRow (Src.row x0)))]⟩ _
 unfold Ym at H
 refine gA 1 5 5 ?_
 refine rA 1 ?_
 obtain ⟨r1,er1,H⟩ := bs H
 refine LAt.callL tOk [.lend,.rd] (f := 119) (av := #[.tmp 6,.const (.int .i64 4)]) (ats := #[91,3]) (d := (some 7)) (ty := 3) (g := none) kr kr kr [] (zQ n x0 4 r1 er1) kr (.inl rfl) ?_
 refine uA 2 13 5 ?_
 refine rA 1 ?_
 obtain ⟨r2,er2,H⟩ := bs H
 refine LAt.callL tOk [.lend,.rd] (f := 119) (av := #[.tmp 9,.const (.int .i64 5)]) (ats := #[91,3]) (d := (some 10)) (ty := 3) (g := none) kr kr kr [] (zQ n r1.2 5 r2 er2) kr (.inl rfl) ?_
 refine lA 2 ?_
 obtain ⟨r3,er3,H⟩ := bs H
 refine vA [.rd,.rd] (zCT n (IntKind.wrap .i64 (1 + r2.1)) (IntKind.wrap .i64 (1 + r1.1)) r3 er3) ?_
 refine uA 2 29 21 ?_
 refine rA 2 ?_
 obtain ⟨r4,er4,H⟩ := bs H
 refine LAt.callL tOk [.lend,.rd] (f := 151) (av := #[.tmp 14,.tmp 15]) (ats := #[91,150]) (d := (some 16)) (ty := 9) (g := none) kr kr kr [] (zFC n r2.2 [(⟨#[]⟩ : ByteArray),(⟨#[121,97,114,100]⟩ : ByteArray),(⟨#[98,49]⟩ : ByteArray)] r4 er4) kr (.inl rfl) ?_
 refine uA 2 29 21 ?_
 refine rA 2 ?_
 obtain ⟨r5,er5,H⟩ := bs H
 refine LAt.callL tOk [.lend,.rd] (f := 181) (av := #[.tmp 18,.tmp 19]) (ats := #[91,3]) (d := (some 20)) (ty := 24) (g := none) kr kr kr [] (zDe n r4.2 (IntKind.wrap .i64 (1 + r1.1)) r5 er5) kr (.inl rfl) ?_
 refine uA 2 29 21 ?_
 refine rA 2 ?_
 obtain ⟨r6,er6,H⟩ := bs H
 refine LAt.callL tOk [.lend,.rd] (f := 182) (av := #[.tmp 22,.tmp 23]) (ats := #[91,3]) (d := (some 24)) (ty := 29) (g := none) kr kr kr [] (zEI n r5.2 (IntKind.wrap .i64 (1 + r1.1)) r6 er6) kr (.inl rfl) ?_
 refine uA 2 29 21 ?_
 refine tS ?_
 refine rA 1 ?_
 obtain ⟨r7,er7,H⟩ := bs H
 refine LAt.callL tOk [.lend,.rd] (f := 119) (av := #[.tmp 26,.const (.int .i64 6)]) (ats := #[91,3]) (d := (some 27)) (ty := 3) (g := none) kr kr kr [] (zQ n r6.2 6 r7 er7) kr (.inl rfl) ?_
 refine uA 1 61 21 ?_
 obtain ⟨o27,eo27,Ho27⟩ := bs H
 clear H
 refine Tr.mid (ι := (List Int) × Int × Int × (List zB)) (fun v => ⟨66,1,[sA 4 4 11 0,sI 3 (IntKind.wrap .i64 (1 + r1.1)),sA 2 2 11 0,sA 0 0 3 0],[(0,[cF 1 v.1 zk,cI v.2.1,cI v.2.2.1]),(4,[cI r3.Id,cS r4.1,cL 8 r5.1 Pt.row,cL 5 v.2.2.2 zB.row,cL 3 r6.1.Rows zC.row,cL 1 r6.1.Pv intRow,cI r3.Tk,cI r3.Pa,cI r3.Wo,cI r3.Dr,cI r3.Ve]),(2,[cI 0,cS (⟨#[]⟩ : ByteArray),cL 8 ([] : List Pt) Pt.row,cL 5 ([] : List zB) zB.row,cL 3 ([] : List zC) zC.row,cL 1 ([] : List Int) intRow,cI 0,cI 0,cI 0,cI 0,cI 0])]⟩) (fun v => QM n r1 r3 r4 r5 r6 v.1 v.2.1 v.2.2.1 v.2.2.2 = some r) ?_ ?_
 ·refine tB ?_
  refine Tr.loop (ι := Nat × (Int × (List Int) × Int × Int × (List zB))) (fun v => ⟨66,1,[sI 5 v.2.1,sA 4 4 11 0,sI 3 (IntKind.wrap .i64 (1 + r1.1)),sA 2 2 11 0,sA 0 0 3 0],[(0,[cF 1 v.2.2.1 zk,cI v.2.2.2.1,cI v.2.2.2.2.1]),(4,[cI r3.Id,cS r4.1,cL 8 r5.1 Pt.row,cL 5 v.2.2.2.2.2 zB.row,cL 3 r6.1.Rows zC.row,cL 1 r6.1.Pv intRow,cI r3.Tk,cI r3.Pa,cI r3.Wo,cI r3.Dr,cI r3.Ve]),(2,[cI 0,cS (⟨#[]⟩ : ByteArray),cL 8 ([] : List Pt) Pt.row,cL 5 ([] : List zB) zB.row,cL 3 ([] : List zC) zC.row,cL 1 ([] : List Int) intRow,cI 0,cI 0,cI 0,cI 0,cI 0])]⟩) (fun v => ZO n v.1 r1 v.2.1 v.2.2.1 v.2.2.2.1 v.2.2.2.2.1 v.2.2.2.2.2 = some o27) (fun v => v.1) (n,(r7.1,r7.2.b,r7.2.i,r7.2.h,r3.F)) eo27 (St.sub_of [5,4,3,2,0] [0,4,2] kr) ?_
  rintro ⟨mo27,y8,y9,y10,y11,y12⟩ H
  have H : ZO n mo27 r1 y8 y9 y10 y11 y12 = some o27 := H
  obtain _ | mo27 := mo27
  ·exact nN H
  rw [ZO] at H
  refine tS ?_
  refine gA 2 536870973 21 ?_
  obtain ⟨h2,H⟩ | ⟨h2,H⟩ := bC H
  ·refine nA h2 ?_
   refine Tr.exit ?_
   refine aJ ?_
   obtain rfl := si H
   have H := Ho27
   dsimp only at H
   exact jA (y9,y10,y11,y12) H [4,3,2,0] [0,4,2]
  refine tA h2 ?_
  refine tK ?_
  refine tS ?_
  refine tB ?_
  obtain ⟨r28,er28,H⟩ := bs H
  obtain ⟨r29,er29,H⟩ := bs H
  obtain ⟨r30,er30,H⟩ := bs H
  obtain ⟨r31,er31,H⟩ := bs H
  refine Tr.draw mixed 13 kr ⟨66,1,[sI 5 y8,sA 4 4 11 0,sI 3 (IntKind.wrap .i64 (1 + r1.1)),sA 2 2 11 0,sA 0 0 3 0],[(4,[cI r3.Id,cS r4.1,cL 8 r5.1 Pt.row,cL 5 r31 zB.row,cL 3 r6.1.Rows zC.row,cL 1 r6.1.Pv intRow,cI r3.Tk,cI r3.Pa,cI r3.Wo,cI r3.Dr,cI r3.Ve]),(0,(CV.frzRow (Src.row r30.2))),(2,[cI 0,cS (⟨#[]⟩ : ByteArray),cL 8 ([] : List Pt) Pt.row,cL 5 ([] : List zB) zB.row,cL 3 ([] : List zC) zC.row,cL 1 ([] : List Int) intRow,cI 0,cI 0,cI 0,cI 0,cI 0])]⟩ (fun cx => ?_) ?_
  ·refine mA zAA [(0,[]),(1,[10,12]),(2,[]),(5,[]),(7,[]),(8,[])] 7 [⟨[10,12],25,32,33⟩] fun cx => ?_
   refine mC zAA 3 ?_
   refine LAt.callL tOk [.lend,.rd] (f := 119) (av := #[.tmp 34,.const (.int .i64 3)]) (ats := #[91,3]) (d := (some 35)) (ty := 3) (g := none) kr kr kr [] (zQ n (⟨y9,y10,y11⟩ : Src) 3 r28 er28) kr (.inl rfl) ?_
   refine fA ?_
   refine mA zAA [(4,[])] 5 [⟨[10,12],25,32,33⟩] fun cx => ?_
   refine mC zAA 6 ?_
   refine LAt.callL tOk [.lend] (f := 184) (av := #[.tmp 37]) (ats := #[91]) (d := (some 38)) (ty := 3) (g := none) kr kr kr [] (zBR n r28.2 r29 er29) kr (.inl rfl) ?_
   refine fA ?_
   refine mC zAA 9 ?_
   refine LAt.callL tOk [.lend,.rd] (f := 119) (av := #[.tmp 39,.tmp 40]) (ats := #[91,3]) (d := (some 41)) (ty := 3) (g := none) kr kr kr [] (zQ n r29.2 (IntKind.wrap .i64 (1 + r1.1)) r30 er30) kr (.inl rfl) ?_
   refine fA ?_
   refine mC zAA 10 ?_
   refine vB [.rd,.rd,.rd,.rd] [.box 4] (zE4 n y12 (IntKind.wrap .i64 (1 + r28.1)) r29.1 r30.1 r31 er31) (.inr (zH (zL (QJ (ZW zB.row_mine _)) zh) zO)) ?_
   refine fA ?_
   refine mA zAA [(11,[])] 1 [⟨[10,12],25,32,33⟩] fun cx => ?_
   refine mC zAA 12 ?_
   refine lA 1 ?_
   refine fA ?_
   exact mE zAA [5,4,3,2,0] [4,0,2]
  refine eA 3 61 21 ?_
  exact jB mo27 ((IntKind.wrap .i64 (y8 - 1)),r30.2.b,r30.2.i,r30.2.h,r31) H [5,4,3,2,0] [0,4,2]
 rintro ⟨y13,y14,y15,y16⟩ H
 have H : (QM n r1 r3 r4 r5 r6 y13 y14 y15 y16) = some r := H
 unfold QM at H
 refine tS ?_
 refine Tr.mid (ι := (List Int) × Int × Int × (List zB)) (fun v => ⟨66,1,[sA 4 4 11 0,sA 2 2 11 0,sA 0 0 3 0],[(0,[cF 1 v.1 zk,cI v.2.1,cI v.2.2.1]),(4,[cI r3.Id,cS r4.1,cL 8 r5.1 Pt.row,cL 5 v.2.2.2 zB.row,cL 3 r6.1.Rows zC.row,cL 1 r6.1.Pv intRow,cI r3.Tk,cI r3.Pa,cI r3.Wo,cI r3.Dr,cI r3.Ve]),(2,[cI 0,cS (⟨#[]⟩ : ByteArray),cL 8 ([] : List Pt) Pt.row,cL 5 ([] : List zB) zB.row,cL 3 ([] : List zC) zC.row,cL 1 ([] : List Int) intRow,cI 0,cI 0,cI 0,cI 0,cI 0])]⟩) (fun v => Zq n r3 r4 r5 r6 v.1 v.2.1 v.2.2.1 v.2.2.2 = some r) ?_ ?_
 ·refine rA 1 ?_
  obtain ⟨r23,er23,H⟩ := bs H
  refine LAt.callL tOk [.lend,.rd] (f := 80) (av := #[.tmp 44,.const (.int .i64 3)]) (ats := #[91,3]) (d := (some 45)) (ty := 4) (g := none) kr kr kr [] (Jj n (⟨y13,y14,y15⟩ : Src) 3 r23 er23) kr (.inl rfl) ?_
  refine dA 35184372088861 21 ?_
  cases h1 : r23.1
  ·have H := zI h1 H
   refine nB_ ?_
   refine tK ?_
   exact jA (r23.2.b,r23.2.i,r23.2.h,y16) H [4,2,0] [0,4,2]
  have H := zJ h1 H
  refine tB_ ?_
  obtain ⟨r24,er24,H⟩ := bs H
  obtain ⟨r25,er25,H⟩ := bs H
  obtain ⟨r26,er26,H⟩ := bs H
  refine Tr.draw mixed 13 kr ⟨66,1,[sA 4 4 11 0,sA 2 2 11 0,sA 0 0 3 0],[(4,[cI r3.Id,cS r4.1,cL 8 r5.1 Pt.row,cL 5 r26.1 zB.row,cL 3 r6.1.Rows zC.row,cL 1 r6.1.Pv intRow,cI r3.Tk,cI r3.Pa,cI r3.Wo,cI r3.Dr,cI r3.Ve]),(0,(CV.frzRow (Src.row r25.2))),(2,[cI 0,cS (⟨#[]⟩ : ByteArray),cL 8 ([] : List Pt) Pt.row,cL 5 ([] : List zB) zB.row,cL 3 ([] : List zC) zC.row,cL 1 ([] : List Int) intRow,cI 0,cI 0,cI 0,cI 0,cI 0])]⟩ (fun cx => ?_) ?_
  ·refine mA JL [(0,[]),(1,[7,12]),(2,[]),(4,[]),(5,[])] 8 [⟨[7,12],25,47,48⟩] fun cx => ?_
   refine mC JL 3 ?_
   refine LAt.callL tOk [.lend] (f := 184) (av := #[.tmp 49]) (ats := #[91]) (d := (some 50)) (ty := 3) (g := none) kr kr kr [] (zBR n r23.2 r24 er24) kr (.inl rfl) ?_
   refine fA ?_
   refine mC JL 6 ?_
   refine LAt.callL tOk [.lend,.rd] (f := 119) (av := #[.tmp 51,.tmp 52]) (ats := #[91,3]) (d := (some 53)) (ty := 3) (g := none) kr kr kr [] (zQ n r24.2 (IntKind.wrap .i64 (1 + r1.1)) r25 er25) kr (.inl rfl) ?_
   refine fA ?_
   refine mC JL 7 ?_
   refine vB [.rd,.rd,.rd,.rd] [.box 4] (zCW n y16 1 r24.1 r25.1 r26 er26) (.inr (zH (zL (QJ (ZW zB.row_mine _)) zh) (zH (zL zR zh) zO))) ?_
   refine fA ?_
   refine AT.movT tOk 8 (ty := 173) (t := 54) (d := 46) (g := none) [(false,[cL 5 r26.1 zB.row]),(false,[cB r26.2])] _ kr (oM JL kr) (dM JL kr) (.inl rfl) kr kr kr kr rfl (fun cx => ?_)
   refine mA JL [(9,[]),(10,[]),(11,[])] 1 [⟨[7,12],25,47,48⟩] fun cx => ?_
   refine mC JL 12 ?_
   refine lA 1 ?_
   refine fA ?_
   exact mE JL [4,2,0] [4,0,2]
  exact jA (r25.2.b,r25.2.i,r25.2.h,r26.1) H [4,2,0] [0,4,2]
 rintro ⟨y17,y18,y19,y20⟩ H
 have H : (Zq n r3 r4 r5 r6 y17 y18 y19 y20) = some r := H
 unfold Zq at H
 refine rA 1 ?_
 obtain ⟨r21,er21,H⟩ := bs H
 refine LAt.callL tOk [.lend,.rd] (f := 119) (av := #[.tmp 58,.const (.int .i64 5)]) (ats := #[91,3]) (d := (some 59)) (ty := 3) (g := none) kr kr kr [] (zQ n (⟨y17,y18,y19⟩ : Src) 5 r21 er21) kr (.inl rfl) ?_
 refine uA 2 21 21 ?_
 refine rA 2 ?_
 obtain ⟨r22,er22,H⟩ := bs H
 refine LAt.callL tOk [.lend,.rd] (f := 78) (av := #[.tmp 61,.tmp 62]) (ats := #[91,27]) (d := (some 63)) (ty := 3) (g := none) kr kr kr [] (zr n r21.2 [0,1,5,1000000] r22 er22) kr (.inl rfl) ?_
 refine uA 2 21 21 ?_
 refine gA 2 5 5 ?_
 refine te ?_
 obtain rfl := si H
 exact Fin.ofY _ [(true,[cI r3.Id,cS r4.1,cL 8 r5.1 Pt.row,cL 5 y20 zB.row,cL 3 r6.1.Rows zC.row,cL 1 r6.1.Pv intRow,cI r21.1,cI r3.Pa,cI r3.Wo,cI r3.Dr,cI r22.1])] [] _ [] _ [(0,(CV.frzRow (Src.row r22.2)))] kr rfl rfl rfl kr kr kr kr rfl rfl rfl
def Qe (n : Nat) (x0 : Src) : Option (Vec × Src) :=
  ((QH n x0).bind fun r1 => ((zN n r1.2 12).bind fun r2 => (bif (r2.1 == 0) then ((zc n r2.2 [0,99,100]).bind fun r6 => (some ((⟨r6.1,r1.1.Co,r1.1.Hops,r1.1.Bridge,r1.1.Port⟩ : Vec),r6.2))) else (bif (r2.1 == 1) then ((zc n r2.2 [(-1),99999,100000,100001]).bind fun r5 => (some ((⟨r1.1.Root,r5.1,r1.1.Hops,r1.1.Bridge,r1.1.Port⟩ : Vec),r5.2))) else (bif (r2.1 == 2) then ((zc n r2.2 [(-1),11]).bind fun r4 => (some ((⟨r1.1.Root,r1.1.Co,r4.1,r1.1.Bridge,r1.1.Port⟩ : Vec),r4.2))) else (bif (r2.1 == 3) then ((zc n r2.2 [(-1),7,8]).bind fun r3 => (some ((⟨r1.1.Root,r1.1.Co,r1.1.Hops,r1.1.Bridge,r3.1⟩ : Vec),r3.2))) else (some (r1.1,r2.2))))))))
noncomputable abbrev G79 (k : Nat) := Rg Tryz.f79 k
theorem zFD (n : Nat) (x0 : Src) (r : Vec × Src) (H : Qe n x0 = some r) : zG Tryz.prog 79 [.ptr (CV.frzRow (Src.row x0))] [.val true (Vec.row r.1)] [(0,(CV.frzRow (Src.row r.2)))] := by
 refine zG.of_body tOk Tryz.func79 rfl (c := (.seq (G79 0) (.seq (G79 1) (.seq (.seq (G79 2) (.block 0 (.seq (G79 3) (.cond (.tmp 8) (G79 4) (.seq (G79 5) (.cond (.tmp 14) (G79 6) (.seq (G79 7) (.cond (.tmp 20) (G79 8) (.seq (G79 9) (.cond (.tmp 26) (G79 10) .skip)))))))))) (.seq (G79 11) .ret))))) kr (Nat.le_of_ble_eq_true kr) 1 (rs := [.cell 2 33]) rfl [] .nil [(true,(Vec.row r.1))] [] [(0,(CV.frzRow (Src.row r.2)))] fun cx => ?_
 show Tr _ _ _ ⟨33,1,[sA 0 0 3 0],[(0,(CV.frzRow (Src.row x0)))]⟩ _
 unfold Qe at H
 refine gA 1 5 5 ?_
 refine rA 1 ?_
 obtain ⟨r1,er1,H⟩ := bs H
 refine LAt.callL tOk [.lend] (f := 155) (av := #[.tmp 4]) (ats := #[91]) (d := (some 5)) (ty := 33) (g := none) kr kr kr [] (zEH n x0 r1 er1) kr (.inl rfl) ?_
 refine uA 2 13 13 ?_
 refine tS ?_
 refine rA 1 ?_
 obtain ⟨r2,er2,H⟩ := bs H
 refine LAt.callL tOk [.lend,.rd] (f := 119) (av := #[.tmp 6,.const (.int .i64 12)]) (ats := #[91,3]) (d := (some 7)) (ty := 3) (g := none) kr kr kr [] (zQ n r1.2 12 r2 er2) kr (.inl rfl) ?_
 refine dA 141 13 ?_
 refine tB ?_
 refine gA 2 397 13 ?_
 obtain ⟨h1,H⟩ | ⟨h1,H⟩ := bC H
 ·refine nA h1 ?_
  refine gA 2 16525 13 ?_
  obtain ⟨h2,H⟩ | ⟨h2,H⟩ := bC H
  ·refine nA h2 ?_
   refine gA 2 1048717 13 ?_
   obtain ⟨h3,H⟩ | ⟨h3,H⟩ := bC H
   ·refine nA h3 ?_
    refine gA 2 67108877 13 ?_
    obtain ⟨h4,H⟩ | ⟨h4,H⟩ := bC H
    ·refine nA h4 ?_
     refine tK ?_
     refine gA 2 5 5 ?_
     refine te ?_
     obtain rfl := si H
     exact Fin.ofY _ [(true,(Vec.row r1.1))] [] _ [] _ [(0,(CV.frzRow (Src.row r2.2)))] kr rfl rfl rfl kr kr kr kr rfl rfl rfl
    refine tA h4 ?_
    refine Tr.at ?_
    refine lA 2 ?_
    obtain ⟨r3,er3,H⟩ := bs H
    refine LAt.callL tOk [.lend,.rd] (f := 78) (av := #[.tmp 28,.tmp 29]) (ats := #[91,27]) (d := (some 30)) (ty := 3) (g := none) kr kr kr [] (zr n r2.2 [(-1),7,8] r3 er3) kr (.inl rfl) ?_
    refine uA 2 13 13 ?_
    refine gA 2 5 5 ?_
    refine te ?_
    obtain rfl := si H
    exact Fin.ofY _ [(true,[cI r1.1.Root,cI r1.1.Co,cI r1.1.Hops,cI r1.1.Bridge,cI r3.1])] [] _ [] _ [(0,(CV.frzRow (Src.row r3.2)))] kr rfl rfl rfl kr kr kr kr rfl rfl rfl
   refine tA h3 ?_
   refine Tr.at ?_
   refine lA 2 ?_
   obtain ⟨r4,er4,H⟩ := bs H
   refine LAt.callL tOk [.lend,.rd] (f := 78) (av := #[.tmp 22,.tmp 23]) (ats := #[91,27]) (d := (some 24)) (ty := 3) (g := none) kr kr kr [] (zr n r2.2 [(-1),11] r4 er4) kr (.inl rfl) ?_
   refine uA 2 13 13 ?_
   refine gA 2 5 5 ?_
   refine te ?_
   obtain rfl := si H
   exact Fin.ofY _ [(true,[cI r1.1.Root,cI r1.1.Co,cI r4.1,cI r1.1.Bridge,cI r1.1.Port])] [] _ [] _ [(0,(CV.frzRow (Src.row r4.2)))] kr rfl rfl rfl kr kr kr kr rfl rfl rfl
  refine tA h2 ?_
  refine Tr.at ?_
  refine lA 2 ?_
  obtain ⟨r5,er5,H⟩ := bs H
  refine LAt.callL tOk [.lend,.rd] (f := 78) (av := #[.tmp 16,.tmp 17]) (ats := #[91,27]) (d := (some 18)) (ty := 3) (g := none) kr kr kr [] (zr n r2.2 [(-1),99999,100000,100001] r5 er5) kr (.inl rfl) ?_
  refine uA 2 13 13 ?_
  refine gA 2 5 5 ?_
  refine te ?_
  obtain rfl := si H
  exact Fin.ofY _ [(true,[cI r1.1.Root,cI r5.1,cI r1.1.Hops,cI r1.1.Bridge,cI r1.1.Port])] [] _ [] _ [(0,(CV.frzRow (Src.row r5.2)))] kr rfl rfl rfl kr kr kr kr rfl rfl rfl
 refine tA h1 ?_
 refine Tr.at ?_
 refine lA 2 ?_
 obtain ⟨r6,er6,H⟩ := bs H
 refine LAt.callL tOk [.lend,.rd] (f := 78) (av := #[.tmp 10,.tmp 11]) (ats := #[91,27]) (d := (some 12)) (ty := 3) (g := none) kr kr kr [] (zr n r2.2 [0,99,100] r6 er6) kr (.inl rfl) ?_
 refine uA 2 13 13 ?_
 refine gA 2 5 5 ?_
 refine te ?_
 obtain rfl := si H
 exact Fin.ofY _ [(true,[cI r6.1,cI r1.1.Co,cI r1.1.Hops,cI r1.1.Bridge,cI r1.1.Port])] [] _ [] _ [(0,(CV.frzRow (Src.row r6.2)))] kr rfl rfl rfl kr kr kr kr rfl rfl rfl
def JH (n : Nat) (x0 : Src) : Option ((List Pt) × Src) :=
  ((zN n x0 4).bind fun r1 => ((Zw n r1.2 (IntKind.wrap .i64 (1 + r1.1))).bind fun r2 => ((zN n r2.2 12).bind fun r3 => (bif (r3.1 == 0) then ((Qe n r3.2).bind fun r7 => ((idx r2.1 0).bind fun v8 => (some ((r2.1.set (((0 : Int)).toNat) (⟨v8.Up,v8.Co,v8.Has,r7.1⟩ : Pt)),r7.2)))) else (bif (r3.1 == 1) then ((zc n r3.2 [0,1000,1001]).bind fun r5 => ((idx r2.1 0).bind fun v6 => (some ((r2.1.set (((0 : Int)).toNat) (⟨v6.Up,r5.1,v6.Has,v6.Hd⟩ : Pt)),r5.2)))) else (bif (r3.1 == 2) then ((idx r2.1 0).bind fun v4 => (some ((r2.1.set (((0 : Int)).toNat) (⟨false,v4.Co,v4.Has,v4.Hd⟩ : Pt)),r3.2))) else (some (r2.1,r3.2))))))))
noncomputable abbrev zB7 (k : Nat) := Rg Tryz.f152 k
theorem zHM (n : Nat) (x0 : Src) (r : (List Pt) × Src) (H : JH n x0 = some r) : zG Tryz.prog 152 [.ptr (CV.frzRow (Src.row x0))] [.val false [.sl true 8 (r.1.map Pt.row)]] [(0,(CV.frzRow (Src.row r.2)))] := by
 refine zG.of_body tOk Tryz.func152 rfl (c := (.seq (zB7 0) (.seq (zB7 1) (.seq (.seq (zB7 2) (.block 0 (.seq (zB7 3) (.cond (.tmp 11) (zB7 4) (.seq (zB7 5) (.cond (.tmp 18) (zB7 6) (.seq (zB7 7) (.cond (.tmp 26) (zB7 8) .skip)))))))) (.seq (zB7 9) .ret))))) kr (Nat.le_of_ble_eq_true kr) 1 (rs := [.tmp 2]) rfl [] .nil [(false,[.sl true 8 (r.1.map Pt.row)])] [] [(0,(CV.frzRow (Src.row r.2)))] fun cx => ?_
 show Tr _ _ _ ⟨32,1,[sA 0 0 3 0],[(0,(CV.frzRow (Src.row x0)))]⟩ _
 unfold JH at H
 refine gA 1 1 1 ?_
 refine rA 2 ?_
 obtain ⟨r1,er1,H⟩ := bs H
 refine LAt.callL tOk [.lend,.rd] (f := 119) (av := #[.tmp 5,.const (.int .i64 4)]) (ats := #[91,3]) (d := (some 6)) (ty := 3) (g := none) kr kr kr [] (zQ n x0 4 r1 er1) kr (.inl rfl) ?_
 refine lA 1 ?_
 obtain ⟨r2,er2,H⟩ := bs H
 refine LAt.callL tOk [.lend,.rd] (f := 181) (av := #[.tmp 4,.tmp 7]) (ats := #[91,3]) (d := (some 8)) (ty := 24) (g := none) kr kr kr [] (zDe n r1.2 (IntKind.wrap .i64 (1 + r1.1)) r2 er2) kr (.inl rfl) ?_
 refine LAt.moveU (T := lk tab) (ty := 24) (x := (.tmp 8)) (d := 3) (g := none) false [cL 8 r2.1 Pt.row] kr kr kr kr kr ?_
 refine dA 9 1 ?_
 refine tS ?_
 refine rA 1 ?_
 obtain ⟨r3,er3,H⟩ := bs H
 refine LAt.callL tOk [.lend,.rd] (f := 119) (av := #[.tmp 9,.const (.int .i64 12)]) (ats := #[91,3]) (d := (some 10)) (ty := 3) (g := none) kr kr kr [] (zQ n r2.2 12 r3 er3) kr (.inl rfl) ?_
 refine dA 1033 1 ?_
 refine tB ?_
 refine gA 2 3081 1 ?_
 obtain ⟨h1,H⟩ | ⟨h1,H⟩ := bC H
 ·refine nA h1 ?_
  refine gA 2 263177 1 ?_
  obtain ⟨h2,H⟩ | ⟨h2,H⟩ := bC H
  ·refine nA h2 ?_
   refine gA 2 67108873 1 ?_
   obtain ⟨h3,H⟩ | ⟨h3,H⟩ := bC H
   ·refine nA h3 ?_
    refine tK ?_
    refine gA 2 13 1 ?_
    refine te ?_
    obtain rfl := si H
    exact Fin.ofY _ [(false,[cL 8 r2.1 Pt.row])] [] _ [] _ [(0,(CV.frzRow (Src.row r3.2)))] kr rfl rfl rfl kr kr kr kr rfl rfl rfl
   refine tA h3 ?_
   refine Tr.at ?_
   refine lA 1 ?_
   obtain ⟨v4,ev4,H⟩ := bs H
   refine oA Pt.row ev4 ?_
   refine lA 1 ?_
   refine sS (tI 4) false [cB false] 3 0 (((0 : Int)).toNat) 8 0 8 Pt.row (⟨false,v4.Co,v4.Has,v4.Hd⟩ : Pt) (Qx ev4).2 ?_
   refine dA 9 1 ?_
   refine gA 2 13 1 ?_
   refine te ?_
   obtain rfl := si H
   exact Fin.ofY _ [(false,[cL 8 (r2.1.set (((0 : Int)).toNat) (⟨false,v4.Co,v4.Has,v4.Hd⟩ : Pt)) Pt.row])] [] _ [] _ [(0,(CV.frzRow (Src.row r3.2)))] kr rfl rfl rfl kr kr kr kr rfl rfl rfl
  refine tA h2 ?_
  refine Tr.at ?_
  refine lA 3 ?_
  obtain ⟨r5,er5,H⟩ := bs H
  refine LAt.callL tOk [.lend,.rd] (f := 78) (av := #[.tmp 21,.tmp 22]) (ats := #[91,27]) (d := (some 23)) (ty := 3) (g := none) kr kr kr [] (zr n r3.2 [0,1000,1001] r5 er5) kr (.inl rfl) ?_
  obtain ⟨v6,ev6,H⟩ := bs H
  refine oA Pt.row ev6 ?_
  refine lA 1 ?_
  refine sS (tI 3) false [cI r5.1] 3 0 (((0 : Int)).toNat) 8 1 8 Pt.row (⟨v6.Up,r5.1,v6.Has,v6.Hd⟩ : Pt) (Qx ev6).2 ?_
  refine dA 9 1 ?_
  refine gA 2 13 1 ?_
  refine te ?_
  obtain rfl := si H
  exact Fin.ofY _ [(false,[cL 8 (r2.1.set (((0 : Int)).toNat) (⟨v6.Up,r5.1,v6.Has,v6.Hd⟩ : Pt)) Pt.row])] [] _ [] _ [(0,(CV.frzRow (Src.row r5.2)))] kr rfl rfl rfl kr kr kr kr rfl rfl rfl
 refine tA h1 ?_
 refine Tr.at ?_
 refine lA 2 ?_
 obtain ⟨r7,er7,H⟩ := bs H
 refine LAt.callL tOk [.lend] (f := 79) (av := #[.tmp 14]) (ats := #[91]) (d := (some 15)) (ty := 33) (g := none) kr kr kr [] (zFD n r3.2 r7 er7) kr (.inl rfl) ?_
 obtain ⟨v8,ev8,H⟩ := bs H
 refine oA Pt.row ev8 ?_
 refine lA 1 ?_
 refine sS (tI 33) true (Vec.row r7.1) 3 0 (((0 : Int)).toNat) 8 3 8 Pt.row (⟨v8.Up,v8.Co,v8.Has,r7.1⟩ : Pt) (Qx ev8).2 ?_
 refine dA 9 1 ?_
 refine gA 2 13 1 ?_
 refine te ?_
 obtain rfl := si H
 exact Fin.ofY _ [(false,[cL 8 (r2.1.set (((0 : Int)).toNat) (⟨v8.Up,v8.Co,v8.Has,r7.1⟩ : Pt)) Pt.row])] [] _ [] _ [(0,(CV.frzRow (Src.row r7.2)))] kr rfl rfl rfl kr kr kr kr rfl rfl rfl
def JS (n : Nat) (y3 : (List zB)) : Option ((List zB)) :=
  (some y3)
def qY (n : Nat) : Nat → (List zB) → Int → (List zB) → Option (((List zB)) ⊕ ((List zB)))
  | 0,_,_,_ => none
  | mo4 + 1,x0,y1,y2 => (bif (decide (y1 < (x0.length : Int))) then ((idx x0 y1).bind fun v5 => (bif v5.Sc then (bif (decide (y2.length + [v5].length ≤ 268435456)) then (qY n mo4 x0 (IntKind.wrap .i64 (y1 + 1)) (y2 ++ [v5])) else none) else (bif (decide (v5.Age < 4)) then (bif (decide (y2.length + [(⟨v5.Tag,v5.Mac,v5.Port,(IntKind.wrap .i64 (v5.Age + 1)),v5.Sc⟩ : zB)].length ≤ 268435456)) then (qY n mo4 x0 (IntKind.wrap .i64 (y1 + 1)) (y2 ++ [(⟨v5.Tag,v5.Mac,v5.Port,(IntKind.wrap .i64 (v5.Age + 1)),false⟩ : zB)])) else none) else (qY n mo4 x0 (IntKind.wrap .i64 (y1 + 1)) y2)))) else (some (Sum.inl y2)))
def QB (n : Nat) (x0 : (List zB)) : Option ((List zB)) :=
  ((qY n n x0 0 ([] : List zB)).bind fun o => match o with | .inl y3 => (JS n y3) | .inr r => some r)
theorem zEF (n : Nat) (x0 : (List zB)) (r : (List zB)) (H : QB n x0 = some r) : zG Tryz.prog 96 [.val false [.sl false 5 (CV.frzEs (x0.map zB.row))]] [.val false [.sl true 5 (r.map zB.row)]] [] := by
 refine cW Tryz.func96 (fun g d => sl [g 0,g 1,sl [g 2] (.block 0 (.loop (sl [sl [g 3] (cn 10 .skip (.exit 0)),.block 1 (sl [g 5,sl [g 6] (cn 18 (sl [g 7] (.exit 1)) .skip),g 8] (cn 25 (sl [g 9] (g 10)) .skip))] (g 4)))),g 11] .ret) [.tmp 2] fun cx => ?_
 unfold QB at H
 refine gA 1 1 0 ?_
 refine rA 1 ?_
 refine LAt.moveU (T := lk tab) (ty := 25) (x := (.tmp 6)) (d := 3) (g := none) false [cL 5 ([] : List zB) zB.row] kr kr kr kr kr ?_
 refine dA 9 0 ?_
 refine tS ?_
 refine gA 1 25 0 ?_
 obtain ⟨o4,eo4,Ho4⟩ := bs H
 clear H
 refine Tr.mid (ι := (List zB)) (fun v => ⟨35,0,[sC 3 (cL 5 v zB.row)],[]⟩) (fun v => JS n v = some r) ?_ ?_
 ·refine tB ?_
  refine Tr.loop (ι := Nat × (Int × (List zB))) (fun v => ⟨35,0,[sI 4 v.2.1,sC 3 (cL 5 v.2.2 zB.row),sC 0 (cF 5 x0 zB.row)],[]⟩) (fun v => qY n v.1 x0 v.2.1 v.2.2 = some o4) (fun v => v.1) (n,(0,([] : List zB))) eo4 (St.sub_of [4,3,0] [] kr) ?_
  rintro ⟨mo4,y1,y2⟩ H
  have H : qY n mo4 x0 y1 y2 = some o4 := H
  obtain _ | mo4 := mo4
  ·exact nN H
  rw [qY] at H
  refine tS ?_
  refine rA 2 ?_
  refine kF x0 zB.row ?_
  refine uA 1 1049 0 ?_
  obtain ⟨h1,H⟩ | ⟨h1,H⟩ := bC H
  ·refine nA h1 ?_
   refine Tr.exit ?_
   refine aJ ?_
   obtain rfl := si H
   have H := Ho4
   dsimp only at H
   exact jA y2 H [3] []
  refine tA h1 ?_
  refine tK ?_
  refine tS ?_
  refine tB ?_
  refine rA 2 ?_
  obtain ⟨v5,ev5,H⟩ := bs H
  refine iA zB.row ev5 ?_
  refine uA 3 57 32 ?_
  refine tS ?_
  refine gA 2 262201 32 ?_
  refine sT ⟨35,0,[sB 18 v5.Sc,sA 5 5 5 0,sI 4 y1,sC 3 (cL 5 y2 zB.row),sC 0 (cF 5 x0 zB.row)],[(5,(zB.row v5))]⟩ ?_
  cases h2 : v5.Sc
  ·have H := zI h2 H
   refine nB_ ?_
   refine tK ?_
   refine gA 3 33554489 32 ?_
   obtain ⟨h3,H⟩ | ⟨h3,H⟩ := bC H
   ·refine nA h3 ?_
    refine tK ?_
    refine eA 3 25 0 ?_
    exact jB mo4 ((IntKind.wrap .i64 (y1 + 1)),y2) H [4,3,0] []
   refine tA h3 ?_
   refine gA 5 57 32 ?_
   refine Tr.at ?_
   refine lA 3 ?_
   obtain ⟨hg6,H⟩ := gs H
   refine LAt.appMU tOk (t := 25) (ty := 25) (e := 103) (x := (.tmp 30)) (y := (.tmp 32)) (d := 33) (g := none) (tI 103) zB.row y2 [(⟨v5.Tag,v5.Mac,v5.Port,(IntKind.wrap .i64 (v5.Age + 1)),v5.Sc⟩ : zB)] kr kr kr kr kr kr kr kr kr kr hg6 ?_
   refine LAt.moveU (T := lk tab) (ty := 25) (x := (.tmp 33)) (d := 3) (g := none) false [cL 5 (y2 ++ [(⟨v5.Tag,v5.Mac,v5.Port,(IntKind.wrap .i64 (v5.Age + 1)),v5.Sc⟩ : zB)]) zB.row] kr kr kr kr kr ?_
   refine dA 25 0 ?_
   refine eA 3 25 0 ?_
   refine sC' 25 0 ⟨35,0,[sI 4 (IntKind.wrap .i64 (y1 + 1)),sC 3 (cL 5 (y2 ++ [(⟨v5.Tag,v5.Mac,v5.Port,(IntKind.wrap .i64 (v5.Age + 1)),v5.Sc⟩ : zB)]) zB.row),sC 0 (cF 5 x0 zB.row)],[]⟩ ?_
   rw [h2]
   exact jB mo4 ((IntKind.wrap .i64 (y1 + 1)),(y2 ++ [(⟨v5.Tag,v5.Mac,v5.Port,(IntKind.wrap .i64 (v5.Age + 1)),false⟩ : zB)])) H [4,3,0] []
  have H := zJ h2 H
  refine tB_ ?_
  refine rA 3 ?_
  obtain ⟨hg7,H⟩ := gs H
  refine LAt.appMU tOk (t := 25) (ty := 25) (e := 103) (x := (.tmp 19)) (y := (.tmp 21)) (d := 22) (g := none) (tI 103) zB.row y2 [v5] kr kr kr kr kr kr kr kr kr kr hg7 ?_
  refine LAt.moveU (T := lk tab) (ty := 25) (x := (.tmp 22)) (d := 3) (g := none) false [cL 5 (y2 ++ [v5]) zB.row] kr kr kr kr kr ?_
  refine dA 25 0 ?_
  refine Tr.exit ?_
  refine aJ ?_
  refine eA 3 25 0 ?_
  exact jB mo4 ((IntKind.wrap .i64 (y1 + 1)),(y2 ++ [v5])) H [4,3,0] []
 rintro y3 H
 have H : (JS n y3) = some r := H
 unfold JS at H
 refine gA 2 12 0 ?_
 exact te (fJ [(false,[cL 5 y3 zB.row])] H)
def JV (n : Nat) (y7 : (List zB)) (y8 : (List Int)) (y9 : Int) (y10 : Int) : Option ((List zB) × Src) :=
  (some (y7,(⟨y8,y9,y10⟩ : Src)))
def q4 (n : Nat) : Nat → Int → (List zB) → (List Int) → Int → Int → Option (((List zB) × (List Int) × Int × Int) ⊕ ((List zB) × Src))
  | 0,_,_,_,_,_ => none
  | mo11 + 1,y2,y3,y4,y5,y6 => (bif (decide (y2 > 0)) then ((zN n (⟨y4,y5,y6⟩ : Src) 6).bind fun r12 => (bif (r12.1 == 0) then ((zN n r12.2 3).bind fun r19 => ((Qd n r19.2).bind fun r20 => ((zN n r20.2 4).bind fun r21 => ((QK n y3 (IntKind.wrap .i64 (1 + r19.1)) r20.1 r21.1).bind fun r22 => (q4 n mo11 (IntKind.wrap .i64 (y2 - 1)) r22.1 r21.2.b r21.2.i r21.2.h))))) else (bif (r12.1 == 1) then ((QB n y3).bind fun r18 => (q4 n mo11 (IntKind.wrap .i64 (y2 - 1)) r18 r12.2.b r12.2.i r12.2.h)) else ((zN n r12.2 3).bind fun r13 => ((Qd n r13.2).bind fun r14 => ((zN n r14.2 3).bind fun r15 => ((zN n r15.2 4).bind fun r16 => ((Ys n y3 (IntKind.wrap .i64 (1 + r13.1)) (IntKind.wrap .i64 (r14.1 + r15.1)) r16.1).bind fun r17 => (q4 n mo11 (IntKind.wrap .i64 (y2 - 1)) r17 r16.2.b r16.2.i r16.2.h))))))))) else (some (Sum.inl (y3,y4,y5,y6))))
def JJ (n : Nat) (x0 : Src) : Option ((List zB) × Src) :=
  ((zN n x0 10).bind fun r1 => ((q4 n n r1.1 ([] : List zB) r1.2.b r1.2.i r1.2.h).bind fun o => match o with | .inl (y7,y8,y9,y10) => (JV n y7 y8 y9 y10) | .inr r => some r))
noncomputable abbrev zA3 (k : Nat) := Rg Tryz.f186 k
theorem zHN (n : Nat) (x0 : Src) (r : (List zB) × Src) (H : JJ n x0 = some r) : zG Tryz.prog 186 [.ptr (CV.frzRow (Src.row x0))] [.val false [.sl true 5 (r.1.map zB.row)]] [(0,(CV.frzRow (Src.row r.2)))] := by
 refine zG.of_body tOk Tryz.func186 rfl (c := (.seq (zA3 0) (.seq (zA3 1) (.seq (.seq (zA3 2) (.block 0 (.loop (.seq (.seq (zA3 3) (.cond (.tmp 9) .skip (.exit 0))) (.seq (.block 1 (.seq (zA3 5) (.block 2 (.seq (zA3 7) (.cond (.tmp 26) (zA3 8) (.seq (zA3 9) (.cond (.tmp 40) (zA3 10) (zA3 6)))))))) (zA3 4)))))) (.seq (zA3 11) .ret))))) kr (Nat.le_of_ble_eq_true kr) 1 (rs := [.tmp 2]) rfl [] .nil [(false,[.sl true 5 (r.1.map zB.row)])] [] [(0,(CV.frzRow (Src.row r.2)))] fun cx => ?_
 show Tr _ _ _ ⟨45,1,[sA 0 0 3 0],[(0,(CV.frzRow (Src.row x0)))]⟩ _
 unfold JJ at H
 refine gA 1 1 1 ?_
 refine rA 1 ?_
 refine LAt.moveU (T := lk tab) (ty := 25) (x := (.tmp 5)) (d := 3) (g := none) false [cL 5 ([] : List zB) zB.row] kr kr kr kr kr ?_
 refine dA 9 1 ?_
 refine tS ?_
 refine rA 1 ?_
 obtain ⟨r1,er1,H⟩ := bs H
 refine LAt.callL tOk [.lend,.rd] (f := 119) (av := #[.tmp 6,.const (.int .i64 10)]) (ats := #[91,3]) (d := (some 7)) (ty := 3) (g := none) kr kr kr [] (zQ n x0 10 r1 er1) kr (.inl rfl) ?_
 refine uA 1 25 1 ?_
 obtain ⟨o11,eo11,Ho11⟩ := bs H
 clear H
 refine Tr.mid (ι := (List zB) × (List Int) × Int × Int) (fun v => ⟨45,1,[sC 3 (cL 5 v.1 zB.row),sA 0 0 3 0],[(0,[cF 1 v.2.1 zk,cI v.2.2.1,cI v.2.2.2])]⟩) (fun v => JV n v.1 v.2.1 v.2.2.1 v.2.2.2 = some r) ?_ ?_
 ·refine tB ?_
  refine Tr.loop (ι := Nat × (Int × (List zB) × (List Int) × Int × Int)) (fun v => ⟨45,1,[sI 4 v.2.1,sC 3 (cL 5 v.2.2.1 zB.row),sA 0 0 3 0],[(0,[cF 1 v.2.2.2.1 zk,cI v.2.2.2.2.1,cI v.2.2.2.2.2])]⟩) (fun v => q4 n v.1 v.2.1 v.2.2.1 v.2.2.2.1 v.2.2.2.2.1 v.2.2.2.2.2 = some o11) (fun v => v.1) (n,(r1.1,([] : List zB),r1.2.b,r1.2.i,r1.2.h)) eo11 (St.sub_of [4,3,0] [0] kr) ?_
  rintro ⟨mo11,y2,y3,y4,y5,y6⟩ H
  have H : q4 n mo11 y2 y3 y4 y5 y6 = some o11 := H
  obtain _ | mo11 := mo11
  ·exact nN H
  rw [q4] at H
  refine tS ?_
  refine gA 2 537 1 ?_
  obtain ⟨h1,H⟩ | ⟨h1,H⟩ := bC H
  ·refine nA h1 ?_
   refine Tr.exit ?_
   refine aJ ?_
   obtain rfl := si H
   have H := Ho11
   dsimp only at H
   exact jA (y3,y4,y5,y6) H [3,0] [0]
  refine tA h1 ?_
  refine tK ?_
  refine tS ?_
  refine tB ?_
  refine rA 1 ?_
  obtain ⟨r12,er12,H⟩ := bs H
  refine LAt.callL tOk [.lend,.rd] (f := 119) (av := #[.tmp 12,.const (.int .i64 6)]) (ats := #[91,3]) (d := (some 13)) (ty := 3) (g := none) kr kr kr [] (zQ n (⟨y4,y5,y6⟩ : Src) 6 r12 er12) kr (.inl rfl) ?_
  refine dA 8217 1 ?_
  refine tB ?_
  refine gA 2 67117081 1 ?_
  obtain ⟨h2,H⟩ | ⟨h2,H⟩ := bC H
  ·refine nA h2 ?_
   refine gA 2 1099511627801 1 ?_
   obtain ⟨h3,H⟩ | ⟨h3,H⟩ := bC H
   ·refine nA h3 ?_
    refine Tr.at ?_
    refine lA 2 ?_
    obtain ⟨r13,er13,H⟩ := bs H
    refine LAt.callL tOk [.lend,.rd] (f := 119) (av := #[.tmp 15,.const (.int .i64 3)]) (ats := #[91,3]) (d := (some 16)) (ty := 3) (g := none) kr kr kr [] (zQ n r12.2 3 r13 er13) kr (.inl rfl) ?_
    refine lA 2 ?_
    obtain ⟨r14,er14,H⟩ := bs H
    refine LAt.callL tOk [.lend] (f := 184) (av := #[.tmp 18]) (ats := #[91]) (d := (some 19)) (ty := 3) (g := none) kr kr kr [] (zBR n r13.2 r14 er14) kr (.inl rfl) ?_
    refine lA 1 ?_
    obtain ⟨r15,er15,H⟩ := bs H
    refine LAt.callL tOk [.lend,.rd] (f := 119) (av := #[.tmp 20,.const (.int .i64 3)]) (ats := #[91,3]) (d := (some 21)) (ty := 3) (g := none) kr kr kr [] (zQ n r14.2 3 r15 er15) kr (.inl rfl) ?_
    refine lA 2 ?_
    obtain ⟨r16,er16,H⟩ := bs H
    refine LAt.callL tOk [.lend,.rd] (f := 119) (av := #[.tmp 23,.const (.int .i64 4)]) (ats := #[91,3]) (d := (some 24)) (ty := 3) (g := none) kr kr kr [] (zQ n r15.2 4 r16 er16) kr (.inl rfl) ?_
    obtain ⟨r17,er17,H⟩ := bs H
    refine vB [.rd,.rd,.rd,.rd] [.slot 3] (zE4 n y3 (IntKind.wrap .i64 (1 + r13.1)) (IntKind.wrap .i64 (r14.1 + r15.1)) r16.1 r17 er17) (.inr (zH (zL (QJ (ZW zB.row_mine _)) zh) zO)) ?_
    refine LAt.moveU (T := lk tab) (ty := 25) (x := (.tmp 25)) (d := 3) (g := none) false [cL 5 r17 zB.row] kr kr kr kr kr ?_
    refine dA 25 1 ?_
    refine eA 3 25 1 ?_
    exact jB mo11 ((IntKind.wrap .i64 (y2 - 1)),r17,r16.2.b,r16.2.i,r16.2.h) H [4,3,0] [0]
   refine tA h3 ?_
   refine Tr.at ?_
   refine lA 1 ?_
   obtain ⟨r18,er18,H⟩ := bs H
   refine vB [.rd] [.slot 3] (zEF n y3 r18 er18) (.inr (zH (zL (QJ (ZW zB.row_mine _)) zh) zO)) ?_
   refine LAt.moveU (T := lk tab) (ty := 25) (x := (.tmp 43)) (d := 3) (g := none) false [cL 5 r18 zB.row] kr kr kr kr kr ?_
   refine dA 25 1 ?_
   refine eA 3 25 1 ?_
   exact jB mo11 ((IntKind.wrap .i64 (y2 - 1)),r18,r12.2.b,r12.2.i,r12.2.h) H [4,3,0] [0]
  refine tA h2 ?_
  refine Tr.at ?_
  refine lA 2 ?_
  obtain ⟨r19,er19,H⟩ := bs H
  refine LAt.callL tOk [.lend,.rd] (f := 119) (av := #[.tmp 30,.const (.int .i64 3)]) (ats := #[91,3]) (d := (some 31)) (ty := 3) (g := none) kr kr kr [] (zQ n r12.2 3 r19 er19) kr (.inl rfl) ?_
  refine lA 2 ?_
  obtain ⟨r20,er20,H⟩ := bs H
  refine LAt.callL tOk [.lend] (f := 184) (av := #[.tmp 33]) (ats := #[91]) (d := (some 34)) (ty := 3) (g := none) kr kr kr [] (zBR n r19.2 r20 er20) kr (.inl rfl) ?_
  refine lA 1 ?_
  obtain ⟨r21,er21,H⟩ := bs H
  refine LAt.callL tOk [.lend,.rd] (f := 119) (av := #[.tmp 35,.const (.int .i64 4)]) (ats := #[91,3]) (d := (some 36)) (ty := 3) (g := none) kr kr kr [] (zQ n r20.2 4 r21 er21) kr (.inl rfl) ?_
  obtain ⟨r22,er22,H⟩ := bs H
  refine vB [.rd,.rd,.rd,.rd] [.slot 3] (zCW n y3 (IntKind.wrap .i64 (1 + r19.1)) r20.1 r21.1 r22 er22) (.inr (zH (zL (QJ (ZW zB.row_mine _)) zh) (zH (zL zR zh) zO))) ?_
  refine LAt.movT tOk (ty := 173) (t := 37) (d := 28) (g := none) [(false,[cL 5 r22.1 zB.row]),(false,[cB r22.2])] _ kr (.inl rfl) kr kr kr kr rfl ?_
  refine lA 2 ?_
  refine LAt.moveU (T := lk tab) (ty := 25) (x := (.tmp 38)) (d := 3) (g := none) false [cL 5 r22.1 zB.row] kr kr kr kr kr ?_
  refine dA 25 1 ?_
  refine eA 3 25 1 ?_
  exact jB mo11 ((IntKind.wrap .i64 (y2 - 1)),r22.1,r21.2.b,r21.2.i,r21.2.h) H [4,3,0] [0]
 rintro ⟨y7,y8,y9,y10⟩ H
 have H : (JV n y7 y8 y9 y10) = some r := H
 unfold JV at H
 refine gA 2 13 1 ?_
 refine te ?_
 obtain rfl := si H
 exact Fin.ofY _ [(false,[cL 5 y7 zB.row])] [] _ [] _ [(0,[cF 1 y8 zk,cI y9,cI y10])] kr rfl rfl rfl kr kr kr kr rfl rfl rfl
end Go.Proofs.YtajadnlejdpceaaGreat.Tw
