import Derived.Test.YtajadnlejdpceaaProg
import Derived.Test.YtajadnlejdpceaaTlRule
import Derived.Test.YtajadnlejdpceaaTlU12
import Derived.WalkKit
set_option linter.unusedVariables false
set_option linter.unusedSimpArgs false
set_option maxRecDepth 100000
set_option maxHeartbeats 1000000
namespace Go.Proofs.Ytajadnlejdpceaa.Tw
open Go Go.TL Go.Proofs
def tab : List (Nat × TI) := [(2,⟨.int .i64,1,8,[.lit (.int .i64 0)]⟩),
  (3,⟨.int .i64,1,8,[.lit (.int .i64 0)]⟩),
  (4,⟨.bool,1,1,[.lit (.bool false)]⟩),
  (5,⟨.int .u8,1,1,[.lit (.int .u8 0)]⟩),
  (6,⟨.int .u8,1,1,[.lit (.int .u8 0)]⟩),
  (7,⟨.st [(0,1,2),(1,1,3),(2,1,4),(3,1,6)],4,24,[.lit (.int .i64 0),.lit (.int .i64 0),.lit (.bool false),.lit (.int .u8 0)]⟩),
  (8,⟨.st [(0,1,2),(1,1,3),(2,1,4),(3,1,6)],4,24,[.lit (.int .i64 0),.lit (.int .i64 0),.lit (.bool false),.lit (.int .u8 0)]⟩),
  (9,⟨.str,1,16,[.lit (.string ⟨#[]⟩)]⟩),
  (33,⟨.sl 5,1,24,[.sl true 1 []]⟩),
  (35,⟨.sl 55,1,24,[.sl true 8 []]⟩),
  (36,⟨.sl 60,1,24,[.sl true 5 []]⟩),
  (37,⟨.sl 114,1,24,[.sl true 3 []]⟩),
  (38,⟨.sl 3,1,24,[.sl true 1 []]⟩),
  (40,⟨.st [(0,1,37),(1,1,38)],2,48,[.sl true 3 [],.sl true 1 []]⟩),
  (42,⟨.st [(0,1,3),(1,1,9),(2,1,35),(3,1,36),(4,2,40),(6,1,3),(7,1,3),(8,1,3),(9,1,3),(10,1,3)],11,160,[.lit (.int .i64 0),.lit (.string ⟨#[]⟩),.sl true 8 [],.sl true 5 [],.sl true 3 [],.sl true 1 [],.lit (.int .i64 0),.lit (.int .i64 0),.lit (.int .i64 0),.lit (.int .i64 0),.lit (.int .i64 0)]⟩),
  (46,⟨.st [(0,1,3),(1,1,3),(2,1,3),(3,1,3),(4,1,3)],5,40,[.lit (.int .i64 0),.lit (.int .i64 0),.lit (.int .i64 0),.lit (.int .i64 0),.lit (.int .i64 0)]⟩),
  (53,⟨.sl 42,1,24,[.sl true 11 []]⟩),
  (55,⟨.st [(0,1,4),(1,1,3),(2,1,4),(3,5,46)],8,64,[.lit (.bool false),.lit (.int .i64 0),.lit (.bool false),.lit (.int .i64 0),.lit (.int .i64 0),.lit (.int .i64 0),.lit (.int .i64 0),.lit (.int .i64 0)]⟩),
  (60,⟨.st [(0,1,3),(1,1,3),(2,1,3),(3,1,3),(4,1,4)],5,40,[.lit (.int .i64 0),.lit (.int .i64 0),.lit (.int .i64 0),.lit (.int .i64 0),.lit (.bool false)]⟩),
  (103,⟨.int .u64,1,8,[.lit (.int .u64 0)]⟩),
  (114,⟨.st [(0,1,3),(1,1,3),(2,1,3)],3,24,[.lit (.int .i64 0),.lit (.int .i64 0),.lit (.int .i64 0)]⟩),
  (139,⟨.st [(0,1,33),(1,1,3),(2,1,3)],3,40,[.sl true 1 [],.lit (.int .i64 0),.lit (.int .i64 0)]⟩),
  (142,⟨.sl 9,1,24,[.sl true 1 []]⟩)]
def tI (t : Nat) : TI := (lk tab t).getD ⟨.bool,1,1,[]⟩
theorem mixed : Try.prog.follows .mixedOrders = true := by kernel_rfl
theorem tOk : TOk Try.prog (lk tab) := zJZ (by kernel_rfl)
instance : TC Try.prog (lk tab) := ⟨tOk⟩
structure Src where
  b : (List Int)
  i : Int
  h : Int
def Src.row (v : Src) : List CV := [.sl true 1 (v.b.map zF),.lit (.int .i64 v.i),.lit (.int .i64 v.h)]
def Src.wf (v : Src) : Prop := QB zCx v.b ∧ zr v.i ∧ zr v.h ∧ True
theorem Src.enc : Enc Src [.sl 1 [.int .u8],.int .i64,.int .i64] Src.row Src.wf := fun cs h => by
  obtain ⟨c0,r0,rfl,k0,h⟩ := zW h
  obtain ⟨c1,r1,rfl,k1,h⟩ := zW h
  obtain ⟨c2,r2,rfl,k2,h⟩ := zW h
  obtain rfl := Qg h
  obtain ⟨x0,rfl,w0⟩ := Enc.sl zHM k0
  obtain ⟨x1,rfl,w1⟩ := qE k1
  obtain ⟨x2,rfl,w2⟩ := qE k2
  exact ⟨⟨x0,x1,x2⟩,rfl,⟨w0,w1,w2,trivial⟩⟩
theorem Src.row_mine (v : Src) : CV.mineRow (Src.row v) := zI (Qd (Zj zGL _)) (zI zP (zI zP (zk)))
structure zC where
  Id : Int
  Members : Int
  Bare : Int
def zC.row (v : zC) : List CV := [.lit (.int .i64 v.Id),.lit (.int .i64 v.Members),.lit (.int .i64 v.Bare)]
def zC.wf (v : zC) : Prop := zr v.Id ∧ zr v.Members ∧ zr v.Bare ∧ True
theorem zC.enc : Enc zC [.int .i64,.int .i64,.int .i64] zC.row zC.wf := fun cs h => by
  obtain ⟨c0,r0,rfl,k0,h⟩ := zW h
  obtain ⟨c1,r1,rfl,k1,h⟩ := zW h
  obtain ⟨c2,r2,rfl,k2,h⟩ := zW h
  obtain rfl := Qg h
  obtain ⟨x0,rfl,w0⟩ := qE k0
  obtain ⟨x1,rfl,w1⟩ := qE k1
  obtain ⟨x2,rfl,w2⟩ := qE k2
  exact ⟨⟨x0,x1,x2⟩,rfl,⟨w0,w1,w2,trivial⟩⟩
theorem zC.row_mine (v : zC) : CV.mineRow (zC.row v) := zI zP (zI zP (zI zP (zk)))
structure zD where
  Rows : (List zC)
  Pv : (List Int)
def zD.row (v : zD) : List CV := [.sl true 3 (v.Rows.map zC.row),.sl true 1 (v.Pv.map intRow)]
def zD.wf (v : zD) : Prop := QB zC.wf v.Rows ∧ QB zr v.Pv ∧ True
theorem zD.enc : Enc zD [.sl 3 [.int .i64,.int .i64,.int .i64],.sl 1 [.int .i64]] zD.row zD.wf := fun cs h => by
  obtain ⟨c0,r0,rfl,k0,h⟩ := zW h
  obtain ⟨c1,r1,rfl,k1,h⟩ := zW h
  obtain rfl := Qg h
  obtain ⟨x0,rfl,w0⟩ := Enc.sl zC.enc k0
  obtain ⟨x1,rfl,w1⟩ := Enc.sl zIB k1
  exact ⟨⟨x0,x1⟩,rfl,⟨w0,w1,trivial⟩⟩
theorem zD.row_mine (v : zD) : CV.mineRow (zD.row v) := zI (Qd (Zj zC.row_mine _)) (zI (Qd (Zj zD2 _)) (zk))
structure Vec where
  Root : Int
  Co : Int
  Hops : Int
  Bridge : Int
  Port : Int
def Vec.row (v : Vec) : List CV := [.lit (.int .i64 v.Root),.lit (.int .i64 v.Co),.lit (.int .i64 v.Hops),.lit (.int .i64 v.Bridge),.lit (.int .i64 v.Port)]
def Vec.wf (v : Vec) : Prop := zr v.Root ∧ zr v.Co ∧ zr v.Hops ∧ zr v.Bridge ∧ zr v.Port ∧ True
theorem Vec.enc : Enc Vec [.int .i64,.int .i64,.int .i64,.int .i64,.int .i64] Vec.row Vec.wf := fun cs h => by
  obtain ⟨c0,r0,rfl,k0,h⟩ := zW h
  obtain ⟨c1,r1,rfl,k1,h⟩ := zW h
  obtain ⟨c2,r2,rfl,k2,h⟩ := zW h
  obtain ⟨c3,r3,rfl,k3,h⟩ := zW h
  obtain ⟨c4,r4,rfl,k4,h⟩ := zW h
  obtain rfl := Qg h
  obtain ⟨x0,rfl,w0⟩ := qE k0
  obtain ⟨x1,rfl,w1⟩ := qE k1
  obtain ⟨x2,rfl,w2⟩ := qE k2
  obtain ⟨x3,rfl,w3⟩ := qE k3
  obtain ⟨x4,rfl,w4⟩ := qE k4
  exact ⟨⟨x0,x1,x2,x3,x4⟩,rfl,⟨w0,w1,w2,w3,w4,trivial⟩⟩
theorem Vec.row_mine (v : Vec) : CV.mineRow (Vec.row v) := zI zP (zI zP (zI zP (zI zP (zI zP (zk)))))
structure Pt where
  Up : Bool
  Co : Int
  Has : Bool
  Hd : Vec
def Pt.row (v : Pt) : List CV := [.lit (.bool v.Up),.lit (.int .i64 v.Co),.lit (.bool v.Has),.lit (.int .i64 v.Hd.Root),.lit (.int .i64 v.Hd.Co),.lit (.int .i64 v.Hd.Hops),.lit (.int .i64 v.Hd.Bridge),.lit (.int .i64 v.Hd.Port)]
def Pt.wf (v : Pt) : Prop := zr v.Co ∧ zr v.Hd.Root ∧ zr v.Hd.Co ∧ zr v.Hd.Hops ∧ zr v.Hd.Bridge ∧ zr v.Hd.Port ∧ True
theorem Pt.enc : Enc Pt [.bool,.int .i64,.bool,.int .i64,.int .i64,.int .i64,.int .i64,.int .i64] Pt.row Pt.wf := fun cs h => by
  obtain ⟨c0,r0,rfl,k0,h⟩ := zW h
  obtain ⟨c1,r1,rfl,k1,h⟩ := zW h
  obtain ⟨c2,r2,rfl,k2,h⟩ := zW h
  obtain ⟨c3,r3,rfl,k3,h⟩ := zW h
  obtain ⟨c4,r4,rfl,k4,h⟩ := zW h
  obtain ⟨c5,r5,rfl,k5,h⟩ := zW h
  obtain ⟨c6,r6,rfl,k6,h⟩ := zW h
  obtain ⟨c7,r7,rfl,k7,h⟩ := zW h
  obtain rfl := Qg h
  obtain ⟨x0,rfl⟩ := zBi k0
  obtain ⟨x1,rfl,w1⟩ := qE k1
  obtain ⟨x2,rfl⟩ := zBi k2
  obtain ⟨x3,rfl,w3⟩ := qE k3
  obtain ⟨x4,rfl,w4⟩ := qE k4
  obtain ⟨x5,rfl,w5⟩ := qE k5
  obtain ⟨x6,rfl,w6⟩ := qE k6
  obtain ⟨x7,rfl,w7⟩ := qE k7
  exact ⟨⟨x0,x1,x2,⟨x3,x4,x5,x6,x7⟩⟩,rfl,⟨w1,w3,w4,w5,w6,w7,trivial⟩⟩
theorem Pt.row_mine (v : Pt) : CV.mineRow (Pt.row v) := zI zP (zI zP (zI zP (zI zP (zI zP (zI zP (zI zP (zI zP (zk))))))))
structure zB where
  Tag : Int
  Mac : Int
  Port : Int
  Age : Int
  Sc : Bool
def zB.row (v : zB) : List CV := [.lit (.int .i64 v.Tag),.lit (.int .i64 v.Mac),.lit (.int .i64 v.Port),.lit (.int .i64 v.Age),.lit (.bool v.Sc)]
def zB.wf (v : zB) : Prop := zr v.Tag ∧ zr v.Mac ∧ zr v.Port ∧ zr v.Age ∧ True
theorem zB.enc : Enc zB [.int .i64,.int .i64,.int .i64,.int .i64,.bool] zB.row zB.wf := fun cs h => by
  obtain ⟨c0,r0,rfl,k0,h⟩ := zW h
  obtain ⟨c1,r1,rfl,k1,h⟩ := zW h
  obtain ⟨c2,r2,rfl,k2,h⟩ := zW h
  obtain ⟨c3,r3,rfl,k3,h⟩ := zW h
  obtain ⟨c4,r4,rfl,k4,h⟩ := zW h
  obtain rfl := Qg h
  obtain ⟨x0,rfl,w0⟩ := qE k0
  obtain ⟨x1,rfl,w1⟩ := qE k1
  obtain ⟨x2,rfl,w2⟩ := qE k2
  obtain ⟨x3,rfl,w3⟩ := qE k3
  obtain ⟨x4,rfl⟩ := zBi k4
  exact ⟨⟨x0,x1,x2,x3,x4⟩,rfl,⟨w0,w1,w2,w3,trivial⟩⟩
theorem zB.row_mine (v : zB) : CV.mineRow (zB.row v) := zI zP (zI zP (zI zP (zI zP (zI zP (zk)))))
structure zA where
  Id : Int
  Name : ByteArray
  Ps : (List Pt)
  F : (List zB)
  V : zD
  Tk : Int
  Pa : Int
  Wo : Int
  Dr : Int
  Ve : Int
def zA.row (v : zA) : List CV := [.lit (.int .i64 v.Id),.lit (.string v.Name),.sl true 8 (v.Ps.map Pt.row),.sl true 5 (v.F.map zB.row),.sl true 3 (v.V.Rows.map zC.row),.sl true 1 (v.V.Pv.map intRow),.lit (.int .i64 v.Tk),.lit (.int .i64 v.Pa),.lit (.int .i64 v.Wo),.lit (.int .i64 v.Dr),.lit (.int .i64 v.Ve)]
def zA.wf (v : zA) : Prop := zr v.Id ∧ v.Name.size ≤ maxLen ∧ QB Pt.wf v.Ps ∧ QB zB.wf v.F ∧ QB zC.wf v.V.Rows ∧ QB zr v.V.Pv ∧ zr v.Tk ∧ zr v.Pa ∧ zr v.Wo ∧ zr v.Dr ∧ zr v.Ve ∧ True
theorem zA.enc : Enc zA [.int .i64,.str,.sl 8 [.bool,.int .i64,.bool,.int .i64,.int .i64,.int .i64,.int .i64,.int .i64],.sl 5 [.int .i64,.int .i64,.int .i64,.int .i64,.bool],.sl 3 [.int .i64,.int .i64,.int .i64],.sl 1 [.int .i64],.int .i64,.int .i64,.int .i64,.int .i64,.int .i64] zA.row zA.wf := fun cs h => by
  obtain ⟨c0,r0,rfl,k0,h⟩ := zW h
  obtain ⟨c1,r1,rfl,k1,h⟩ := zW h
  obtain ⟨c2,r2,rfl,k2,h⟩ := zW h
  obtain ⟨c3,r3,rfl,k3,h⟩ := zW h
  obtain ⟨c4,r4,rfl,k4,h⟩ := zW h
  obtain ⟨c5,r5,rfl,k5,h⟩ := zW h
  obtain ⟨c6,r6,rfl,k6,h⟩ := zW h
  obtain ⟨c7,r7,rfl,k7,h⟩ := zW h
  obtain ⟨c8,r8,rfl,k8,h⟩ := zW h
  obtain ⟨c9,r9,rfl,k9,h⟩ := zW h
  obtain ⟨c10,r10,rfl,k10,h⟩ := zW h
  obtain rfl := Qg h
  obtain ⟨x0,rfl,w0⟩ := qE k0
  obtain ⟨x1,rfl,w1⟩ := zIU k1
  obtain ⟨x2,rfl,w2⟩ := Enc.sl Pt.enc k2
  obtain ⟨x3,rfl,w3⟩ := Enc.sl zB.enc k3
  obtain ⟨x4,rfl,w4⟩ := Enc.sl zC.enc k4
  obtain ⟨x5,rfl,w5⟩ := Enc.sl zIB k5
  obtain ⟨x6,rfl,w6⟩ := qE k6
  obtain ⟨x7,rfl,w7⟩ := qE k7
  obtain ⟨x8,rfl,w8⟩ := qE k8
  obtain ⟨x9,rfl,w9⟩ := qE k9
  obtain ⟨x10,rfl,w10⟩ := qE k10
  exact ⟨⟨x0,x1,x2,x3,⟨x4,x5⟩,x6,x7,x8,x9,x10⟩,rfl,⟨w0,w1,w2,w3,w4,w5,w6,w7,w8,w9,w10,trivial⟩⟩
theorem zA.row_mine (v : zA) : CV.mineRow (zA.row v) := zI zP (zI zP (zI (Qd (Zj Pt.row_mine _)) (zI (Qd (Zj zB.row_mine _)) (zI (Qd (Zj zC.row_mine _)) (zI (Qd (Zj zD2 _)) (zI zP (zI zP (zI zP (zI zP (zI zP (zk)))))))))))
def zBl (n : Nat) (x0 : (List Int)) : Option (Bool) :=
  (some (decide ((x0.length : Int) > 1048576)))
theorem zIV (n : Nat) (x0 : (List Int)) (r : Bool) (H : zBl n x0 = some r) : zK Try.prog 13 [.val false [.sl false 1 (CV.frzEs (x0.map zF))]] [.val false [.lit (.bool r)]] [] := by
 refine cW Try.func13 (fun g d => sl [g 0,g 1] .ret) [.tmp 2] fun cx => ?_
 unfold zBl at H
 refine gA 1 1 0 ?_
 refine rA 1 ?_
 refine kF x0 zF ?_
 refine uA 2 4 0 ?_
 exact te (fJ [(false,[cB (decide ((x0.length : Int) > 1048576))])] H)
def Jf (n : Nat) (x0 : (List Int)) (y3 : Int) : Option (Src) :=
  (some (⟨x0,0,y3⟩ : Src))
def Zw (n : Nat) : Nat → (List Int) → Int → Int → Option ((Int) ⊕ (Src))
  | 0,_,_,_ => none
  | mo4 + 1,x0,y1,y2 => (bif (decide (y1 < (x0.length : Int))) then (bif (decide (y1 < 4000)) then ((idx x0 y1).bind fun v5 => (Zw n mo4 x0 (IntKind.wrap .i64 (y1 + 1)) (IntKind.wrap .i64 (BitVec.ofInt (IntKind.bits .i64) (IntKind.wrap .i64 ((IntKind.wrap .i64 ((IntKind.wrap .i64 (y2 * 137)) + (IntKind.wrap .i64 v5))) + 11)) &&& BitVec.ofInt (IntKind.bits .i64) 1073741823).toNat))) else (some (Sum.inl y2))) else (some (Sum.inl y2)))
def Ya (n : Nat) (x0 : (List Int)) : Option (Src) :=
  ((Zw n n x0 0 (IntKind.wrap .i64 (762762 + (x0.length : Int)))).bind fun o => match o with | .inl y3 => (Jf n x0 y3) | .inr r => some r)
noncomputable abbrev G47 (k : Nat) := Rg Try.f47 k
theorem zE4 (n : Nat) (x0 : (List Int)) (r : Src) (H : Ya n x0 = some r) : zK Try.prog 47 [.val false [.sl false 1 (CV.frzEs (x0.map zF))]] [.ptr (CV.frzRow (Src.row r))] [] := by
 refine zK.of_body_ptr tOk Try.func47 rfl (c := (.seq (G47 0) (.seq (G47 1) (.seq (.seq (G47 2) (.block 0 (.loop (.seq (.seq (G47 3) (.cond (.tmp 15) .skip (.exit 0))) (.seq (.block 1 (G47 5)) (G47 4)))))) (.seq (G47 6) .ret))))) kr (Nat.le_of_ble_eq_true kr) 2 31 rfl (CV.frzRow (Src.row r)) fun cx => ?_
 show Tr _ _ _ ⟨32,0,[sC 0 (cF 1 x0 zF)],[]⟩ _
 unfold Ya at H
 refine gA 1 1 0 ?_
 refine rA 1 ?_
 refine kF x0 zF ?_
 refine uA 2 9 0 ?_
 refine tS ?_
 refine gA 1 25 0 ?_
 obtain ⟨o4,eo4,Ho4⟩ := bs H
 clear H
 refine Tr.mid (ι := Int) (fun v => ⟨32,0,[sI 3 v,sC 0 (cF 1 x0 zF)],[]⟩) (fun v => Jf n x0 v = some r) ?_ ?_
 ·refine tB ?_
  refine Tr.loop (ι := Nat × (Int × Int)) (fun v => ⟨32,0,[sI 4 v.2.1,sI 3 v.2.2,sC 0 (cF 1 x0 zF)],[]⟩) (fun v => Zw n v.1 x0 v.2.1 v.2.2 = some o4) (fun v => v.1) (n,(0,(IntKind.wrap .i64 (762762 + (x0.length : Int))))) eo4 (St.sub_of [4,3,0] [] kr) ?_
  rintro ⟨mo4,y1,y2⟩ H
  have H : Zw n mo4 x0 y1 y2 = some o4 := H
  obtain _ | mo4 := mo4
  ·exact nN H
  rw [Zw] at H
  refine tS ?_
  refine rA 2 ?_
  refine kF x0 zF ?_
  refine lA 2 ?_
  refine sL 4121 0 ⟨32,0,[sB 12 (decide (y1 < (x0.length : Int))),sI 4 y1,sI 3 y2,sC 0 (cF 1 x0 zF)],[]⟩ ?_
  cases h1 : (decide (y1 < (x0.length : Int)))
  ·have H := zL h1 H
   refine uA 3 32793 0 ?_
   refine nB_ ?_
   refine Tr.exit ?_
   refine aJ ?_
   obtain rfl := si H
   have H := Ho4
   dsimp only at H
   exact jA y2 H [3,0] []
  have H := zM h1 H
  refine uA 3 32793 0 ?_
  obtain ⟨h2,H⟩ | ⟨h2,H⟩ := bC H
  ·refine nA h2 ?_
   refine Tr.exit ?_
   refine aJ ?_
   obtain rfl := si H
   have H := Ho4
   dsimp only at H
   exact jA y2 H [3,0] []
  refine tA h2 ?_
  refine tK ?_
  refine tS ?_
  refine tB ?_
  refine Tr.at ?_
  refine lA 4 ?_
  obtain ⟨v5,ev5,H⟩ := bs H
  refine iA zF ev5 ?_
  refine uA 6 25 0 ?_
  refine eA 3 25 0 ?_
  exact jB mo4 ((IntKind.wrap .i64 (y1 + 1)),(IntKind.wrap .i64 (BitVec.ofInt (IntKind.bits .i64) (IntKind.wrap .i64 ((IntKind.wrap .i64 ((IntKind.wrap .i64 (y2 * 137)) + (IntKind.wrap .i64 v5))) + 11)) &&& BitVec.ofInt (IntKind.bits .i64) 1073741823).toNat)) H [4,3,0] []
 rintro y3 H
 have H : (Jf n x0 y3) = some r := H
 unfold Jf at H
 refine gA 5 4 2147483648 ?_
 refine te ?_
 obtain rfl := si H
 exact And.intro kr kr
def QD (n : Nat) (x0 : Src) : Option (Int × Src) :=
  (bif (decide ((0 : Int) ≤ 33)) then (bif (decide ((0 : Int) ≤ 47)) then (bif (decide (x0.i < (x0.b.length : Int))) then ((idx x0.b x0.i).bind fun v3 => (some ((IntKind.wrap .i64 (BitVec.ofInt (IntKind.bits .i64) (IntKind.wrap .i64 ((IntKind.wrap .i64 (BitVec.ofInt (IntKind.bits .i64) (IntKind.wrap .i64 (BitVec.ofInt (IntKind.bits .i64) (Int.fdiv (IntKind.wrap .i64 ((IntKind.wrap .i64 (x0.h * 6364136223846793005)) + 1442695040888963407)) (2 ^ min ((33 : Int)).toNat (IntKind.bits .i64))) ^^^ BitVec.ofInt (IntKind.bits .i64) (Int.fdiv (IntKind.wrap .i64 ((IntKind.wrap .i64 (x0.h * 6364136223846793005)) + 1442695040888963407)) (2 ^ min ((47 : Int)).toNat (IntKind.bits .i64)))).toNat) &&& BitVec.ofInt (IntKind.bits .i64) 255).toNat) + (IntKind.wrap .i64 v3))) &&& BitVec.ofInt (IntKind.bits .i64) 255).toNat),(⟨x0.b,(IntKind.wrap .i64 (x0.i + 1)),(IntKind.wrap .i64 ((IntKind.wrap .i64 (x0.h * 6364136223846793005)) + 1442695040888963407))⟩ : Src)))) else (some ((IntKind.wrap .i64 (BitVec.ofInt (IntKind.bits .i64) (IntKind.wrap .i64 (BitVec.ofInt (IntKind.bits .i64) (Int.fdiv (IntKind.wrap .i64 ((IntKind.wrap .i64 (x0.h * 6364136223846793005)) + 1442695040888963407)) (2 ^ min ((33 : Int)).toNat (IntKind.bits .i64))) ^^^ BitVec.ofInt (IntKind.bits .i64) (Int.fdiv (IntKind.wrap .i64 ((IntKind.wrap .i64 (x0.h * 6364136223846793005)) + 1442695040888963407)) (2 ^ min ((47 : Int)).toNat (IntKind.bits .i64)))).toNat) &&& BitVec.ofInt (IntKind.bits .i64) 255).toNat),(⟨x0.b,x0.i,(IntKind.wrap .i64 ((IntKind.wrap .i64 (x0.h * 6364136223846793005)) + 1442695040888963407))⟩ : Src)))) else none) else none)
def zJB : Tab := ⟨13,[0,1,2,4,8,0,32,64,128,256,528,1024,4095],[0,1,2,4,8,0,32,64,128,256,528,1024,2048],[0,1,3,7,15,0,32,96,224,480,1023,2047,4095]⟩
noncomputable abbrev zHb (k : Nat) := Rg Try.f102 k
noncomputable abbrev zIQ (k : Nat) := Rd Try.f102 k
theorem zAc : qF (rg Try.f102 2) zJB = true := kr
def zJC : Tab := ⟨15,[0,0,2,4,8,0,32,64,128,272,512,1024,2049,4096,16383],[0,0,2,4,8,0,32,64,128,272,512,1024,2049,4096,8193],[0,0,2,6,14,0,32,96,224,510,1022,2046,4095,8191,16383]⟩
theorem zEU : qF (rg Try.f102 4) zJC = true := kr
theorem zAa (n : Nat) (x0 : Src) (r : Int × Src) (H : QD n x0 = some r) : zK Try.prog 102 [.ptr (CV.frzRow (Src.row x0))] [.val false [.lit (.int .i64 r.1)]] [(0,(CV.frzRow (Src.row r.2)))] := by
 refine zK.of_body tOk Try.func102 rfl (c := (.seq (zHb 0) (.seq (zHb 1) (.seq (zIQ 2) (.seq (.seq (zIQ 3) (.cond (.tmp 34) (.seq (zIQ 4) (zHb 5)) .skip)) (.seq (zHb 6) .ret)))))) kr (Nat.le_of_ble_eq_true kr) 1 (rs := [.tmp 2]) rfl [] .nil [(false,[.lit (.int .i64 r.1)])] [] [(0,(CV.frzRow (Src.row r.2)))] fun cx => ?_
 show Tr _ _ _ ⟨58,1,[sA 0 0 3 0],[(0,(CV.frzRow (Src.row x0)))]⟩ _
 unfold QD at H
 refine gA 1 1 1 ?_
 refine gA 10 1 1 ?_
 obtain ⟨hg1,H⟩ := gs H
 obtain ⟨hg2,H⟩ := gs H
 refine Tr.draws mixed 13 kr ⟨58,1,[sI 3 (IntKind.wrap .i64 (BitVec.ofInt (IntKind.bits .i64) (IntKind.wrap .i64 (BitVec.ofInt (IntKind.bits .i64) (Int.fdiv (IntKind.wrap .i64 ((IntKind.wrap .i64 (x0.h * 0x5851f42d4c957f2d)) + 0x14057b7ef767814f)) (2 ^ min ((33 : Int)).toNat (IntKind.bits .i64))) ^^^ BitVec.ofInt (IntKind.bits .i64) (Int.fdiv (IntKind.wrap .i64 ((IntKind.wrap .i64 (x0.h * 0x5851f42d4c957f2d)) + 0x14057b7ef767814f)) (2 ^ min ((47 : Int)).toNat (IntKind.bits .i64)))).toNat) &&& BitVec.ofInt (IntKind.bits .i64) 255).toNat),sA 0 0 3 0],[(0,[cF 1 x0.b zF,cI x0.i,cI (IntKind.wrap .i64 ((IntKind.wrap .i64 (x0.h * 0x5851f42d4c957f2d)) + 0x14057b7ef767814f))])]⟩ (fun cx => ?_) ?_
 ·refine mA zAc [(0,[]),(1,[]),(2,[]),(3,[4]),(5,[]),(6,[]),(7,[]),(8,[9])] 5 [⟨[9],3,20,21⟩,⟨[4],3,15,16⟩] fun cx => ?_
  refine mB2 tOk zAc 4 9 kr (And.intro kr ?_) (And.intro kr ?_)
  ·refine LAt.binC tOk (op := .shr) (t := 3) (ty := 103) (ty' := 3) (x := (.tmp 16)) (y := (.const (.int .u64 33))) (d := 17) (g := none) (.int .i64 (IntKind.wrap .i64 ((IntKind.wrap .i64 (x0.h * 0x5851f42d4c957f2d)) + 0x14057b7ef767814f))) (.int .u64 33) (.int .i64 (Int.fdiv (IntKind.wrap .i64 ((IntKind.wrap .i64 (x0.h * 0x5851f42d4c957f2d)) + 0x14057b7ef767814f)) (2 ^ min ((33 : Int)).toNat (IntKind.bits .i64)))) _ kr kr kr kr kr (φ := (0 : Int) ≤ 33) kr (of_decide_eq_true hg1) rfl ?_
   refine fA ?_
   refine mC zAc 9 ?_
   refine LAt.binC tOk (op := .shr) (t := 3) (ty := 103) (ty' := 3) (x := (.tmp 21)) (y := (.const (.int .u64 47))) (d := 22) (g := none) (.int .i64 (IntKind.wrap .i64 ((IntKind.wrap .i64 (x0.h * 0x5851f42d4c957f2d)) + 0x14057b7ef767814f))) (.int .u64 47) (.int .i64 (Int.fdiv (IntKind.wrap .i64 ((IntKind.wrap .i64 (x0.h * 0x5851f42d4c957f2d)) + 0x14057b7ef767814f)) (2 ^ min ((47 : Int)).toNat (IntKind.bits .i64)))) _ kr kr kr kr kr (φ := (0 : Int) ≤ 47) kr (of_decide_eq_true hg2) rfl ?_
   refine fA ?_
   refine mA zAc [(10,[]),(11,[]),(12,[])] 0 [⟨[9],3,20,21⟩,⟨[4],3,15,16⟩] fun cx => ?_
   exact mE zAc [3,0] [0]
  ·refine LAt.binC tOk (op := .shr) (t := 3) (ty := 103) (ty' := 3) (x := (.tmp 21)) (y := (.const (.int .u64 47))) (d := 22) (g := none) (.int .i64 (IntKind.wrap .i64 ((IntKind.wrap .i64 (x0.h * 0x5851f42d4c957f2d)) + 0x14057b7ef767814f))) (.int .u64 47) (.int .i64 (Int.fdiv (IntKind.wrap .i64 ((IntKind.wrap .i64 (x0.h * 0x5851f42d4c957f2d)) + 0x14057b7ef767814f)) (2 ^ min ((47 : Int)).toNat (IntKind.bits .i64)))) _ kr kr kr kr kr (φ := (0 : Int) ≤ 47) kr (of_decide_eq_true hg2) rfl ?_
   refine fA ?_
   refine mC zAc 4 ?_
   refine LAt.binC tOk (op := .shr) (t := 3) (ty := 103) (ty' := 3) (x := (.tmp 16)) (y := (.const (.int .u64 33))) (d := 17) (g := none) (.int .i64 (IntKind.wrap .i64 ((IntKind.wrap .i64 (x0.h * 0x5851f42d4c957f2d)) + 0x14057b7ef767814f))) (.int .u64 33) (.int .i64 (Int.fdiv (IntKind.wrap .i64 ((IntKind.wrap .i64 (x0.h * 0x5851f42d4c957f2d)) + 0x14057b7ef767814f)) (2 ^ min ((33 : Int)).toNat (IntKind.bits .i64)))) _ kr kr kr kr kr (φ := (0 : Int) ≤ 33) kr (of_decide_eq_true hg1) rfl ?_
   refine fA ?_
   refine mA zAc [(10,[]),(11,[]),(12,[])] 0 [⟨[9],3,20,21⟩,⟨[4],3,15,16⟩] fun cx => ?_
   exact mE zAc [3,0] [0]
 refine tS ?_
 refine Tr.draws mixed 10 kr ⟨58,1,[sB 34 (decide (x0.i < (x0.b.length : Int))),sI 3 (IntKind.wrap .i64 (BitVec.ofInt (IntKind.bits .i64) (IntKind.wrap .i64 (BitVec.ofInt (IntKind.bits .i64) (Int.fdiv (IntKind.wrap .i64 ((IntKind.wrap .i64 (x0.h * 0x5851f42d4c957f2d)) + 0x14057b7ef767814f)) (2 ^ min ((33 : Int)).toNat (IntKind.bits .i64))) ^^^ BitVec.ofInt (IntKind.bits .i64) (Int.fdiv (IntKind.wrap .i64 ((IntKind.wrap .i64 (x0.h * 0x5851f42d4c957f2d)) + 0x14057b7ef767814f)) (2 ^ min ((47 : Int)).toNat (IntKind.bits .i64)))).toNat) &&& BitVec.ofInt (IntKind.bits .i64) 255).toNat),sA 0 0 3 0],[(0,[cF 1 x0.b zF,cI x0.i,cI (IntKind.wrap .i64 ((IntKind.wrap .i64 (x0.h * 0x5851f42d4c957f2d)) + 0x14057b7ef767814f))])]⟩ (fun cx => ?_) ?_
 ·refine aA [(0,[]),(1,[]),(2,[]),(3,[]),(4,[]),(5,[]),(6,[]),(7,[])] 2 [⟨[],33,31,32⟩,⟨[],3,27,28⟩] fun cx => ?_
  refine aL tOk 8 33 3 5 32 33 none ⟨(.box 0),[(0,0)],0,false,1,(CV.frzEs (x0.b.map zF))⟩ (x0.b).length _ kr kr kr kr kr kr kr (zHO _ _) rfl (fun cx => ?_)
  refine aA [(9,[])] 0 [⟨[],33,31,32⟩,⟨[],3,27,28⟩] fun cx => ?_
  exact eE [34,3,0] [0]
 refine sT ⟨58,1,[sB 34 (decide (x0.i < (x0.b.length : Int))),sI 3 (IntKind.wrap .i64 (BitVec.ofInt (IntKind.bits .i64) (IntKind.wrap .i64 (BitVec.ofInt (IntKind.bits .i64) (Int.fdiv (IntKind.wrap .i64 ((IntKind.wrap .i64 (x0.h * 0x5851f42d4c957f2d)) + 0x14057b7ef767814f)) (2 ^ min ((33 : Int)).toNat (IntKind.bits .i64))) ^^^ BitVec.ofInt (IntKind.bits .i64) (Int.fdiv (IntKind.wrap .i64 ((IntKind.wrap .i64 (x0.h * 0x5851f42d4c957f2d)) + 0x14057b7ef767814f)) (2 ^ min ((47 : Int)).toNat (IntKind.bits .i64)))).toNat) &&& BitVec.ofInt (IntKind.bits .i64) 255).toNat),sA 0 0 3 0],[(0,[cF 1 x0.b zF,cI x0.i,cI (IntKind.wrap .i64 ((IntKind.wrap .i64 (x0.h * 0x5851f42d4c957f2d)) + 0x14057b7ef767814f))])]⟩ ?_
 cases h1 : (decide (x0.i < (x0.b.length : Int)))
 ·have H := zL h1 H
  refine nB_ ?_
  refine tK ?_
  refine gA 2 5 1 ?_
  refine te ?_
  obtain rfl := si H
  exact Fin.ofY _ [(false,[cI (IntKind.wrap .i64 (BitVec.ofInt (IntKind.bits .i64) (IntKind.wrap .i64 (BitVec.ofInt (IntKind.bits .i64) (Int.fdiv (IntKind.wrap .i64 ((IntKind.wrap .i64 (x0.h * 0x5851f42d4c957f2d)) + 0x14057b7ef767814f)) (2 ^ min ((33 : Int)).toNat (IntKind.bits .i64))) ^^^ BitVec.ofInt (IntKind.bits .i64) (Int.fdiv (IntKind.wrap .i64 ((IntKind.wrap .i64 (x0.h * 0x5851f42d4c957f2d)) + 0x14057b7ef767814f)) (2 ^ min ((47 : Int)).toNat (IntKind.bits .i64)))).toNat) &&& BitVec.ofInt (IntKind.bits .i64) 255).toNat)])] [] _ [] _ [(0,[cF 1 x0.b zF,cI x0.i,cI (IntKind.wrap .i64 ((IntKind.wrap .i64 (x0.h * 0x5851f42d4c957f2d)) + 0x14057b7ef767814f))])] kr rfl rfl rfl kr kr kr kr rfl rfl rfl
 have H := zM h1 H
 refine tB_ ?_
 obtain ⟨v3,ev3,H⟩ := bs H
 refine Tr.draws mixed 15 kr ⟨58,1,[sI 3 (IntKind.wrap .i64 (BitVec.ofInt (IntKind.bits .i64) (IntKind.wrap .i64 ((IntKind.wrap .i64 (BitVec.ofInt (IntKind.bits .i64) (IntKind.wrap .i64 (BitVec.ofInt (IntKind.bits .i64) (Int.fdiv (IntKind.wrap .i64 ((IntKind.wrap .i64 (x0.h * 0x5851f42d4c957f2d)) + 0x14057b7ef767814f)) (2 ^ min ((33 : Int)).toNat (IntKind.bits .i64))) ^^^ BitVec.ofInt (IntKind.bits .i64) (Int.fdiv (IntKind.wrap .i64 ((IntKind.wrap .i64 (x0.h * 0x5851f42d4c957f2d)) + 0x14057b7ef767814f)) (2 ^ min ((47 : Int)).toNat (IntKind.bits .i64)))).toNat) &&& BitVec.ofInt (IntKind.bits .i64) 255).toNat) + (IntKind.wrap .i64 v3))) &&& BitVec.ofInt (IntKind.bits .i64) 255).toNat),sA 0 0 3 0],[(0,[cF 1 x0.b zF,cI x0.i,cI (IntKind.wrap .i64 ((IntKind.wrap .i64 (x0.h * 0x5851f42d4c957f2d)) + 0x14057b7ef767814f))])]⟩ (fun cx => ?_) ?_
 ·refine mA zEU [(0,[]),(1,[]),(2,[]),(3,[]),(4,[]),(5,[]),(6,[]),(7,[]),(8,[])] 6 [⟨[],3,42,43⟩,⟨[],33,38,39⟩] fun cx => ?_
  refine iN zEU 9 zF ev3 fun cx => ?_
  refine mA zEU [(10,[]),(11,[]),(12,[]),(13,[]),(14,[])] 0 [⟨[],3,42,43⟩,⟨[],33,38,39⟩] fun cx => ?_
  exact mE zEU [3,0] [0]
 refine eA 9 9 1 ?_
 refine gA 2 5 1 ?_
 refine te ?_
 obtain rfl := si H
 exact Fin.ofY _ [(false,[cI (IntKind.wrap .i64 (BitVec.ofInt (IntKind.bits .i64) (IntKind.wrap .i64 ((IntKind.wrap .i64 (BitVec.ofInt (IntKind.bits .i64) (IntKind.wrap .i64 (BitVec.ofInt (IntKind.bits .i64) (Int.fdiv (IntKind.wrap .i64 ((IntKind.wrap .i64 (x0.h * 0x5851f42d4c957f2d)) + 0x14057b7ef767814f)) (2 ^ min ((33 : Int)).toNat (IntKind.bits .i64))) ^^^ BitVec.ofInt (IntKind.bits .i64) (Int.fdiv (IntKind.wrap .i64 ((IntKind.wrap .i64 (x0.h * 0x5851f42d4c957f2d)) + 0x14057b7ef767814f)) (2 ^ min ((47 : Int)).toNat (IntKind.bits .i64)))).toNat) &&& BitVec.ofInt (IntKind.bits .i64) 255).toNat) + (IntKind.wrap .i64 v3))) &&& BitVec.ofInt (IntKind.bits .i64) 255).toNat)])] [] _ [] _ [(0,[cF 1 x0.b zF,cI (IntKind.wrap .i64 (x0.i + 1)),cI (IntKind.wrap .i64 ((IntKind.wrap .i64 (x0.h * 0x5851f42d4c957f2d)) + 0x14057b7ef767814f))])] kr rfl rfl rfl kr kr kr kr rfl rfl rfl
def zJ (n : Nat) (x0 : Src) (x1 : Int) : Option (Int × Src) :=
  (bif (decide (x1 ≤ 0)) then (some (0,x0)) else (bif (decide (x1 ≤ 256)) then ((QD n x0).bind fun r5 => (bif (decide ((x1 : Int) ≠ 0)) then (some ((Int.tmod r5.1 x1),r5.2)) else none)) else ((QD n x0).bind fun r1 => ((QD n r1.2).bind fun r2 => ((QD n r2.2).bind fun r3 => (bif (decide ((x1 : Int) ≠ 0)) then (some ((Int.tmod (IntKind.wrap .i64 ((IntKind.wrap .i64 ((IntKind.wrap .i64 (r1.1 * 65536)) + (IntKind.wrap .i64 (r2.1 * 256)))) + r3.1)) x1),r3.2)) else none))))))
noncomputable abbrev G49 (k : Nat) := Rg Try.f49 k
theorem zO (n : Nat) (x0 : Src) (x1 : Int) (r : Int × Src) (H : zJ n x0 x1 = some r) : zK Try.prog 49 [.ptr (CV.frzRow (Src.row x0)),.val false [.lit (.int .i64 x1)]] [.val false [.lit (.int .i64 r.1)]] [(0,(CV.frzRow (Src.row r.2)))] := by
 refine zK.of_body tOk Try.func49 rfl (c := (.seq (G49 0) (.seq (.seq (G49 1) (.cond (.tmp 9) (.seq (G49 2) .ret) .skip)) (.seq (.seq (G49 3) (.cond (.tmp 11) (.seq (G49 4) .ret) .skip)) (.seq (G49 5) (.seq (G49 6) (.seq (G49 7) (.seq (G49 8) .ret)))))))) kr (Nat.le_of_ble_eq_true kr) 1 (rs := [.tmp 4]) rfl [] .nil [(false,[.lit (.int .i64 r.1)])] [] [(0,(CV.frzRow (Src.row r.2)))] fun cx => ?_
 show Tr _ _ _ ⟨31,1,[sA 0 0 3 0,sI 1 x1],[(0,(CV.frzRow (Src.row x0)))]⟩ _
 unfold zJ at H
 refine gA 1 3 1 ?_
 refine tS ?_
 refine gA 2 515 1 ?_
 obtain ⟨h1,H⟩ | ⟨h1,H⟩ := bC H
 ·refine nA h1 ?_
  refine tK ?_
  refine tS ?_
  refine gA 2 2051 1 ?_
  obtain ⟨h2,H⟩ | ⟨h2,H⟩ := bC H
  ·refine nA h2 ?_
   refine tK ?_
   refine rA 1 ?_
   obtain ⟨r1,er1,H⟩ := bs H
   refine LAt.callL tOk [.lend] (f := 102) (av := #[.tmp 16]) (ats := #[92]) (d := (some 17)) (ty := 3) (g := none) kr kr kr [] (zAa n x0 r1 er1) kr (.inl rfl) ?_
   refine uA 1 35 1 ?_
   refine rA 1 ?_
   obtain ⟨r2,er2,H⟩ := bs H
   refine LAt.callL tOk [.lend] (f := 102) (av := #[.tmp 18]) (ats := #[92]) (d := (some 19)) (ty := 3) (g := none) kr kr kr [] (zAa n r1.2 r2 er2) kr (.inl rfl) ?_
   refine uA 1 99 1 ?_
   refine rA 1 ?_
   obtain ⟨r3,er3,H⟩ := bs H
   refine LAt.callL tOk [.lend] (f := 102) (av := #[.tmp 20]) (ats := #[92]) (d := (some 21)) (ty := 3) (g := none) kr kr kr [] (zAa n r2.2 r3 er3) kr (.inl rfl) ?_
   refine uA 1 227 1 ?_
   refine rA 8 ?_
   obtain ⟨hg4,H⟩ := gs H
   refine LAt.binC tOk (op := .rem) (t := 3) (ty := 3) (ty' := 3) (x := (.tmp 28)) (y := (.tmp 29)) (d := 30) (g := none) (.int .i64 (IntKind.wrap .i64 ((IntKind.wrap .i64 ((IntKind.wrap .i64 (r1.1 * 65536)) + (IntKind.wrap .i64 (r2.1 * 256)))) + r3.1))) (.int .i64 x1) (.int .i64 (Int.tmod (IntKind.wrap .i64 ((IntKind.wrap .i64 ((IntKind.wrap .i64 (r1.1 * 65536)) + (IntKind.wrap .i64 (r2.1 * 256)))) + r3.1)) x1)) _ kr kr kr kr kr (φ := (IntKind.i64 = IntKind.i64 ∧ (x1 : Int) ≠ 0)) kr (⟨rfl,of_decide_eq_true hg4⟩) rfl ?_
   refine uA 1 17 1 ?_
   refine te ?_
   obtain rfl := si H
   exact Fin.ofY _ [(false,[cI (Int.tmod (IntKind.wrap .i64 ((IntKind.wrap .i64 ((IntKind.wrap .i64 (r1.1 * 65536)) + (IntKind.wrap .i64 (r2.1 * 256)))) + r3.1)) x1)])] [] _ [] _ [(0,(CV.frzRow (Src.row r3.2)))] kr rfl rfl rfl kr kr kr kr rfl rfl rfl
  refine tA h2 ?_
  refine rA 1 ?_
  obtain ⟨r5,er5,H⟩ := bs H
  refine LAt.callL tOk [.lend] (f := 102) (av := #[.tmp 12]) (ats := #[92]) (d := (some 13)) (ty := 3) (g := none) kr kr kr [] (zAa n x0 r5 er5) kr (.inl rfl) ?_
  refine lA 1 ?_
  obtain ⟨hg6,H⟩ := gs H
  refine LAt.binC tOk (op := .rem) (t := 3) (ty := 3) (ty' := 3) (x := (.tmp 13)) (y := (.tmp 14)) (d := 15) (g := none) (.int .i64 r5.1) (.int .i64 x1) (.int .i64 (Int.tmod r5.1 x1)) _ kr kr kr kr kr (φ := (IntKind.i64 = IntKind.i64 ∧ (x1 : Int) ≠ 0)) kr (⟨rfl,of_decide_eq_true hg6⟩) rfl ?_
  refine uA 1 17 1 ?_
  refine te ?_
  obtain rfl := si H
  exact Fin.ofY _ [(false,[cI (Int.tmod r5.1 x1)])] [] _ [] _ [(0,(CV.frzRow (Src.row r5.2)))] kr rfl rfl rfl kr kr kr kr rfl rfl rfl
 refine tA h1 ?_
 refine gA 1 17 1 ?_
 refine te ?_
 obtain rfl := si H
 exact Fin.ofY _ [(false,[cI 0])] [] _ [] _ [(0,(CV.frzRow (Src.row x0)))] kr rfl rfl rfl kr kr kr kr rfl rfl rfl
def zX (n : Nat) (x0 : Int) (x1 : Int) (x2 : Int) : Option (Bool) :=
  (bif (decide (x0 ≥ x1)) then (some (decide (x0 ≤ x2))) else (some false))
theorem qI (n : Nat) (x0 : Int) (x1 : Int) (x2 : Int) (r : Bool) (H : zX n x0 x1 x2 = some r) : zK Try.prog 41 [.val false [.lit (.int .i64 x0)],.val false [.lit (.int .i64 x1)],.val false [.lit (.int .i64 x2)]] [.val false [.lit (.bool r)]] [] := by
 refine cW Try.func41 (fun g d => sl [g 0,g 1] .ret) [.tmp 6] fun cx => ?_
 unfold zX at H
 refine gA 1 7 0 ?_
 refine rA 4 ?_
 refine sL 1029 0 ⟨15,0,[sB 10 (decide (x0 ≥ x1)),sI 0 x0,sI 2 x2],[]⟩ ?_
 cases h1 : (decide (x0 ≥ x1))
 ·have H := zL h1 H
  refine uA 5 64 0 ?_
  exact te (fF H)
 have H := zM h1 H
 refine uA 5 64 0 ?_
 exact te (fJ [(false,[cB (decide (x0 ≤ x2))])] H)
def Qw (n : Nat) (x0 : Int) (y5 : (List Int)) : Option (zD) :=
  (some (⟨[(⟨1,(IntKind.wrap .i64 ((IntKind.wrap .i64 (1 * 2 ^ min (((IntKind.wrap .u64 x0) : Int)).toNat (IntKind.bits .i64))) - 1)),(IntKind.wrap .i64 ((IntKind.wrap .i64 (1 * 2 ^ min (((IntKind.wrap .u64 x0) : Int)).toNat (IntKind.bits .i64))) - 1))⟩ : zC)],y5⟩ : zD))
def ZQ (n : Nat) : Nat → Int → Int → (List Int) → Option (((List Int)) ⊕ (zD))
  | 0,_,_,_ => none
  | mo6 + 1,x0,y3,y4 => (bif (decide (y3 < x0)) then (bif (decide (y4.length + [1].length ≤ 268435456)) then (ZQ n mo6 x0 (IntKind.wrap .i64 (y3 + 1)) (y4 ++ [1])) else none) else (some (Sum.inl y4)))
def QM (n : Nat) (x0 : Int) : Option (zD) :=
  ((zX n x0 1 6).bind fun r1 => (bif (!r1) then (some (⟨([] : List zC),([] : List Int)⟩ : zD)) else (bif (decide ((0 : Int) ≤ (IntKind.wrap .u64 x0))) then ((ZQ n n x0 0 ([] : List Int)).bind fun o => match o with | .inl y5 => (Qw n x0 y5) | .inr r => some r) else none)))
theorem zDP (n : Nat) (x0 : Int) (r : zD) (H : QM n x0 = some r) : zK Try.prog 148 [.val false [.lit (.int .i64 x0)]] [.val true (zD.row r)] [] := by
 refine cW Try.func148 (fun g d => sl [g 0,sl [g 1] (cn 8 (sl [g 2] .ret) .skip),g 3,g 4,sl [g 5] (.block 0 (.loop (sl [sl [g 6] (cn 21 .skip (.exit 0)),.block 1 (g 8)] (g 7)))),g 9] .ret) [.cell 2 40] fun cx => ?_
 unfold QM at H
 refine gA 1 5 4 ?_
 refine tS ?_
 refine rA 1 ?_
 obtain ⟨r1,er1,H⟩ := bs H
 refine vA [.rd,.rd,.rd] (qI n x0 1 6 r1 er1) ?_
 refine uA 1 261 4 ?_
 obtain ⟨h1,H⟩ | ⟨h1,H⟩ := bC H
 ·refine nA h1 ?_
  refine tK ?_
  refine rA 2 ?_
  obtain ⟨hg2,H⟩ := gs H
  refine LAt.binC tOk (op := .shl) (t := 3) (ty := 103) (ty' := 3) (x := (.const (.int .i64 1))) (y := (.tmp 11)) (d := 12) (g := none) (.int .i64 1) (.int .u64 (IntKind.wrap .u64 x0)) (.int .i64 (IntKind.wrap .i64 (1 * 2 ^ min (((IntKind.wrap .u64 x0) : Int)).toNat (IntKind.bits .i64)))) _ kr kr kr kr kr (φ := (0 : Int) ≤ (IntKind.wrap .u64 x0)) kr (of_decide_eq_true hg2) rfl ?_
  refine uA 2 13 4 ?_
  refine gA 7 21 20 ?_
  refine tS ?_
  refine gA 1 53 20 ?_
  obtain ⟨o6,eo6,Ho6⟩ := bs H
  clear H
  refine Tr.mid (ι := (List Int)) (fun v => ⟨30,0,[sA 4 4 2 0,sA 2 2 2 0],[(4,[cL 3 [(⟨1,(IntKind.wrap .i64 ((IntKind.wrap .i64 (1 * 2 ^ min (((IntKind.wrap .u64 x0) : Int)).toNat (IntKind.bits .i64))) - 1)),(IntKind.wrap .i64 ((IntKind.wrap .i64 (1 * 2 ^ min (((IntKind.wrap .u64 x0) : Int)).toNat (IntKind.bits .i64))) - 1))⟩ : zC)] zC.row,cL 1 v intRow]),(2,[cL 3 ([] : List zC) zC.row,cL 1 ([] : List Int) intRow])]⟩) (fun v => Qw n x0 v = some r) ?_ ?_
  ·refine tB ?_
   refine Tr.loop (ι := Nat × (Int × (List Int))) (fun v => ⟨30,0,[sI 5 v.2.1,sA 4 4 2 0,sA 2 2 2 0,sI 0 x0],[(4,[cL 3 [(⟨1,(IntKind.wrap .i64 ((IntKind.wrap .i64 (1 * 2 ^ min (((IntKind.wrap .u64 x0) : Int)).toNat (IntKind.bits .i64))) - 1)),(IntKind.wrap .i64 ((IntKind.wrap .i64 (1 * 2 ^ min (((IntKind.wrap .u64 x0) : Int)).toNat (IntKind.bits .i64))) - 1))⟩ : zC)] zC.row,cL 1 v.2.2 intRow]),(2,[cL 3 ([] : List zC) zC.row,cL 1 ([] : List Int) intRow])]⟩) (fun v => ZQ n v.1 x0 v.2.1 v.2.2 = some o6) (fun v => v.1) (n,(0,([] : List Int))) eo6 (St.sub_of [5,4,2,0] [4,2] kr) ?_
   rintro ⟨mo6,y3,y4⟩ H
   have H : ZQ n mo6 x0 y3 y4 = some o6 := H
   obtain _ | mo6 := mo6
   ·exact nN H
   rw [ZQ] at H
   refine tS ?_
   refine gA 3 2097205 20 ?_
   obtain ⟨h2,H⟩ | ⟨h2,H⟩ := bC H
   ·refine nA h2 ?_
    refine Tr.exit ?_
    refine aJ ?_
    obtain rfl := si H
    have H := Ho6
    dsimp only at H
    exact jA y4 H [4,2] [4,2]
   refine tA h2 ?_
   refine tK ?_
   refine tS ?_
   refine tB ?_
   refine Tr.at ?_
   refine lA 3 ?_
   obtain ⟨hg7,H⟩ := gs H
   refine LAt.appMU tOk (t := 38) (ty := 38) (e := 3) (x := (.tmp 25)) (y := (.tmp 26)) (d := 27) (g := none) (tI 3) intRow y4 [1] kr kr kr kr kr kr kr kr kr kr hg7 ?_
   refine uA 2 53 20 ?_
   refine eA 3 53 20 ?_
   exact jB mo6 ((IntKind.wrap .i64 (y3 + 1)),(y4 ++ [1])) H [5,4,2,0] [4,2]
  rintro y5 H
  have H : (Qw n x0 y5) = some r := H
  unfold Qw at H
  refine gA 2 4 4 ?_
  exact te (fJ [(true,[cL 3 [(⟨1,(IntKind.wrap .i64 ((IntKind.wrap .i64 (1 * 2 ^ min (((IntKind.wrap .u64 x0) : Int)).toNat (IntKind.bits .i64))) - 1)),(IntKind.wrap .i64 ((IntKind.wrap .i64 (1 * 2 ^ min (((IntKind.wrap .u64 x0) : Int)).toNat (IntKind.bits .i64))) - 1))⟩ : zC)] zC.row,cL 1 y5 intRow])] H)
 refine tA h1 ?_
 refine gA 2 4 4 ?_
 exact te (fJ [(true,[cL 3 ([] : List zC) zC.row,cL 1 ([] : List Int) intRow])] H)
def Qz (n : Nat) (r3 : zD) (x0 : Int) (y6 : (List Pt)) : Option (zA) :=
  (some (⟨x0,(⟨#[]⟩ : ByteArray),y6,([] : List zB),r3,0,0,0,0,0⟩ : zA))
def QQ (n : Nat) : Nat → Int → Int → (List Pt) → Option (((List Pt)) ⊕ (zA))
  | 0,_,_,_ => none
  | mo7 + 1,x1,y4,y5 => (bif (decide (y4 < x1)) then (bif (decide (y5.length + [(⟨false,1,false,(⟨0,0,0,0,0⟩ : Vec)⟩ : Pt)].length ≤ 268435456)) then (QQ n mo7 x1 (IntKind.wrap .i64 (y4 + 1)) (y5 ++ [(⟨false,1,false,(⟨0,0,0,0,0⟩ : Vec)⟩ : Pt)])) else none) else (some (Sum.inl y5)))
def QH (n : Nat) (x0 : Int) (x1 : Int) : Option (zA) :=
  ((zX n x0 1 99).bind fun r1 => (bif (!r1) then (some (⟨0,(⟨#[]⟩ : ByteArray),([] : List Pt),([] : List zB),(⟨([] : List zC),([] : List Int)⟩ : zD),0,0,0,0,0⟩ : zA)) else ((zX n x1 1 6).bind fun r2 => (bif (!r2) then (some (⟨0,(⟨#[]⟩ : ByteArray),([] : List Pt),([] : List zB),(⟨([] : List zC),([] : List Int)⟩ : zD),0,0,0,0,0⟩ : zA)) else ((QM n x1).bind fun r3 => ((QQ n n x1 0 ([] : List Pt)).bind fun o => match o with | .inl y6 => (Qz n r3 x0 y6) | .inr r => some r))))))
theorem zFV (n : Nat) (x0 : Int) (x1 : Int) (r : zA) (H : QH n x0 x1 = some r) : zK Try.prog 94 [.val false [.lit (.int .i64 x0)],.val false [.lit (.int .i64 x1)]] [.val true (zA.row r)] [] := by
 refine cW Try.func94 (fun g d => sl [g 0,sl [g 1] (cn 14 (sl [g 2] .ret) .skip),g 3,sl [g 4] (.block 0 (.loop (sl [sl [g 5] (cn 22 .skip (.exit 0)),.block 1 (g 7)] (g 6)))),g 8] .ret) [.cell 4 42] fun cx => ?_
 unfold QH at H
 refine gA 1 19 16 ?_
 refine tS ?_
 refine rA 1 ?_
 obtain ⟨r1,er1,H⟩ := bs H
 refine vA [.rd,.rd,.rd] (qI n x0 1 99 r1 er1) ?_
 refine lA 2 ?_
 refine sL 1043 16 ⟨32,0,[sB 10 (!r1),sA 4 4 11 0,sI 0 x0,sI 1 x1],[(4,[cI 0,cS (⟨#[]⟩ : ByteArray),cL 8 ([] : List Pt) Pt.row,cL 5 ([] : List zB) zB.row,cL 3 ([] : List zC) zC.row,cL 1 ([] : List Int) intRow,cI 0,cI 0,cI 0,cI 0,cI 0])]⟩ ?_
 cases h1 : (!r1)
 ·have H := zL h1 H
  refine lA 1 ?_
  obtain ⟨r2,er2,H⟩ := bs H
  refine vA [.rd,.rd,.rd] (qI n x1 1 6 r2 er2) ?_
  refine uA 2 16403 16 ?_
  obtain ⟨h2,H⟩ | ⟨h2,H⟩ := bC H
  ·refine nA h2 ?_
   refine tK ?_
   refine rA 2 ?_
   obtain ⟨r3,er3,H⟩ := bs H
   refine vA [.rd] (zDP n x1 r3 er3) ?_
   refine uA 3 50 48 ?_
   refine tS ?_
   refine gA 1 114 48 ?_
   obtain ⟨o7,eo7,Ho7⟩ := bs H
   clear H
   refine Tr.mid (ι := (List Pt)) (fun v => ⟨32,0,[sA 5 5 11 0,sA 4 4 11 0],[(5,[cI x0,cS (⟨#[]⟩ : ByteArray),cL 8 v Pt.row,cL 5 ([] : List zB) zB.row,cL 3 r3.Rows zC.row,cL 1 r3.Pv intRow,cI 0,cI 0,cI 0,cI 0,cI 0]),(4,[cI 0,cS (⟨#[]⟩ : ByteArray),cL 8 ([] : List Pt) Pt.row,cL 5 ([] : List zB) zB.row,cL 3 ([] : List zC) zC.row,cL 1 ([] : List Int) intRow,cI 0,cI 0,cI 0,cI 0,cI 0])]⟩) (fun v => Qz n r3 x0 v = some r) ?_ ?_
   ·refine tB ?_
    refine Tr.loop (ι := Nat × (Int × (List Pt))) (fun v => ⟨32,0,[sI 6 v.2.1,sA 5 5 11 0,sA 4 4 11 0,sI 1 x1],[(5,[cI x0,cS (⟨#[]⟩ : ByteArray),cL 8 v.2.2 Pt.row,cL 5 ([] : List zB) zB.row,cL 3 r3.Rows zC.row,cL 1 r3.Pv intRow,cI 0,cI 0,cI 0,cI 0,cI 0]),(4,[cI 0,cS (⟨#[]⟩ : ByteArray),cL 8 ([] : List Pt) Pt.row,cL 5 ([] : List zB) zB.row,cL 3 ([] : List zC) zC.row,cL 1 ([] : List Int) intRow,cI 0,cI 0,cI 0,cI 0,cI 0])]⟩) (fun v => QQ n v.1 x1 v.2.1 v.2.2 = some o7) (fun v => v.1) (n,(0,([] : List Pt))) eo7 (St.sub_of [6,5,4,1] [5,4] kr) ?_
    rintro ⟨mo7,y4,y5⟩ H
    have H : QQ n mo7 x1 y4 y5 = some o7 := H
    obtain _ | mo7 := mo7
    ·exact nN H
    rw [QQ] at H
    refine tS ?_
    refine gA 3 4194418 48 ?_
    obtain ⟨h3,H⟩ | ⟨h3,H⟩ := bC H
    ·refine nA h3 ?_
     refine Tr.exit ?_
     refine aJ ?_
     obtain rfl := si H
     have H := Ho7
     dsimp only at H
     exact jA y5 H [5,4] [5,4]
    refine tA h3 ?_
    refine tK ?_
    refine tS ?_
    refine tB ?_
    refine Tr.at ?_
    refine lA 4 ?_
    obtain ⟨hg8,H⟩ := gs H
    refine LAt.appMU tOk (t := 35) (ty := 35) (e := 55) (x := (.tmp 26)) (y := (.tmp 28)) (d := 29) (g := none) (tI 55) Pt.row y5 [(⟨false,1,false,(⟨0,0,0,0,0⟩ : Vec)⟩ : Pt)] kr kr kr kr kr kr kr kr kr kr hg8 ?_
    refine uA 2 114 48 ?_
    refine eA 3 114 48 ?_
    exact jB mo7 ((IntKind.wrap .i64 (y4 + 1)),(y5 ++ [(⟨false,1,false,(⟨0,0,0,0,0⟩ : Vec)⟩ : Pt)])) H [6,5,4,1] [5,4]
   rintro y6 H
   have H : (Qz n r3 x0 y6) = some r := H
   unfold Qz at H
   refine gA 2 16 16 ?_
   exact te (fJ [(true,[cI x0,cS (⟨#[]⟩ : ByteArray),cL 8 y6 Pt.row,cL 5 ([] : List zB) zB.row,cL 3 r3.Rows zC.row,cL 1 r3.Pv intRow,cI 0,cI 0,cI 0,cI 0,cI 0])] H)
  refine tA h2 ?_
  refine gA 2 16 16 ?_
  exact te (fJ [(true,[cI 0,cS (⟨#[]⟩ : ByteArray),cL 8 ([] : List Pt) Pt.row,cL 5 ([] : List zB) zB.row,cL 3 ([] : List zC) zC.row,cL 1 ([] : List Int) intRow,cI 0,cI 0,cI 0,cI 0,cI 0])] H)
 have H := zM h1 H
 refine uA 4 16403 16 ?_
 refine tB_ ?_
 refine gA 2 16 16 ?_
 exact te (fJ [(true,[cI 0,cS (⟨#[]⟩ : ByteArray),cL 8 ([] : List Pt) Pt.row,cL 5 ([] : List zB) zB.row,cL 3 ([] : List zC) zC.row,cL 1 ([] : List Int) intRow,cI 0,cI 0,cI 0,cI 0,cI 0])] H)
def QW (n : Nat) (x0 : Src) (x1 : (List ByteArray)) : Option (ByteArray × Src) :=
  ((zJ n x0 (x1.length : Int)).bind fun r1 => ((idx x1 r1.1).bind fun v2 => (some (v2,r1.2))))
noncomputable abbrev G95 (k : Nat) := Rg Try.f95 k
theorem zE5 (n : Nat) (x0 : Src) (x1 : (List ByteArray)) (r : ByteArray × Src) (H : QW n x0 x1 = some r) : zK Try.prog 95 [.ptr (CV.frzRow (Src.row x0)),.val false [.sl false 1 (CV.frzEs (x1.map zFC))]] [.val false [.lit (.string r.1)]] [(0,(CV.frzRow (Src.row r.2)))] := by
 refine zK.of_body tOk Try.func95 rfl (c := (.seq (G95 0) (.seq (G95 1) .ret))) kr (Nat.le_of_ble_eq_true kr) 1 (rs := [.tmp 4]) rfl [] .nil [(false,[.lit (.string r.1)])] [] [(0,(CV.frzRow (Src.row r.2)))] fun cx => ?_
 show Tr _ _ _ ⟨12,1,[sA 0 0 3 0,sC 1 (cF 1 x1 zFC)],[(0,(CV.frzRow (Src.row x0)))]⟩ _
 unfold QW at H
 refine gA 1 3 1 ?_
 refine rA 3 ?_
 refine kF x1 zFC ?_
 obtain ⟨r1,er1,H⟩ := bs H
 refine LAt.callL tOk [.lend,.rd] (f := 49) (av := #[.tmp 6,.tmp 8]) (ats := #[92,3]) (d := (some 9)) (ty := 3) (g := none) kr kr kr [] (zO n x0 (x1.length : Int) r1 er1) kr (.inl rfl) ?_
 obtain ⟨v2,ev2,H⟩ := bs H
 refine iA zFC ev2 ?_
 refine uA 2 17 1 ?_
 refine te ?_
 obtain rfl := si H
 exact Fin.ofY _ [(false,[cS v2])] [] _ [] _ [(0,(CV.frzRow (Src.row r1.2)))] kr rfl rfl rfl kr kr kr kr rfl rfl rfl
def Zo (n : Nat) (x0 : Src) (x1 : Int) : Option (Bool × Src) :=
  ((zJ n x0 x1).bind fun r1 => (some ((r1.1 == 0),r1.2)))
noncomputable abbrev zI9 (k : Nat) := Rg Try.f100 k
theorem zB4 (n : Nat) (x0 : Src) (x1 : Int) (r : Bool × Src) (H : Zo n x0 x1 = some r) : zK Try.prog 100 [.ptr (CV.frzRow (Src.row x0)),.val false [.lit (.int .i64 x1)]] [.val false [.lit (.bool r.1)]] [(0,(CV.frzRow (Src.row r.2)))] := by
 refine zK.of_body tOk Try.func100 rfl (c := (.seq (zI9 0) (.seq (zI9 1) .ret))) kr (Nat.le_of_ble_eq_true kr) 1 (rs := [.tmp 4]) rfl [] .nil [(false,[.lit (.bool r.1)])] [] [(0,(CV.frzRow (Src.row r.2)))] fun cx => ?_
 show Tr _ _ _ ⟨9,1,[sA 0 0 3 0,sI 1 x1],[(0,(CV.frzRow (Src.row x0)))]⟩ _
 unfold Zo at H
 refine gA 1 3 1 ?_
 refine rA 2 ?_
 obtain ⟨r1,er1,H⟩ := bs H
 refine LAt.callL tOk [.lend,.rd] (f := 49) (av := #[.tmp 5,.tmp 6]) (ats := #[92,3]) (d := (some 7)) (ty := 3) (g := none) kr kr kr [] (zO n x0 x1 r1 er1) kr (.inl rfl) ?_
 refine uA 2 17 1 ?_
 refine te ?_
 obtain rfl := si H
 exact Fin.ofY _ [(false,[cB (r1.1 == 0)])] [] _ [] _ [(0,(CV.frzRow (Src.row r1.2)))] kr rfl rfl rfl kr kr kr kr rfl rfl rfl
def ze (n : Nat) (x0 : Src) (x1 : (List Int)) : Option (Int × Src) :=
  ((zJ n x0 (x1.length : Int)).bind fun r1 => ((idx x1 r1.1).bind fun v2 => (some (v2,r1.2))))
noncomputable abbrev G51 (k : Nat) := Rg Try.f51 k
theorem zu (n : Nat) (x0 : Src) (x1 : (List Int)) (r : Int × Src) (H : ze n x0 x1 = some r) : zK Try.prog 51 [.ptr (CV.frzRow (Src.row x0)),.val false [.sl false 1 (CV.frzEs (x1.map intRow))]] [.val false [.lit (.int .i64 r.1)]] [(0,(CV.frzRow (Src.row r.2)))] := by
 refine zK.of_body tOk Try.func51 rfl (c := (.seq (G51 0) (.seq (G51 1) .ret))) kr (Nat.le_of_ble_eq_true kr) 1 (rs := [.tmp 4]) rfl [] .nil [(false,[.lit (.int .i64 r.1)])] [] [(0,(CV.frzRow (Src.row r.2)))] fun cx => ?_
 show Tr _ _ _ ⟨12,1,[sA 0 0 3 0,sC 1 (cF 1 x1 intRow)],[(0,(CV.frzRow (Src.row x0)))]⟩ _
 unfold ze at H
 refine gA 1 3 1 ?_
 refine rA 3 ?_
 refine kF x1 intRow ?_
 obtain ⟨r1,er1,H⟩ := bs H
 refine LAt.callL tOk [.lend,.rd] (f := 49) (av := #[.tmp 6,.tmp 8]) (ats := #[92,3]) (d := (some 9)) (ty := 3) (g := none) kr kr kr [] (zO n x0 (x1.length : Int) r1 er1) kr (.inl rfl) ?_
 obtain ⟨v2,ev2,H⟩ := bs H
 refine iA intRow ev2 ?_
 refine uA 2 17 1 ?_
 refine te ?_
 obtain rfl := si H
 exact Fin.ofY _ [(false,[cI v2])] [] _ [] _ [(0,(CV.frzRow (Src.row r1.2)))] kr rfl rfl rfl kr kr kr kr rfl rfl rfl
def QE (n : Nat) (x0 : Src) : Option (Vec × Src) :=
  ((zJ n x0 5).bind fun r1 => ((ze n r1.2 [0,1,2,5,10,100]).bind fun r2 => ((ze n r2.2 [0,1,2,9,10]).bind fun r3 => ((zJ n r3.2 5).bind fun r4 => ((zJ n r4.2 4).bind fun r5 => (some ((⟨(IntKind.wrap .i64 (1 + r1.1)),r2.1,r3.1,(IntKind.wrap .i64 (1 + r4.1)),r5.1⟩ : Vec),r5.2)))))))
noncomputable abbrev zJA (k : Nat) := Rg Try.f106 k
theorem zD9 (n : Nat) (x0 : Src) (r : Vec × Src) (H : QE n x0 = some r) : zK Try.prog 106 [.ptr (CV.frzRow (Src.row x0))] [.val true (Vec.row r.1)] [(0,(CV.frzRow (Src.row r.2)))] := by
 refine zK.of_body tOk Try.func106 rfl (c := (.seq (zJA 0) (.seq (zJA 1) .ret))) kr (Nat.le_of_ble_eq_true kr) 1 (rs := [.cell 2 46]) rfl [] .nil [(true,(Vec.row r.1))] [] [(0,(CV.frzRow (Src.row r.2)))] fun cx => ?_
 show Tr _ _ _ ⟨18,1,[sA 0 0 3 0],[(0,(CV.frzRow (Src.row x0)))]⟩ _
 unfold QE at H
 refine gA 1 5 5 ?_
 refine rA 1 ?_
 obtain ⟨r1,er1,H⟩ := bs H
 refine LAt.callL tOk [.lend,.rd] (f := 49) (av := #[.tmp 3,.const (.int .i64 5)]) (ats := #[92,3]) (d := (some 4)) (ty := 3) (g := none) kr kr kr [] (zO n x0 5 r1 er1) kr (.inl rfl) ?_
 refine lA 3 ?_
 obtain ⟨r2,er2,H⟩ := bs H
 refine LAt.callL tOk [.lend,.rd] (f := 51) (av := #[.tmp 6,.tmp 7]) (ats := #[92,38]) (d := (some 8)) (ty := 3) (g := none) kr kr kr [] (zu n r1.2 [0,1,2,5,10,100] r2 er2) kr (.inl rfl) ?_
 refine lA 2 ?_
 obtain ⟨r3,er3,H⟩ := bs H
 refine LAt.callL tOk [.lend,.rd] (f := 51) (av := #[.tmp 9,.tmp 10]) (ats := #[92,38]) (d := (some 11)) (ty := 3) (g := none) kr kr kr [] (zu n r2.2 [0,1,2,9,10] r3 er3) kr (.inl rfl) ?_
 refine lA 1 ?_
 obtain ⟨r4,er4,H⟩ := bs H
 refine LAt.callL tOk [.lend,.rd] (f := 49) (av := #[.tmp 12,.const (.int .i64 5)]) (ats := #[92,3]) (d := (some 13)) (ty := 3) (g := none) kr kr kr [] (zO n r3.2 5 r4 er4) kr (.inl rfl) ?_
 refine lA 2 ?_
 obtain ⟨r5,er5,H⟩ := bs H
 refine LAt.callL tOk [.lend,.rd] (f := 49) (av := #[.tmp 15,.const (.int .i64 4)]) (ats := #[92,3]) (d := (some 16)) (ty := 3) (g := none) kr kr kr [] (zO n r4.2 4 r5 er5) kr (.inl rfl) ?_
 refine uA 2 5 5 ?_
 refine te ?_
 obtain rfl := si H
 exact Fin.ofY _ [(true,[cI (IntKind.wrap .i64 (1 + r1.1)),cI r2.1,cI r3.1,cI (IntKind.wrap .i64 (1 + r4.1)),cI r5.1])] [] _ [] _ [(0,(CV.frzRow (Src.row r5.2)))] kr rfl rfl rfl kr kr kr kr rfl rfl rfl
def Yi (n : Nat) (y6 : (List Pt)) (y7 : (List Int)) (y8 : Int) (y9 : Int) : Option ((List Pt) × Src) :=
  (some (y6,(⟨y7,y8,y9⟩ : Src)))
def Zl (n : Nat) (k : (Int × (List Pt) × (List Int) × Int × Int → Option (((List Pt) × (List Int) × Int × Int) ⊕ ((List Pt) × Src)))) (r12 : Int × Src) (y1 : Int) (y2 : (List Pt)) (y13 : Bool) (y14 : Bool) (y15 : Int) (y16 : Int) (y17 : Int) (y18 : Int) (y19 : Int) (y20 : (List Int)) (y21 : Int) (y22 : Int) : Option (((List Pt) × (List Int) × Int × Int) ⊕ ((List Pt) × Src)) :=
  (bif (decide (y2.length + [(⟨y13,r12.1,y14,(⟨y15,y16,y17,y18,y19⟩ : Vec)⟩ : Pt)].length ≤ 268435456)) then (k ((IntKind.wrap .i64 (y1 + 1)),(y2 ++ [(⟨y13,r12.1,y14,(⟨y15,y16,y17,y18,y19⟩ : Vec)⟩ : Pt)]),y20,y21,y22)) else none)
def qP (n : Nat) : Nat → Int → Int → (List Pt) → (List Int) → Int → Int → Option (((List Pt) × (List Int) × Int × Int) ⊕ ((List Pt) × Src))
  | 0,_,_,_,_,_,_ => none
  | mo10 + 1,x1,y1,y2,y3,y4,y5 => (bif (decide (y1 < x1)) then ((Zo n (⟨y3,y4,y5⟩ : Src) 4).bind fun r11 => ((ze n r11.2 [1,1,2,5,10]).bind fun r12 => (bif (!r11.1) then ((Zo n r12.2 4).bind fun r24 => (bif (!r24.1) then ((QE n r24.2).bind fun r25 => (Zl n (fun v => qP n mo10 x1 v.1 v.2.1 v.2.2.1 v.2.2.2.1 v.2.2.2.2) r12 y1 y2 true true r25.1.Root r25.1.Co r25.1.Hops r25.1.Bridge r25.1.Port r25.2.b r25.2.i r25.2.h)) else (Zl n (fun v => qP n mo10 x1 v.1 v.2.1 v.2.2.1 v.2.2.2.1 v.2.2.2.2) r12 y1 y2 true false 0 0 0 0 0 r24.2.b r24.2.i r24.2.h))) else (Zl n (fun v => qP n mo10 x1 v.1 v.2.1 v.2.2.1 v.2.2.2.1 v.2.2.2.2) r12 y1 y2 false false 0 0 0 0 0 r12.2.b r12.2.i r12.2.h)))) else (some (Sum.inl (y2,y3,y4,y5))))
def Zv (n : Nat) (x0 : Src) (x1 : Int) : Option ((List Pt) × Src) :=
  ((qP n n x1 0 ([] : List Pt) x0.b x0.i x0.h).bind fun o => match o with | .inl (y6,y7,y8,y9) => (Yi n y6 y7 y8 y9) | .inr r => some r)
noncomputable abbrev G96 (k : Nat) := Rg Try.f96 k
theorem zDQ (n : Nat) (x0 : Src) (x1 : Int) (r : (List Pt) × Src) (H : Zv n x0 x1 = some r) : zK Try.prog 96 [.ptr (CV.frzRow (Src.row x0)),.val false [.lit (.int .i64 x1)]] [.val false [.sl true 8 (r.1.map Pt.row)]] [(0,(CV.frzRow (Src.row r.2)))] := by
 refine zK.of_body tOk Try.func96 rfl (c := (.seq (G96 0) (.seq (G96 1) (.seq (.seq (G96 2) (.block 0 (.loop (.seq (.seq (G96 3) (.cond (.tmp 11) .skip (.exit 0))) (.seq (.block 1 (.seq (G96 5) (.seq (.seq (G96 6) (.cond (.tmp 27) (.seq (G96 7) (G96 8)) .skip)) (G96 9)))) (G96 4)))))) (.seq (G96 10) .ret))))) kr (Nat.le_of_ble_eq_true kr) 1 (rs := [.tmp 4]) rfl [] .nil [(false,[.sl true 8 (r.1.map Pt.row)])] [] [(0,(CV.frzRow (Src.row r.2)))] fun cx => ?_
 show Tr _ _ _ ⟨37,1,[sA 0 0 3 0,sI 1 x1],[(0,(CV.frzRow (Src.row x0)))]⟩ _
 unfold Zv at H
 refine gA 1 3 1 ?_
 refine rA 1 ?_
 refine LAt.moveU (T := lk tab) (ty := 35) (x := (.tmp 8)) (d := 5) (g := none) false [cL 8 ([] : List Pt) Pt.row] kr kr kr kr kr ?_
 refine dA 35 1 ?_
 refine tS ?_
 refine gA 1 99 1 ?_
 obtain ⟨o10,eo10,Ho10⟩ := bs H
 clear H
 refine Tr.mid (ι := (List Pt) × (List Int) × Int × Int) (fun v => ⟨37,1,[sC 5 (cL 8 v.1 Pt.row),sA 0 0 3 0],[(0,[cF 1 v.2.1 zF,cI v.2.2.1,cI v.2.2.2])]⟩) (fun v => Yi n v.1 v.2.1 v.2.2.1 v.2.2.2 = some r) ?_ ?_
 ·refine tB ?_
  refine Tr.loop (ι := Nat × (Int × (List Pt) × (List Int) × Int × Int)) (fun v => ⟨37,1,[sI 6 v.2.1,sC 5 (cL 8 v.2.2.1 Pt.row),sA 0 0 3 0,sI 1 x1],[(0,[cF 1 v.2.2.2.1 zF,cI v.2.2.2.2.1,cI v.2.2.2.2.2])]⟩) (fun v => qP n v.1 x1 v.2.1 v.2.2.1 v.2.2.2.1 v.2.2.2.2.1 v.2.2.2.2.2 = some o10) (fun v => v.1) (n,(0,([] : List Pt),x0.b,x0.i,x0.h)) eo10 (St.sub_of [6,5,0,1] [0] kr) ?_
  rintro ⟨mo10,y1,y2,y3,y4,y5⟩ H
  have H : qP n mo10 x1 y1 y2 y3 y4 y5 = some o10 := H
  obtain _ | mo10 := mo10
  ·exact nN H
  rw [qP] at H
  refine tS ?_
  refine gA 3 2147 1 ?_
  obtain ⟨h1,H⟩ | ⟨h1,H⟩ := bC H
  ·refine nA h1 ?_
   refine Tr.exit ?_
   refine aJ ?_
   obtain rfl := si H
   have H := Ho10
   dsimp only at H
   exact jA (y2,y3,y4,y5) H [5,0] [0]
  refine tA h1 ?_
  refine tK ?_
  refine tS ?_
  refine tB ?_
  refine rA 1 ?_
  obtain ⟨r11,er11,H⟩ := bs H
  refine LAt.callL tOk [.lend,.rd] (f := 100) (av := #[.tmp 14,.const (.int .i64 4)]) (ats := #[92,3]) (d := (some 15)) (ty := 4) (g := none) kr kr kr [] (zB4 n (⟨y3,y4,y5⟩ : Src) 4 r11 er11) kr (.inl rfl) ?_
  refine lA 3 ?_
  obtain ⟨r12,er12,H⟩ := bs H
  refine LAt.callL tOk [.lend,.rd] (f := 51) (av := #[.tmp 17,.tmp 18]) (ats := #[92,38]) (d := (some 19)) (ty := 3) (g := none) kr kr kr [] (zu n r11.2 [1,1,2,5,10] r12 er12) kr (.inl rfl) ?_
  refine uA 3 227 129 ?_
  refine tS ?_
  refine Tr.mid (ι := Bool × Bool × Int × Int × Int × Int × Int × (List Int) × Int × Int) (fun v => ⟨37,1,[sA 7 7 8 0,sI 6 y1,sC 5 (cL 8 y2 Pt.row),sA 0 0 3 0,sI 1 x1],[(7,[cB v.1,cI r12.1,cB v.2.1,cI v.2.2.1,cI v.2.2.2.1,cI v.2.2.2.2.1,cI v.2.2.2.2.2.1,cI v.2.2.2.2.2.2.1]),(0,[cF 1 v.2.2.2.2.2.2.2.1 zF,cI v.2.2.2.2.2.2.2.2.1,cI v.2.2.2.2.2.2.2.2.2])]⟩) (fun v => Zl n (fun v => qP n mo10 x1 v.1 v.2.1 v.2.2.1 v.2.2.2.1 v.2.2.2.2) r12 y1 y2 v.1 v.2.1 v.2.2.1 v.2.2.2.1 v.2.2.2.2.1 v.2.2.2.2.2.1 v.2.2.2.2.2.2.1 v.2.2.2.2.2.2.2.1 v.2.2.2.2.2.2.2.2.1 v.2.2.2.2.2.2.2.2.2 = some o10) ?_ ?_
  ·refine tS ?_
   refine Tr.at ?_
   refine lA 3 ?_
   refine sL 8388835 129 ⟨37,1,[sB 23 (!r11.1),sA 7 7 8 0,sI 6 y1,sC 5 (cL 8 y2 Pt.row),sA 0 0 3 0,sI 1 x1],[(7,[cB (!r11.1),cI r12.1,cB false,cI 0,cI 0,cI 0,cI 0,cI 0]),(0,(CV.frzRow (Src.row r12.2)))]⟩ ?_
   cases h2 : (!r11.1)
   ·have H := zL h2 H
    refine uA 4 134217955 129 ?_
    refine nB_ ?_
    refine tK ?_
    exact jA (false,false,0,0,0,0,0,r12.2.b,r12.2.i,r12.2.h) H [7,6,5,0,1] [7,0]
   have H := zM h2 H
   refine lA 1 ?_
   obtain ⟨r24,er24,H⟩ := bs H
   refine LAt.callL tOk [.lend,.rd] (f := 100) (av := #[.tmp 24,.const (.int .i64 4)]) (ats := #[92,3]) (d := (some 25)) (ty := 4) (g := (some (2,true))) kr kr kr [] (zB4 n r12.2 4 r24 er24) kr (.inl rfl) ?_
   refine uA 2 134217955 129 ?_
   obtain ⟨h3,H⟩ | ⟨h3,H⟩ := bC H
   ·refine nA h3 ?_
    refine tK ?_
    exact jA (true,false,0,0,0,0,0,r24.2.b,r24.2.i,r24.2.h) H [7,6,5,0,1] [7,0]
   refine tA h3 ?_
   refine gA 2 227 129 ?_
   refine Tr.at ?_
   refine lA 1 ?_
   obtain ⟨r25,er25,H⟩ := bs H
   refine LAt.callL tOk [.lend] (f := 106) (av := #[.tmp 29]) (ats := #[92]) (d := (some 30)) (ty := 46) (g := none) kr kr kr [] (zD9 n r24.2 r25 er25) kr (.inl rfl) ?_
   refine uA 2 227 129 ?_
   exact jA (true,true,r25.1.Root,r25.1.Co,r25.1.Hops,r25.1.Bridge,r25.1.Port,r25.2.b,r25.2.i,r25.2.h) H [7,6,5,0,1] [7,0]
  rintro ⟨y13,y14,y15,y16,y17,y18,y19,y20,y21,y22⟩ H
  have H : (Zl n (fun v => qP n mo10 x1 v.1 v.2.1 v.2.2.1 v.2.2.2.1 v.2.2.2.2) r12 y1 y2 y13 y14 y15 y16 y17 y18 y19 y20 y21 y22) = some o10 := H
  unfold Zl at H
  refine Tr.at ?_
  refine lA 3 ?_
  obtain ⟨hg23,H⟩ := gs H
  refine LAt.appMU tOk (t := 35) (ty := 35) (e := 55) (x := (.tmp 32)) (y := (.tmp 34)) (d := 35) (g := none) (tI 55) Pt.row y2 [(⟨y13,r12.1,y14,(⟨y15,y16,y17,y18,y19⟩ : Vec)⟩ : Pt)] kr kr kr kr kr kr kr kr kr kr hg23 ?_
  refine LAt.moveU (T := lk tab) (ty := 35) (x := (.tmp 35)) (d := 5) (g := none) false [cL 8 (y2 ++ [(⟨y13,r12.1,y14,(⟨y15,y16,y17,y18,y19⟩ : Vec)⟩ : Pt)]) Pt.row] kr kr kr kr kr ?_
  refine dA 99 1 ?_
  refine eA 3 99 1 ?_
  exact jB mo10 ((IntKind.wrap .i64 (y1 + 1)),(y2 ++ [(⟨y13,r12.1,y14,(⟨y15,y16,y17,y18,y19⟩ : Vec)⟩ : Pt)]),y20,y21,y22) H [6,5,0,1] [0]
 rintro ⟨y6,y7,y8,y9⟩ H
 have H : (Yi n y6 y7 y8 y9) = some r := H
 unfold Yi at H
 refine gA 2 49 1 ?_
 refine te ?_
 obtain rfl := si H
 exact Fin.ofY _ [(false,[cL 8 y6 Pt.row])] [] _ [] _ [(0,[cF 1 y7 zF,cI y8,cI y9])] kr rfl rfl rfl kr kr kr kr rfl rfl rfl
def Jd (n : Nat) : Option (Int) :=
  (some (-1))
def ZI (n : Nat) : Nat → zD → Int → Int → Option ((Unit) ⊕ (Int))
  | 0,_,_,_ => none
  | mo2 + 1,x0,x1,y1 => (bif (decide (y1 < (x0.Rows.length : Int))) then ((idx x0.Rows y1).bind fun v3 => (bif (v3.Id == x1) then (some (Sum.inr y1)) else (ZI n mo2 x0 x1 (IntKind.wrap .i64 (y1 + 1))))) else (some (Sum.inl ())))
def QV (n : Nat) (x0 : zD) (x1 : Int) : Option (Int) :=
  ((ZI n n x0 x1 0).bind fun o => match o with | .inl _ => (Jd n) | .inr r => some r)
theorem zE0 (n : Nat) (x0 : zD) (x1 : Int) (r : Int) (H : QV n x0 x1 = some r) : zK Try.prog 178 [.val true (CV.frzRow (zD.row x0)),.val false [.lit (.int .i64 x1)]] [.val false [.lit (.int .i64 r)]] [] := by
 refine cW Try.func178 (fun g d => sl [g 0,sl [g 1] (.block 0 (.loop (sl [sl [g 2] (cn 10 .skip (.exit 0)),.block 1 (sl [g 4] (cn 20 (sl [g 5] .ret) .skip))] (g 3)))),g 6] .ret) [.tmp 4] fun cx => ?_
 unfold QV at H
 refine gA 2 6 4 ?_
 refine tS ?_
 refine gA 1 38 4 ?_
 obtain ⟨o2,eo2,Ho2⟩ := bs H
 clear H
 refine Tr.mid (ι := Unit) (fun v => ⟨22,0,[],[]⟩) (fun v => Jd n = some r) ?_ ?_
 ·refine tB ?_
  refine Tr.loop (ι := Nat × (Int)) (fun v => ⟨22,0,[sI 5 v.2,sA 2 2 2 0,sI 1 x1],[(2,(CV.frzRow (zD.row x0)))]⟩) (fun v => ZI n v.1 x0 x1 v.2 = some o2) (fun v => v.1) (n,0) eo2 (St.sub_of [5,2,1] [2] kr) ?_
  rintro ⟨mo2,y1⟩ H
  have H : ZI n mo2 x0 x1 y1 = some o2 := H
  obtain _ | mo2 := mo2
  ·exact nN H
  rw [ZI] at H
  refine tS ?_
  refine rA 3 ?_
  refine kF x0.Rows zC.row ?_
  refine uA 1 1062 4 ?_
  obtain ⟨h1,H⟩ | ⟨h1,H⟩ := bC H
  ·refine nA h1 ?_
   refine Tr.exit ?_
   refine aJ ?_
   obtain rfl := si H
   have H := Ho2
   dsimp only at H
   exact jA () H [] []
  refine tA h1 ?_
  refine tK ?_
  refine tS ?_
  refine tB ?_
  refine rA 3 ?_
  obtain ⟨v3,ev3,H⟩ := bs H
  refine iA zC.row ev3 ?_
  refine uA 4 1048614 4 ?_
  obtain ⟨h2,H⟩ | ⟨h2,H⟩ := bC H
  ·refine nA h2 ?_
   refine tK ?_
   refine eA 3 38 4 ?_
   exact jB mo2 (IntKind.wrap .i64 (y1 + 1)) H [5,2,1] [2]
  refine tA h2 ?_
  refine gA 2 16 0 ?_
  refine te ?_
  obtain rfl := si H
  have H := Ho2
  dsimp only at H
  exact fJ [(false,[cI y1])] H
 rintro _ H
 have H : (Jd n) = some r := H
 unfold Jd at H
 refine gA 1 16 0 ?_
 exact te (fJ [(false,[cI (-1)])] H)
def JE (n : Nat) : Option (Bool) :=
  (some true)
def qt (n : Nat) : Nat → zD → Int → Option ((Unit) ⊕ (Bool))
  | 0,_,_ => none
  | mo5 + 1,x0,y4 => (bif (decide (y4 < (x0.Pv.length : Int))) then ((idx x0.Pv y4).bind fun v6 => ((QV n x0 v6).bind fun r7 => (bif (decide (r7 < 0)) then (some (Sum.inr false)) else (qt n mo5 x0 (IntKind.wrap .i64 (y4 + 1)))))) else (some (Sum.inl ())))
def Z5 (n : Nat) (x0 : zD) : Option (Bool) :=
  ((qt n n x0 0).bind fun o => match o with | .inl _ => (JE n) | .inr r => some r)
def qh (n : Nat) : Nat → zD → Int → Int → Option ((Unit) ⊕ (Bool))
  | 0,_,_,_ => none
  | mo8 + 1,x0,x1,y3 => (bif (decide (y3 < (x0.Rows.length : Int))) then ((idx x0.Rows y3).bind fun v9 => ((zX n v9.Id 1 99).bind fun r10 => (bif (!r10) then (some (Sum.inr false)) else ((zX n v9.Members 0 (IntKind.wrap .i64 ((IntKind.wrap .i64 (1 * 2 ^ min (((IntKind.wrap .u64 x1) : Int)).toNat (IntKind.bits .i64))) - 1))).bind fun r11 => (bif (!r11) then (some (Sum.inr false)) else ((zX n v9.Bare 0 (IntKind.wrap .i64 ((IntKind.wrap .i64 (1 * 2 ^ min (((IntKind.wrap .u64 x1) : Int)).toNat (IntKind.bits .i64))) - 1))).bind fun r12 => (bif (!r12) then (some (Sum.inr false)) else (bif ((IntKind.wrap .i64 (BitVec.ofInt (IntKind.bits .i64) v9.Bare &&& BitVec.ofInt (IntKind.bits .i64) v9.Members).toNat) != v9.Bare) then (some (Sum.inr false)) else (bif (decide (y3 > 0)) then ((idx x0.Rows (IntKind.wrap .i64 (y3 - 1))).bind fun v13 => (bif (decide (v13.Id ≥ v9.Id)) then (some (Sum.inr false)) else (qh n mo8 x0 x1 (IntKind.wrap .i64 (y3 + 1))))) else (qh n mo8 x0 x1 (IntKind.wrap .i64 (y3 + 1)))))))))))) else (some (Sum.inl ())))
def qG (n : Nat) (x0 : zD) (x1 : Int) : Option (Bool) :=
  ((zX n x1 1 6).bind fun r1 => (bif (!r1) then (some false) else (bif ((x0.Pv.length : Int) != x1) then (some false) else (bif (decide ((x0.Rows.length : Int) > 6)) then (some false) else (bif (decide ((0 : Int) ≤ (IntKind.wrap .u64 x1))) then ((qh n n x0 x1 0).bind fun o => match o with | .inl _ => (Z5 n x0) | .inr r => some r) else none)))))
def zJJ : Tab := ⟨44,[0,1,2,4,12,16,48,16,208,272,528,1280,2048,6144,2048,26624,34816,67584,163840,262144,786432,262144,2359296,5505024,262144,17039360,42205184,67371008,134479872,268435456,805306368,1342177280,2147483648,6442450944,2147483648,19327352832,45097156608,70866960384,139586437120,2147483648,551903297536,1376537018368,2201439174656,4398314946560],[0,1,2,4,8,16,48,16,208,272,528,1024,2048,6144,2048,26624,34816,67584,131072,262144,786432,262144,2359296,5505024,262144,17039360,42205184,67371008,134217728,268435456,805306368,1342177280,2147483648,6442450944,2147483648,19327352832,45097156608,70866960384,139586437120,2147483648,551903297536,1376537018368,2201439174656,4398314946560],[0,1,3,7,15,31,63,31,255,511,1023,2047,4095,8191,4095,32767,65535,131071,262143,524287,1048575,524287,2621439,8388607,524287,17301503,67108863,134217727,268435455,536870911,1073741823,2147483647,4294967295,8589934591,4294967295,21474836479,68719476735,137438953471,274877906943,4294967295,554050781183,2199023255551,4398046511103,8796093022207]⟩
theorem zU : qF (rg Try.f175 8) zJJ = true := kr
theorem zFX (n : Nat) (y3 : Int) (v9 : zC) (x1 : Int) (x0 : zD) (h11 : (decide (y3 > 0)) = false) (cx : Cx) : AT Try.prog cx (rg Try.f175 8) [⟨[],3,65,66⟩,⟨[],3,62,63⟩,⟨[],3,60,61⟩,⟨[15],3,53,54⟩,⟨[8,15],3,46,47⟩,⟨[2,8,15],3,41,42⟩] 15 [28,27,26,25,24,23,22,21,20,19,18,17,16,15,14,13,12,11,10,9,8,7,6,5,4,3,2,1,0] ⟨100,0,[sB 69 false,sI 66 v9.Bare,sA 65 7 3 2,sI 63 v9.Members,sA 62 7 3 1,sI 61 v9.Bare,sA 60 7 3 2,sI 54 v9.Bare,sA 53 7 3 2,sI 47 v9.Members,sA 46 7 3 1,sI 42 v9.Id,sA 41 7 3 0,sA 7 7 3 0,sI 6 y3,sI 5 (IntKind.wrap .i64 ((IntKind.wrap .i64 (1 * 2 ^ min (((IntKind.wrap .u64 x1) : Int)).toNat (IntKind.bits .i64))) - 1)),sA 2 2 2 0],[(7,(zC.row v9)),(2,(CV.frzRow (zD.row x0)))]⟩ (fun s => s = ⟨100,0,[sB 84 false,sI 6 y3,sI 5 (IntKind.wrap .i64 ((IntKind.wrap .i64 (1 * 2 ^ min (((IntKind.wrap .u64 x1) : Int)).toNat (IntKind.bits .i64))) - 1)),sA 2 2 2 0],[(2,(CV.frzRow (zD.row x0)))]⟩) := by
 refine mA zU [(29,[]),(30,[]),(31,[])] 12 [⟨[],3,65,66⟩,⟨[],3,62,63⟩,⟨[],3,60,61⟩,⟨[15],3,53,54⟩,⟨[8,15],3,46,47⟩,⟨[2,8,15],3,41,42⟩] fun cx => ?_
 refine sA_ 0x126f060c600000000e4 132 ⟨100,0,[sB 72 (decide (y3 > 0)),sB 69 false,sI 66 v9.Bare,sA 65 7 3 2,sI 63 v9.Members,sA 62 7 3 1,sI 61 v9.Bare,sA 60 7 3 2,sI 54 v9.Bare,sA 53 7 3 2,sI 47 v9.Members,sA 46 7 3 1,sI 42 v9.Id,sA 41 7 3 0,sA 7 7 3 0,sI 6 y3,sI 5 (IntKind.wrap .i64 ((IntKind.wrap .i64 (1 * 2 ^ min (((IntKind.wrap .u64 x1) : Int)).toNat (IntKind.bits .i64))) - 1)),sA 2 2 2 0],[(7,(zC.row v9)),(2,(CV.frzRow (zD.row x0)))]⟩ ?_
 rw [h11]
 refine mA zU [(32,[]),(33,[]),(34,[]),(35,[]),(36,[]),(37,[]),(38,[]),(39,[]),(40,[]),(41,[]),(42,[]),(43,[])] 0 [⟨[],3,65,66⟩,⟨[],3,62,63⟩,⟨[],3,60,61⟩,⟨[15],3,53,54⟩,⟨[8,15],3,46,47⟩,⟨[2,8,15],3,41,42⟩] fun cx => ?_
 exact mE zU [84,6,5,2] [2]
theorem zFY (n : Nat) (y3 : Int) (v9 : zC) (x1 : Int) (x0 : zD) (v13 : zC) (h11 : (decide (y3 > 0)) = true) (ev13 : (idx x0.Rows (IntKind.wrap .i64 (y3 - 1))) = some v13) (cx : Cx) : AT Try.prog cx (rg Try.f175 8) [⟨[],3,65,66⟩,⟨[],3,62,63⟩,⟨[],3,60,61⟩,⟨[15],3,53,54⟩,⟨[8,15],3,46,47⟩,⟨[2,8,15],3,41,42⟩] 15 [28,27,26,25,24,23,22,21,20,19,18,17,16,15,14,13,12,11,10,9,8,7,6,5,4,3,2,1,0] ⟨100,0,[sB 69 false,sI 66 v9.Bare,sA 65 7 3 2,sI 63 v9.Members,sA 62 7 3 1,sI 61 v9.Bare,sA 60 7 3 2,sI 54 v9.Bare,sA 53 7 3 2,sI 47 v9.Members,sA 46 7 3 1,sI 42 v9.Id,sA 41 7 3 0,sA 7 7 3 0,sI 6 y3,sI 5 (IntKind.wrap .i64 ((IntKind.wrap .i64 (1 * 2 ^ min (((IntKind.wrap .u64 x1) : Int)).toNat (IntKind.bits .i64))) - 1)),sA 2 2 2 0],[(7,(zC.row v9)),(2,(CV.frzRow (zD.row x0)))]⟩ (fun s => s = ⟨100,0,[sB 84 (decide (v13.Id ≥ v9.Id)),sI 6 y3,sI 5 (IntKind.wrap .i64 ((IntKind.wrap .i64 (1 * 2 ^ min (((IntKind.wrap .u64 x1) : Int)).toNat (IntKind.bits .i64))) - 1)),sA 2 2 2 0],[(2,(CV.frzRow (zD.row x0)))]⟩) := by
 refine mA zU [(29,[]),(30,[]),(31,[])] 12 [⟨[],3,65,66⟩,⟨[],3,62,63⟩,⟨[],3,60,61⟩,⟨[15],3,53,54⟩,⟨[8,15],3,46,47⟩,⟨[2,8,15],3,41,42⟩] fun cx => ?_
 refine sA_ 0x126f060c600000000e4 132 ⟨100,0,[sB 72 (decide (y3 > 0)),sB 69 false,sI 66 v9.Bare,sA 65 7 3 2,sI 63 v9.Members,sA 62 7 3 1,sI 61 v9.Bare,sA 60 7 3 2,sI 54 v9.Bare,sA 53 7 3 2,sI 47 v9.Members,sA 46 7 3 1,sI 42 v9.Id,sA 41 7 3 0,sA 7 7 3 0,sI 6 y3,sI 5 (IntKind.wrap .i64 ((IntKind.wrap .i64 (1 * 2 ^ min (((IntKind.wrap .u64 x1) : Int)).toNat (IntKind.bits .i64))) - 1)),sA 2 2 2 0],[(7,(zC.row v9)),(2,(CV.frzRow (zD.row x0)))]⟩ ?_
 rw [h11]
 refine mA zU [(32,[]),(33,[]),(34,[]),(35,[])] 8 [⟨[],37,73,74⟩,⟨[],3,65,66⟩,⟨[],3,62,63⟩,⟨[],3,60,61⟩,⟨[15],3,53,54⟩,⟨[8,15],3,46,47⟩,⟨[2,8,15],3,41,42⟩] fun cx => ?_
 refine iN zU 36 zC.row ev13 fun cx => ?_
 refine mA zU [(37,[]),(38,[]),(39,[]),(40,[]),(41,[]),(42,[]),(43,[])] 0 [⟨[],3,80,81⟩,⟨[],37,73,74⟩,⟨[],3,65,66⟩,⟨[],3,62,63⟩,⟨[],3,60,61⟩,⟨[15],3,53,54⟩,⟨[8,15],3,46,47⟩,⟨[2,8,15],3,41,42⟩] fun cx => ?_
 exact mE zU [84,6,5,2] [2]
theorem zFZ (n : Nat) (v9 : zC) (y3 : Int) (x1 : Int) (x0 : zD) (cx : Cx) : AT Try.prog cx (rg Try.f175 8) [⟨[],3,65,66⟩,⟨[],3,62,63⟩,⟨[],3,60,61⟩,⟨[15],3,53,54⟩,⟨[8,15],3,46,47⟩,⟨[2,8,15],3,41,42⟩] 15 [28,27,26,25,24,23,22,21,20,19,18,17,16,15,14,13,12,11,10,9,8,7,6,5,4,3,2,1,0] ⟨100,0,[sB 69 true,sI 66 v9.Bare,sA 65 7 3 2,sI 63 v9.Members,sA 62 7 3 1,sI 61 v9.Bare,sA 60 7 3 2,sI 54 v9.Bare,sA 53 7 3 2,sI 47 v9.Members,sA 46 7 3 1,sI 42 v9.Id,sA 41 7 3 0,sA 7 7 3 0,sI 6 y3,sI 5 (IntKind.wrap .i64 ((IntKind.wrap .i64 (1 * 2 ^ min (((IntKind.wrap .u64 x1) : Int)).toNat (IntKind.bits .i64))) - 1)),sA 2 2 2 0],[(7,(zC.row v9)),(2,(CV.frzRow (zD.row x0)))]⟩ (fun s => s = ⟨100,0,[sB 84 true,sI 6 y3,sI 5 (IntKind.wrap .i64 ((IntKind.wrap .i64 (1 * 2 ^ min (((IntKind.wrap .u64 x1) : Int)).toNat (IntKind.bits .i64))) - 1)),sA 2 2 2 0],[(2,(CV.frzRow (zD.row x0)))]⟩) := by
 refine mA zU [(29,[]),(30,[]),(31,[]),(32,[]),(33,[]),(34,[]),(35,[]),(36,[]),(37,[]),(38,[]),(39,[]),(40,[]),(41,[]),(42,[]),(43,[])] 0 [⟨[],3,65,66⟩,⟨[],3,62,63⟩,⟨[],3,60,61⟩,⟨[15],3,53,54⟩,⟨[8,15],3,46,47⟩,⟨[2,8,15],3,41,42⟩] fun cx => ?_
 exact mE zU [84,6,5,2] [2]
theorem zAZ (n : Nat) (x0 : zD) (x1 : Int) (r : Bool) (H : qG n x0 x1 = some r) : zK Try.prog 175 [.val true (CV.frzRow (zD.row x0)),.val false [.lit (.int .i64 x1)]] [.val false [.lit (.bool r)]] [] := by
 refine cW Try.func175 (fun g d => sl [g 0,sl [g 1] (cn 24 (sl [g 2] .ret) .skip),g 3,sl [g 4] (.block 0 (.loop (sl [sl [g 5] (cn 33 .skip (.exit 0)),.block 1 (sl [g 7,d 8] (cn 84 (sl [g 9] .ret) .skip))] (g 6)))),sl [g 10] (.block 2 (.loop (sl [sl [g 11] (cn 89 .skip (.exit 2)),.block 3 (sl [d 13] (cn 99 (sl [g 14] .ret) .skip))] (g 12)))),g 15] .ret) [.tmp 4] fun cx => ?_
 unfold qG at H
 refine gA 2 6 4 ?_
 refine tS ?_
 refine rA 1 ?_
 obtain ⟨r1,er1,H⟩ := bs H
 refine vA [.rd,.rd,.rd] (qI n x1 1 6 r1 er1) ?_
 refine lA 2 ?_
 refine sL 4102 4 ⟨100,0,[sB 12 (!r1),sA 2 2 2 0,sI 1 x1],[(2,(CV.frzRow (zD.row x0)))]⟩ ?_
 cases h1 : (!r1)
 ·have H := zL h1 H
  refine lA 2 ?_
  refine kF x0.Pv intRow ?_
  refine lA 4 ?_
  refine sL 524294 4 ⟨100,0,[sB 19 ((x0.Pv.length : Int) != x1),sA 2 2 2 0,sI 1 x1],[(2,(CV.frzRow (zD.row x0)))]⟩ ?_
  cases h2 : ((x0.Pv.length : Int) != x1)
  ·have H := zL h2 H
   refine lA 2 ?_
   refine kF x0.Rows zC.row ?_
   refine uA 2 16777222 4 ?_
   obtain ⟨h3,H⟩ | ⟨h3,H⟩ := bC H
   ·refine nA h3 ?_
    refine tK ?_
    refine rA 2 ?_
    obtain ⟨hg2,H⟩ := gs H
    refine LAt.binC tOk (op := .shl) (t := 3) (ty := 103) (ty' := 3) (x := (.const (.int .i64 1))) (y := (.tmp 26)) (d := 27) (g := none) (.int .i64 1) (.int .u64 (IntKind.wrap .u64 x1)) (.int .i64 (IntKind.wrap .i64 (1 * 2 ^ min (((IntKind.wrap .u64 x1) : Int)).toNat (IntKind.bits .i64)))) _ kr kr kr kr kr (φ := (0 : Int) ≤ (IntKind.wrap .u64 x1)) kr (of_decide_eq_true hg2) rfl ?_
    refine uA 2 36 4 ?_
    refine tS ?_
    refine gA 1 100 4 ?_
    obtain ⟨o8,eo8,Ho8⟩ := bs H
    clear H
    refine Tr.mid (ι := Unit) (fun v => ⟨100,0,[sA 2 2 2 0],[(2,(CV.frzRow (zD.row x0)))]⟩) (fun v => Z5 n x0 = some r) ?_ ?_
    ·refine tB ?_
     refine Tr.loop (ι := Nat × (Int)) (fun v => ⟨100,0,[sI 6 v.2,sI 5 (IntKind.wrap .i64 ((IntKind.wrap .i64 (1 * 2 ^ min (((IntKind.wrap .u64 x1) : Int)).toNat (IntKind.bits .i64))) - 1)),sA 2 2 2 0],[(2,(CV.frzRow (zD.row x0)))]⟩) (fun v => qh n v.1 x0 x1 v.2 = some o8) (fun v => v.1) (n,0) eo8 (St.sub_of [6,5,2] [2] kr) ?_
     rintro ⟨mo8,y3⟩ H
     have H : qh n mo8 x0 x1 y3 = some o8 := H
     obtain _ | mo8 := mo8
     ·exact nN H
     rw [qh] at H
     refine tS ?_
     refine rA 3 ?_
     refine kF x0.Rows zC.row ?_
     refine uA 1 8589934692 4 ?_
     obtain ⟨h6,H⟩ | ⟨h6,H⟩ := bC H
     ·refine nA h6 ?_
      refine Tr.exit ?_
      refine aJ ?_
      obtain rfl := si H
      have H := Ho8
      dsimp only at H
      exact jA () H [2] [2]
     refine tA h6 ?_
     refine tK ?_
     refine tS ?_
     refine tB ?_
     refine rA 3 ?_
     obtain ⟨v9,ev9,H⟩ := bs H
     refine iA zC.row ev9 ?_
     refine uA 3 228 132 ?_
     obtain ⟨r10,er10,H⟩ := bs H
     refine sT ⟨100,0,[sA 7 7 3 0,sI 6 y3,sI 5 (IntKind.wrap .i64 ((IntKind.wrap .i64 (1 * 2 ^ min (((IntKind.wrap .u64 x1) : Int)).toNat (IntKind.bits .i64))) - 1)),sA 2 2 2 0],[(7,(zC.row v9)),(2,(CV.frzRow (zD.row x0)))]⟩ ?_
     cases h7 : (!r10)
     ·have H := zL h7 H
      obtain ⟨r11,er11,H⟩ := bs H
      refine sT ⟨100,0,[sA 7 7 3 0,sI 6 y3,sI 5 (IntKind.wrap .i64 ((IntKind.wrap .i64 (1 * 2 ^ min (((IntKind.wrap .u64 x1) : Int)).toNat (IntKind.bits .i64))) - 1)),sA 2 2 2 0],[(7,(zC.row v9)),(2,(CV.frzRow (zD.row x0)))]⟩ ?_
      cases h8 : (!r11)
      ·have H := zL h8 H
       obtain ⟨r12,er12,H⟩ := bs H
       refine sT ⟨100,0,[sA 7 7 3 0,sI 6 y3,sI 5 (IntKind.wrap .i64 ((IntKind.wrap .i64 (1 * 2 ^ min (((IntKind.wrap .u64 x1) : Int)).toNat (IntKind.bits .i64))) - 1)),sA 2 2 2 0],[(7,(zC.row v9)),(2,(CV.frzRow (zD.row x0)))]⟩ ?_
       cases h9 : (!r12)
       ·have H := zL h9 H
        refine sT ⟨100,0,[sA 7 7 3 0,sI 6 y3,sI 5 (IntKind.wrap .i64 ((IntKind.wrap .i64 (1 * 2 ^ min (((IntKind.wrap .u64 x1) : Int)).toNat (IntKind.bits .i64))) - 1)),sA 2 2 2 0],[(7,(zC.row v9)),(2,(CV.frzRow (zD.row x0)))]⟩ ?_
        cases h10 : ((IntKind.wrap .i64 (BitVec.ofInt (IntKind.bits .i64) v9.Bare &&& BitVec.ofInt (IntKind.bits .i64) v9.Members).toNat) != v9.Bare)
        ·have H := zL h10 H
         refine sT ⟨100,0,[sA 7 7 3 0,sI 6 y3,sI 5 (IntKind.wrap .i64 ((IntKind.wrap .i64 (1 * 2 ^ min (((IntKind.wrap .u64 x1) : Int)).toNat (IntKind.bits .i64))) - 1)),sA 2 2 2 0],[(7,(zC.row v9)),(2,(CV.frzRow (zD.row x0)))]⟩ ?_
         cases h11 : (decide (y3 > 0))
         ·have H := zL h11 H
          refine Tr.draws mixed 44 kr ⟨100,0,[sB 84 false,sI 6 y3,sI 5 (IntKind.wrap .i64 ((IntKind.wrap .i64 (1 * 2 ^ min (((IntKind.wrap .u64 x1) : Int)).toNat (IntKind.bits .i64))) - 1)),sA 2 2 2 0],[(2,(CV.frzRow (zD.row x0)))]⟩ (fun cx => ?_) ?_
          ·refine mA zU [(0,[]),(1,[2,8,15])] 42 [⟨[2,8,15],3,41,42⟩] fun cx => ?_
           refine mC zU 2 ?_
           refine vA [.rd,.rd,.rd] (qI n v9.Id 1 99 r10 er10) ?_
           refine fA ?_
           refine mA zU [(3,[]),(4,[])] 39 [⟨[2,8,15],3,41,42⟩] fun cx => ?_
           refine sA_ 41781441855716 132 ⟨100,0,[sB 45 (!r10),sI 42 v9.Id,sA 41 7 3 0,sA 7 7 3 0,sI 6 y3,sI 5 (IntKind.wrap .i64 ((IntKind.wrap .i64 (1 * 2 ^ min (((IntKind.wrap .u64 x1) : Int)).toNat (IntKind.bits .i64))) - 1)),sA 2 2 2 0],[(7,(zC.row v9)),(2,(CV.frzRow (zD.row x0)))]⟩ ?_
           rw [h7]
           refine mA zU [(5,[]),(6,[8,15]),(7,[])] 36 [⟨[8,15],3,46,47⟩,⟨[2,8,15],3,41,42⟩] fun cx => ?_
           refine mC zU 8 ?_
           refine vA [.rd,.rd,.rd] (qI n v9.Members 0 (IntKind.wrap .i64 ((IntKind.wrap .i64 (1 * 2 ^ min (((IntKind.wrap .u64 x1) : Int)).toNat (IntKind.bits .i64))) - 1)) r11 er11) ?_
           refine fA ?_
           refine mA zU [(9,[]),(10,[]),(11,[])] 32 [⟨[8,15],3,46,47⟩,⟨[2,8,15],3,41,42⟩] fun cx => ?_
           refine sA_ 4721302929670372 132 ⟨100,0,[sB 52 (!r11),sI 47 v9.Members,sA 46 7 3 1,sI 42 v9.Id,sA 41 7 3 0,sA 7 7 3 0,sI 6 y3,sI 5 (IntKind.wrap .i64 ((IntKind.wrap .i64 (1 * 2 ^ min (((IntKind.wrap .u64 x1) : Int)).toNat (IntKind.bits .i64))) - 1)),sA 2 2 2 0],[(7,(zC.row v9)),(2,(CV.frzRow (zD.row x0)))]⟩ ?_
           rw [h8]
           refine mA zU [(12,[]),(13,[15]),(14,[])] 29 [⟨[15],3,53,54⟩,⟨[8,15],3,46,47⟩,⟨[2,8,15],3,41,42⟩] fun cx => ?_
           refine mC zU 15 ?_
           refine vA [.rd,.rd,.rd] (qI n v9.Bare 0 (IntKind.wrap .i64 ((IntKind.wrap .i64 (1 * 2 ^ min (((IntKind.wrap .u64 x1) : Int)).toNat (IntKind.bits .i64))) - 1)) r12 er12) ?_
           refine fA ?_
           refine mA zU [(16,[]),(17,[]),(18,[])] 25 [⟨[15],3,53,54⟩,⟨[8,15],3,46,47⟩,⟨[2,8,15],3,41,42⟩] fun cx => ?_
           refine sA_ 0x860c600000000e4 132 ⟨100,0,[sB 59 (!r12),sI 54 v9.Bare,sA 53 7 3 2,sI 47 v9.Members,sA 46 7 3 1,sI 42 v9.Id,sA 41 7 3 0,sA 7 7 3 0,sI 6 y3,sI 5 (IntKind.wrap .i64 ((IntKind.wrap .i64 (1 * 2 ^ min (((IntKind.wrap .u64 x1) : Int)).toNat (IntKind.bits .i64))) - 1)),sA 2 2 2 0],[(7,(zC.row v9)),(2,(CV.frzRow (zD.row x0)))]⟩ ?_
           rw [h9]
           refine mA zU [(19,[]),(20,[]),(21,[]),(22,[]),(23,[]),(24,[]),(25,[]),(26,[]),(27,[]),(28,[])] 15 [⟨[],3,65,66⟩,⟨[],3,62,63⟩,⟨[],3,60,61⟩,⟨[15],3,53,54⟩,⟨[8,15],3,46,47⟩,⟨[2,8,15],3,41,42⟩] fun cx => ?_
           refine sA_ 0x26f060c600000000e4 132 ⟨100,0,[sB 69 ((IntKind.wrap .i64 (BitVec.ofInt (IntKind.bits .i64) v9.Bare &&& BitVec.ofInt (IntKind.bits .i64) v9.Members).toNat) != v9.Bare),sI 66 v9.Bare,sA 65 7 3 2,sI 63 v9.Members,sA 62 7 3 1,sI 61 v9.Bare,sA 60 7 3 2,sI 54 v9.Bare,sA 53 7 3 2,sI 47 v9.Members,sA 46 7 3 1,sI 42 v9.Id,sA 41 7 3 0,sA 7 7 3 0,sI 6 y3,sI 5 (IntKind.wrap .i64 ((IntKind.wrap .i64 (1 * 2 ^ min (((IntKind.wrap .u64 x1) : Int)).toNat (IntKind.bits .i64))) - 1)),sA 2 2 2 0],[(7,(zC.row v9)),(2,(CV.frzRow (zD.row x0)))]⟩ ?_
           rw [h10]
           exact zFX n y3 v9 x1 x0 h11 cx
          refine nB_ ?_
          refine tK ?_
          refine eA 3 100 4 ?_
          exact jB mo8 (IntKind.wrap .i64 (y3 + 1)) H [6,5,2] [2]
         have H := zM h11 H
         obtain ⟨v13,ev13,H⟩ := bs H
         refine Tr.draws mixed 44 kr ⟨100,0,[sB 84 (decide (v13.Id ≥ v9.Id)),sI 6 y3,sI 5 (IntKind.wrap .i64 ((IntKind.wrap .i64 (1 * 2 ^ min (((IntKind.wrap .u64 x1) : Int)).toNat (IntKind.bits .i64))) - 1)),sA 2 2 2 0],[(2,(CV.frzRow (zD.row x0)))]⟩ (fun cx => ?_) ?_
         ·refine mA zU [(0,[]),(1,[2,8,15])] 42 [⟨[2,8,15],3,41,42⟩] fun cx => ?_
          refine mC zU 2 ?_
          refine vA [.rd,.rd,.rd] (qI n v9.Id 1 99 r10 er10) ?_
          refine fA ?_
          refine mA zU [(3,[]),(4,[])] 39 [⟨[2,8,15],3,41,42⟩] fun cx => ?_
          refine sA_ 41781441855716 132 ⟨100,0,[sB 45 (!r10),sI 42 v9.Id,sA 41 7 3 0,sA 7 7 3 0,sI 6 y3,sI 5 (IntKind.wrap .i64 ((IntKind.wrap .i64 (1 * 2 ^ min (((IntKind.wrap .u64 x1) : Int)).toNat (IntKind.bits .i64))) - 1)),sA 2 2 2 0],[(7,(zC.row v9)),(2,(CV.frzRow (zD.row x0)))]⟩ ?_
          rw [h7]
          refine mA zU [(5,[]),(6,[8,15]),(7,[])] 36 [⟨[8,15],3,46,47⟩,⟨[2,8,15],3,41,42⟩] fun cx => ?_
          refine mC zU 8 ?_
          refine vA [.rd,.rd,.rd] (qI n v9.Members 0 (IntKind.wrap .i64 ((IntKind.wrap .i64 (1 * 2 ^ min (((IntKind.wrap .u64 x1) : Int)).toNat (IntKind.bits .i64))) - 1)) r11 er11) ?_
          refine fA ?_
          refine mA zU [(9,[]),(10,[]),(11,[])] 32 [⟨[8,15],3,46,47⟩,⟨[2,8,15],3,41,42⟩] fun cx => ?_
          refine sA_ 4721302929670372 132 ⟨100,0,[sB 52 (!r11),sI 47 v9.Members,sA 46 7 3 1,sI 42 v9.Id,sA 41 7 3 0,sA 7 7 3 0,sI 6 y3,sI 5 (IntKind.wrap .i64 ((IntKind.wrap .i64 (1 * 2 ^ min (((IntKind.wrap .u64 x1) : Int)).toNat (IntKind.bits .i64))) - 1)),sA 2 2 2 0],[(7,(zC.row v9)),(2,(CV.frzRow (zD.row x0)))]⟩ ?_
          rw [h8]
          refine mA zU [(12,[]),(13,[15]),(14,[])] 29 [⟨[15],3,53,54⟩,⟨[8,15],3,46,47⟩,⟨[2,8,15],3,41,42⟩] fun cx => ?_
          refine mC zU 15 ?_
          refine vA [.rd,.rd,.rd] (qI n v9.Bare 0 (IntKind.wrap .i64 ((IntKind.wrap .i64 (1 * 2 ^ min (((IntKind.wrap .u64 x1) : Int)).toNat (IntKind.bits .i64))) - 1)) r12 er12) ?_
          refine fA ?_
          refine mA zU [(16,[]),(17,[]),(18,[])] 25 [⟨[15],3,53,54⟩,⟨[8,15],3,46,47⟩,⟨[2,8,15],3,41,42⟩] fun cx => ?_
          refine sA_ 0x860c600000000e4 132 ⟨100,0,[sB 59 (!r12),sI 54 v9.Bare,sA 53 7 3 2,sI 47 v9.Members,sA 46 7 3 1,sI 42 v9.Id,sA 41 7 3 0,sA 7 7 3 0,sI 6 y3,sI 5 (IntKind.wrap .i64 ((IntKind.wrap .i64 (1 * 2 ^ min (((IntKind.wrap .u64 x1) : Int)).toNat (IntKind.bits .i64))) - 1)),sA 2 2 2 0],[(7,(zC.row v9)),(2,(CV.frzRow (zD.row x0)))]⟩ ?_
          rw [h9]
          refine mA zU [(19,[]),(20,[]),(21,[]),(22,[]),(23,[]),(24,[]),(25,[]),(26,[]),(27,[]),(28,[])] 15 [⟨[],3,65,66⟩,⟨[],3,62,63⟩,⟨[],3,60,61⟩,⟨[15],3,53,54⟩,⟨[8,15],3,46,47⟩,⟨[2,8,15],3,41,42⟩] fun cx => ?_
          refine sA_ 0x26f060c600000000e4 132 ⟨100,0,[sB 69 ((IntKind.wrap .i64 (BitVec.ofInt (IntKind.bits .i64) v9.Bare &&& BitVec.ofInt (IntKind.bits .i64) v9.Members).toNat) != v9.Bare),sI 66 v9.Bare,sA 65 7 3 2,sI 63 v9.Members,sA 62 7 3 1,sI 61 v9.Bare,sA 60 7 3 2,sI 54 v9.Bare,sA 53 7 3 2,sI 47 v9.Members,sA 46 7 3 1,sI 42 v9.Id,sA 41 7 3 0,sA 7 7 3 0,sI 6 y3,sI 5 (IntKind.wrap .i64 ((IntKind.wrap .i64 (1 * 2 ^ min (((IntKind.wrap .u64 x1) : Int)).toNat (IntKind.bits .i64))) - 1)),sA 2 2 2 0],[(7,(zC.row v9)),(2,(CV.frzRow (zD.row x0)))]⟩ ?_
          rw [h10]
          exact zFY n y3 v9 x1 x0 v13 h11 ev13 cx
         refine sT ⟨100,0,[sB 84 (decide (v13.Id ≥ v9.Id)),sI 6 y3,sI 5 (IntKind.wrap .i64 ((IntKind.wrap .i64 (1 * 2 ^ min (((IntKind.wrap .u64 x1) : Int)).toNat (IntKind.bits .i64))) - 1)),sA 2 2 2 0],[(2,(CV.frzRow (zD.row x0)))]⟩ ?_
         cases h12 : (decide (v13.Id ≥ v9.Id))
         ·have H := zL h12 H
          refine nB_ ?_
          refine tK ?_
          refine eA 3 100 4 ?_
          exact jB mo8 (IntKind.wrap .i64 (y3 + 1)) H [6,5,2] [2]
         have H := zM h12 H
         refine tB_ ?_
         refine gA 1 16 0 ?_
         refine te ?_
         obtain rfl := si H
         have H := Ho8
         dsimp only at H
         exact fF H
        have H := zM h10 H
        refine Tr.draws mixed 44 kr ⟨100,0,[sB 84 true,sI 6 y3,sI 5 (IntKind.wrap .i64 ((IntKind.wrap .i64 (1 * 2 ^ min (((IntKind.wrap .u64 x1) : Int)).toNat (IntKind.bits .i64))) - 1)),sA 2 2 2 0],[(2,(CV.frzRow (zD.row x0)))]⟩ (fun cx => ?_) ?_
        ·refine mA zU [(0,[]),(1,[2,8,15])] 42 [⟨[2,8,15],3,41,42⟩] fun cx => ?_
         refine mC zU 2 ?_
         refine vA [.rd,.rd,.rd] (qI n v9.Id 1 99 r10 er10) ?_
         refine fA ?_
         refine mA zU [(3,[]),(4,[])] 39 [⟨[2,8,15],3,41,42⟩] fun cx => ?_
         refine sA_ 41781441855716 132 ⟨100,0,[sB 45 (!r10),sI 42 v9.Id,sA 41 7 3 0,sA 7 7 3 0,sI 6 y3,sI 5 (IntKind.wrap .i64 ((IntKind.wrap .i64 (1 * 2 ^ min (((IntKind.wrap .u64 x1) : Int)).toNat (IntKind.bits .i64))) - 1)),sA 2 2 2 0],[(7,(zC.row v9)),(2,(CV.frzRow (zD.row x0)))]⟩ ?_
         rw [h7]
         refine mA zU [(5,[]),(6,[8,15]),(7,[])] 36 [⟨[8,15],3,46,47⟩,⟨[2,8,15],3,41,42⟩] fun cx => ?_
         refine mC zU 8 ?_
         refine vA [.rd,.rd,.rd] (qI n v9.Members 0 (IntKind.wrap .i64 ((IntKind.wrap .i64 (1 * 2 ^ min (((IntKind.wrap .u64 x1) : Int)).toNat (IntKind.bits .i64))) - 1)) r11 er11) ?_
         refine fA ?_
         refine mA zU [(9,[]),(10,[]),(11,[])] 32 [⟨[8,15],3,46,47⟩,⟨[2,8,15],3,41,42⟩] fun cx => ?_
         refine sA_ 4721302929670372 132 ⟨100,0,[sB 52 (!r11),sI 47 v9.Members,sA 46 7 3 1,sI 42 v9.Id,sA 41 7 3 0,sA 7 7 3 0,sI 6 y3,sI 5 (IntKind.wrap .i64 ((IntKind.wrap .i64 (1 * 2 ^ min (((IntKind.wrap .u64 x1) : Int)).toNat (IntKind.bits .i64))) - 1)),sA 2 2 2 0],[(7,(zC.row v9)),(2,(CV.frzRow (zD.row x0)))]⟩ ?_
         rw [h8]
         refine mA zU [(12,[]),(13,[15]),(14,[])] 29 [⟨[15],3,53,54⟩,⟨[8,15],3,46,47⟩,⟨[2,8,15],3,41,42⟩] fun cx => ?_
         refine mC zU 15 ?_
         refine vA [.rd,.rd,.rd] (qI n v9.Bare 0 (IntKind.wrap .i64 ((IntKind.wrap .i64 (1 * 2 ^ min (((IntKind.wrap .u64 x1) : Int)).toNat (IntKind.bits .i64))) - 1)) r12 er12) ?_
         refine fA ?_
         refine mA zU [(16,[]),(17,[]),(18,[])] 25 [⟨[15],3,53,54⟩,⟨[8,15],3,46,47⟩,⟨[2,8,15],3,41,42⟩] fun cx => ?_
         refine sA_ 0x860c600000000e4 132 ⟨100,0,[sB 59 (!r12),sI 54 v9.Bare,sA 53 7 3 2,sI 47 v9.Members,sA 46 7 3 1,sI 42 v9.Id,sA 41 7 3 0,sA 7 7 3 0,sI 6 y3,sI 5 (IntKind.wrap .i64 ((IntKind.wrap .i64 (1 * 2 ^ min (((IntKind.wrap .u64 x1) : Int)).toNat (IntKind.bits .i64))) - 1)),sA 2 2 2 0],[(7,(zC.row v9)),(2,(CV.frzRow (zD.row x0)))]⟩ ?_
         rw [h9]
         refine mA zU [(19,[]),(20,[]),(21,[]),(22,[]),(23,[]),(24,[]),(25,[]),(26,[]),(27,[]),(28,[])] 15 [⟨[],3,65,66⟩,⟨[],3,62,63⟩,⟨[],3,60,61⟩,⟨[15],3,53,54⟩,⟨[8,15],3,46,47⟩,⟨[2,8,15],3,41,42⟩] fun cx => ?_
         refine sA_ 0x26f060c600000000e4 132 ⟨100,0,[sB 69 ((IntKind.wrap .i64 (BitVec.ofInt (IntKind.bits .i64) v9.Bare &&& BitVec.ofInt (IntKind.bits .i64) v9.Members).toNat) != v9.Bare),sI 66 v9.Bare,sA 65 7 3 2,sI 63 v9.Members,sA 62 7 3 1,sI 61 v9.Bare,sA 60 7 3 2,sI 54 v9.Bare,sA 53 7 3 2,sI 47 v9.Members,sA 46 7 3 1,sI 42 v9.Id,sA 41 7 3 0,sA 7 7 3 0,sI 6 y3,sI 5 (IntKind.wrap .i64 ((IntKind.wrap .i64 (1 * 2 ^ min (((IntKind.wrap .u64 x1) : Int)).toNat (IntKind.bits .i64))) - 1)),sA 2 2 2 0],[(7,(zC.row v9)),(2,(CV.frzRow (zD.row x0)))]⟩ ?_
         rw [h10]
         exact zFZ n v9 y3 x1 x0 cx
        refine tB_ ?_
        refine gA 1 16 0 ?_
        refine te ?_
        obtain rfl := si H
        have H := Ho8
        dsimp only at H
        exact fF H
       have H := zM h9 H
       refine Tr.draws mixed 44 kr ⟨100,0,[sB 84 true,sI 6 y3,sI 5 (IntKind.wrap .i64 ((IntKind.wrap .i64 (1 * 2 ^ min (((IntKind.wrap .u64 x1) : Int)).toNat (IntKind.bits .i64))) - 1)),sA 2 2 2 0],[(2,(CV.frzRow (zD.row x0)))]⟩ (fun cx => ?_) ?_
       ·refine mA zU [(0,[]),(1,[2,8,15])] 42 [⟨[2,8,15],3,41,42⟩] fun cx => ?_
        refine mC zU 2 ?_
        refine vA [.rd,.rd,.rd] (qI n v9.Id 1 99 r10 er10) ?_
        refine fA ?_
        refine mA zU [(3,[]),(4,[])] 39 [⟨[2,8,15],3,41,42⟩] fun cx => ?_
        refine sA_ 41781441855716 132 ⟨100,0,[sB 45 (!r10),sI 42 v9.Id,sA 41 7 3 0,sA 7 7 3 0,sI 6 y3,sI 5 (IntKind.wrap .i64 ((IntKind.wrap .i64 (1 * 2 ^ min (((IntKind.wrap .u64 x1) : Int)).toNat (IntKind.bits .i64))) - 1)),sA 2 2 2 0],[(7,(zC.row v9)),(2,(CV.frzRow (zD.row x0)))]⟩ ?_
        rw [h7]
        refine mA zU [(5,[]),(6,[8,15]),(7,[])] 36 [⟨[8,15],3,46,47⟩,⟨[2,8,15],3,41,42⟩] fun cx => ?_
        refine mC zU 8 ?_
        refine vA [.rd,.rd,.rd] (qI n v9.Members 0 (IntKind.wrap .i64 ((IntKind.wrap .i64 (1 * 2 ^ min (((IntKind.wrap .u64 x1) : Int)).toNat (IntKind.bits .i64))) - 1)) r11 er11) ?_
        refine fA ?_
        refine mA zU [(9,[]),(10,[]),(11,[])] 32 [⟨[8,15],3,46,47⟩,⟨[2,8,15],3,41,42⟩] fun cx => ?_
        refine sA_ 4721302929670372 132 ⟨100,0,[sB 52 (!r11),sI 47 v9.Members,sA 46 7 3 1,sI 42 v9.Id,sA 41 7 3 0,sA 7 7 3 0,sI 6 y3,sI 5 (IntKind.wrap .i64 ((IntKind.wrap .i64 (1 * 2 ^ min (((IntKind.wrap .u64 x1) : Int)).toNat (IntKind.bits .i64))) - 1)),sA 2 2 2 0],[(7,(zC.row v9)),(2,(CV.frzRow (zD.row x0)))]⟩ ?_
        rw [h8]
        refine mA zU [(12,[]),(13,[15]),(14,[])] 29 [⟨[15],3,53,54⟩,⟨[8,15],3,46,47⟩,⟨[2,8,15],3,41,42⟩] fun cx => ?_
        refine mC zU 15 ?_
        refine vA [.rd,.rd,.rd] (qI n v9.Bare 0 (IntKind.wrap .i64 ((IntKind.wrap .i64 (1 * 2 ^ min (((IntKind.wrap .u64 x1) : Int)).toNat (IntKind.bits .i64))) - 1)) r12 er12) ?_
        refine fA ?_
        refine mA zU [(16,[]),(17,[]),(18,[])] 25 [⟨[15],3,53,54⟩,⟨[8,15],3,46,47⟩,⟨[2,8,15],3,41,42⟩] fun cx => ?_
        refine sA_ 0x860c600000000e4 132 ⟨100,0,[sB 59 (!r12),sI 54 v9.Bare,sA 53 7 3 2,sI 47 v9.Members,sA 46 7 3 1,sI 42 v9.Id,sA 41 7 3 0,sA 7 7 3 0,sI 6 y3,sI 5 (IntKind.wrap .i64 ((IntKind.wrap .i64 (1 * 2 ^ min (((IntKind.wrap .u64 x1) : Int)).toNat (IntKind.bits .i64))) - 1)),sA 2 2 2 0],[(7,(zC.row v9)),(2,(CV.frzRow (zD.row x0)))]⟩ ?_
        rw [h9]
        refine mA zU [(19,[]),(20,[]),(21,[]),(22,[]),(23,[]),(24,[]),(25,[]),(26,[]),(27,[]),(28,[]),(29,[]),(30,[]),(31,[]),(32,[]),(33,[]),(34,[]),(35,[]),(36,[]),(37,[]),(38,[]),(39,[]),(40,[]),(41,[]),(42,[]),(43,[])] 0 [⟨[15],3,53,54⟩,⟨[8,15],3,46,47⟩,⟨[2,8,15],3,41,42⟩] fun cx => ?_
        exact mE zU [84,6,5,2] [2]
       refine tB_ ?_
       refine gA 1 16 0 ?_
       refine te ?_
       obtain rfl := si H
       have H := Ho8
       dsimp only at H
       exact fF H
      have H := zM h8 H
      refine Tr.draws mixed 44 kr ⟨100,0,[sB 84 true,sI 6 y3,sI 5 (IntKind.wrap .i64 ((IntKind.wrap .i64 (1 * 2 ^ min (((IntKind.wrap .u64 x1) : Int)).toNat (IntKind.bits .i64))) - 1)),sA 2 2 2 0],[(2,(CV.frzRow (zD.row x0)))]⟩ (fun cx => ?_) ?_
      ·refine mA zU [(0,[]),(1,[2,8])] 42 [⟨[2,8],3,41,42⟩] fun cx => ?_
       refine mC zU 2 ?_
       refine vA [.rd,.rd,.rd] (qI n v9.Id 1 99 r10 er10) ?_
       refine fA ?_
       refine mA zU [(3,[]),(4,[])] 39 [⟨[2,8],3,41,42⟩] fun cx => ?_
       refine sA_ 41781441855716 132 ⟨100,0,[sB 45 (!r10),sI 42 v9.Id,sA 41 7 3 0,sA 7 7 3 0,sI 6 y3,sI 5 (IntKind.wrap .i64 ((IntKind.wrap .i64 (1 * 2 ^ min (((IntKind.wrap .u64 x1) : Int)).toNat (IntKind.bits .i64))) - 1)),sA 2 2 2 0],[(7,(zC.row v9)),(2,(CV.frzRow (zD.row x0)))]⟩ ?_
       rw [h7]
       refine mA zU [(5,[]),(6,[8]),(7,[])] 36 [⟨[8],3,46,47⟩,⟨[2,8],3,41,42⟩] fun cx => ?_
       refine mC zU 8 ?_
       refine vA [.rd,.rd,.rd] (qI n v9.Members 0 (IntKind.wrap .i64 ((IntKind.wrap .i64 (1 * 2 ^ min (((IntKind.wrap .u64 x1) : Int)).toNat (IntKind.bits .i64))) - 1)) r11 er11) ?_
       refine fA ?_
       refine mA zU [(9,[]),(10,[]),(11,[])] 32 [⟨[8],3,46,47⟩,⟨[2,8],3,41,42⟩] fun cx => ?_
       refine sA_ 4721302929670372 132 ⟨100,0,[sB 52 (!r11),sI 47 v9.Members,sA 46 7 3 1,sI 42 v9.Id,sA 41 7 3 0,sA 7 7 3 0,sI 6 y3,sI 5 (IntKind.wrap .i64 ((IntKind.wrap .i64 (1 * 2 ^ min (((IntKind.wrap .u64 x1) : Int)).toNat (IntKind.bits .i64))) - 1)),sA 2 2 2 0],[(7,(zC.row v9)),(2,(CV.frzRow (zD.row x0)))]⟩ ?_
       rw [h8]
       refine mA zU [(12,[]),(13,[]),(14,[]),(15,[]),(16,[]),(17,[]),(18,[]),(19,[]),(20,[]),(21,[]),(22,[]),(23,[]),(24,[]),(25,[]),(26,[]),(27,[]),(28,[]),(29,[]),(30,[]),(31,[]),(32,[]),(33,[]),(34,[]),(35,[]),(36,[]),(37,[]),(38,[]),(39,[]),(40,[]),(41,[]),(42,[]),(43,[])] 0 [⟨[8],3,46,47⟩,⟨[2,8],3,41,42⟩] fun cx => ?_
       exact mE zU [84,6,5,2] [2]
      refine tB_ ?_
      refine gA 1 16 0 ?_
      refine te ?_
      obtain rfl := si H
      have H := Ho8
      dsimp only at H
      exact fF H
     have H := zM h7 H
     refine Tr.draws mixed 44 kr ⟨100,0,[sB 84 true,sI 6 y3,sI 5 (IntKind.wrap .i64 ((IntKind.wrap .i64 (1 * 2 ^ min (((IntKind.wrap .u64 x1) : Int)).toNat (IntKind.bits .i64))) - 1)),sA 2 2 2 0],[(2,(CV.frzRow (zD.row x0)))]⟩ (fun cx => ?_) ?_
     ·refine mA zU [(0,[]),(1,[2])] 42 [⟨[2],3,41,42⟩] fun cx => ?_
      refine mC zU 2 ?_
      refine vA [.rd,.rd,.rd] (qI n v9.Id 1 99 r10 er10) ?_
      refine fA ?_
      refine mA zU [(3,[]),(4,[])] 39 [⟨[2],3,41,42⟩] fun cx => ?_
      refine sA_ 41781441855716 132 ⟨100,0,[sB 45 (!r10),sI 42 v9.Id,sA 41 7 3 0,sA 7 7 3 0,sI 6 y3,sI 5 (IntKind.wrap .i64 ((IntKind.wrap .i64 (1 * 2 ^ min (((IntKind.wrap .u64 x1) : Int)).toNat (IntKind.bits .i64))) - 1)),sA 2 2 2 0],[(7,(zC.row v9)),(2,(CV.frzRow (zD.row x0)))]⟩ ?_
      rw [h7]
      refine mA zU [(5,[]),(6,[]),(7,[]),(8,[]),(9,[]),(10,[]),(11,[]),(12,[]),(13,[]),(14,[]),(15,[]),(16,[]),(17,[]),(18,[]),(19,[]),(20,[]),(21,[]),(22,[]),(23,[]),(24,[]),(25,[]),(26,[]),(27,[]),(28,[]),(29,[]),(30,[]),(31,[]),(32,[]),(33,[]),(34,[]),(35,[]),(36,[]),(37,[]),(38,[]),(39,[]),(40,[]),(41,[]),(42,[]),(43,[])] 0 [⟨[2],3,41,42⟩] fun cx => ?_
      exact mE zU [84,6,5,2] [2]
     refine tB_ ?_
     refine gA 1 16 0 ?_
     refine te ?_
     obtain rfl := si H
     have H := Ho8
     dsimp only at H
     exact fF H
    rintro _ H
    have H : (Z5 n x0) = some r := H
    unfold Z5 at H
    refine tS ?_
    refine gA 1 260 4 ?_
    obtain ⟨o5,eo5,Ho5⟩ := bs H
    clear H
    refine Tr.mid (ι := Unit) (fun v => ⟨100,0,[],[]⟩) (fun v => JE n = some r) ?_ ?_
    ·refine tB ?_
     refine Tr.loop (ι := Nat × (Int)) (fun v => ⟨100,0,[sI 8 v.2,sA 2 2 2 0],[(2,(CV.frzRow (zD.row x0)))]⟩) (fun v => qt n v.1 x0 v.2 = some o5) (fun v => v.1) (n,0) eo5 (St.sub_of [8,2] [2] kr) ?_
     rintro ⟨mo5,y4⟩ H
     have H : qt n mo5 x0 y4 = some o5 := H
     obtain _ | mo5 := mo5
     ·exact nN H
     rw [qt] at H
     refine tS ?_
     refine rA 3 ?_
     refine kF x0.Pv intRow ?_
     refine uA 1 0x20000000000000000000104 4 ?_
     obtain ⟨h4,H⟩ | ⟨h4,H⟩ := bC H
     ·refine nA h4 ?_
      refine Tr.exit ?_
      refine aJ ?_
      obtain rfl := si H
      have H := Ho5
      dsimp only at H
      exact jA () H [] []
     refine tA h4 ?_
     refine tK ?_
     refine tS ?_
     refine tB ?_
     obtain ⟨v6,ev6,H⟩ := bs H
     obtain ⟨r7,er7,H⟩ := bs H
     refine Tr.draws mixed 8 kr ⟨100,0,[sB 99 (decide (r7 < 0)),sI 8 y4,sA 2 2 2 0],[(2,(CV.frzRow (zD.row x0)))]⟩ (fun cx => ?_) ?_
     ·refine aA [(0,[6]),(1,[]),(2,[6]),(3,[])] 4 [⟨[6],38,93,94⟩,⟨[6],40,2,92⟩] fun cx => ?_
      refine aI tOk 4 38 0 94 95 96 none ⟨(.box 2),[(0,0)],1,false,1,(CV.frzEs (x0.Pv.map intRow))⟩ y4 [cI v6] _ kr kr kr kr kr kr rfl (Qb ev6) rfl (fun cx => ?_)
      refine aA [(5,[])] 2 [⟨[6],38,93,94⟩,⟨[6],40,2,92⟩] fun cx => ?_
      refine bA 6 ?_
      refine vA [.rd,.rd] (zE0 n x0 v6 r7 er7) ?_
      refine fA ?_
      refine aA [(7,[])] 0 [⟨[6],38,93,94⟩,⟨[6],40,2,92⟩] fun cx => ?_
      exact eE [99,8,2] [2]
     refine sT ⟨100,0,[sB 99 (decide (r7 < 0)),sI 8 y4,sA 2 2 2 0],[(2,(CV.frzRow (zD.row x0)))]⟩ ?_
     cases h5 : (decide (r7 < 0))
     ·have H := zL h5 H
      refine nB_ ?_
      refine tK ?_
      refine eA 3 260 4 ?_
      exact jB mo5 (IntKind.wrap .i64 (y4 + 1)) H [8,2] [2]
     have H := zM h5 H
     refine tB_ ?_
     refine gA 1 16 0 ?_
     refine te ?_
     obtain rfl := si H
     have H := Ho5
     dsimp only at H
     exact fF H
    rintro _ H
    have H : (JE n) = some r := H
    unfold JE at H
    refine gA 1 16 0 ?_
    exact te (fT H)
   refine tA h3 ?_
   refine gA 1 16 0 ?_
   exact te (fF H)
  have H := zM h2 H
  refine uA 5 16777222 4 ?_
  refine tB_ ?_
  refine gA 1 16 0 ?_
  exact te (fF H)
 have H := zM h1 H
 refine uA 12 16777222 4 ?_
 refine tB_ ?_
 refine gA 1 16 0 ?_
 exact te (fF H)
def qu (n : Nat) (x0 : zD) : Option (zD) :=
  (bif (decide (([] : List zC).length + x0.Rows.length ≤ 268435456)) then (bif (decide (([] : List Int).length + x0.Pv.length ≤ 268435456)) then (some (⟨(([] : List zC) ++ x0.Rows),(([] : List Int) ++ x0.Pv)⟩ : zD)) else none) else none)
theorem Qa (n : Nat) (x0 : zD) (r : zD) (H : qu n x0 = some r) : zK Try.prog 176 [.val true (CV.frzRow (zD.row x0))] [.val true (zD.row r)] [] := by
 refine cW Try.func176 (fun g d => sl [g 0,d 1] .ret) [.cell 2 40] fun cx => ?_
 unfold qu at H
 refine gA 2 6 6 ?_
 obtain ⟨hg1,H⟩ := gs H
 obtain ⟨hg2,H⟩ := gs H
 refine Tr.draws mixed 10 kr ⟨12,0,[sA 2 2 2 0],[(2,[cL 3 (([] : List zC) ++ x0.Rows) zC.row,cL 1 (([] : List Int) ++ x0.Pv) intRow])]⟩ (fun cx => ?_) ?_
 ·refine aA [(1,[]),(2,[3,7,8,9]),(5,[]),(6,[7,8,9])] 6 [⟨[7,8,9],38,8,9⟩,⟨[3,7,8,9],37,4,5⟩] fun cx => ?_
  refine AT.big2 tOk 0 4 kr (And.intro kr ?_) (And.intro kr ?_)
  ·refine lA 1 ?_
   refine fA ?_
   refine AT.big2 tOk 3 4 kr (And.intro kr ?_) (And.intro kr ?_)
   ·refine pD zC.row hg1 ?_
    refine fA ?_
    refine bA 4 ?_
    refine lA 1 ?_
    refine fA ?_
    refine bA 7 ?_
    refine pD intRow hg2 ?_
    refine fA ?_
    refine bA 8 ?_
    refine lA 1 ?_
    refine fA ?_
    refine bA 9 ?_
    refine lA 1 ?_
    refine fA ?_
    exact eE [2] [2]
   ·refine lA 1 ?_
    refine fA ?_
    refine bA 3 ?_
    refine pD zC.row hg1 ?_
    refine fA ?_
    refine bA 7 ?_
    refine pD intRow hg2 ?_
    refine fA ?_
    refine bA 8 ?_
    refine lA 1 ?_
    refine fA ?_
    refine bA 9 ?_
    refine lA 1 ?_
    refine fA ?_
    exact eE [2] [2]
  ·refine lA 1 ?_
   refine fA ?_
   refine bA 0 ?_
   refine lA 1 ?_
   refine fA ?_
   refine bA 3 ?_
   refine pD zC.row hg1 ?_
   refine fA ?_
   refine bA 7 ?_
   refine pD intRow hg2 ?_
   refine fA ?_
   refine bA 8 ?_
   refine lA 1 ?_
   refine fA ?_
   refine bA 9 ?_
   refine lA 1 ?_
   refine fA ?_
   exact eE [2] [2]
 exact te (fJ [(true,[cL 3 (([] : List zC) ++ x0.Rows) zC.row,cL 1 (([] : List Int) ++ x0.Pv) intRow])] H)
def YK (n : Nat) (x0 : zD) (x1 : zD) : Option (zD × Bool) :=
  ((qG n x0 (x1.Pv.length : Int)).bind fun r1 => (bif (!r1) then ((qu n x1).bind fun r2 => (some (r2,false))) else (some (x0,true))))
theorem zDT (n : Nat) (x0 : zD) (x1 : zD) (r : zD × Bool) (H : YK n x0 x1 = some r) : zK Try.prog 177 [.own true (zD.row x0),.val true (CV.frzRow (zD.row x1))] [.val true (zD.row r.1),.val false [.lit (.bool r.2)]] [] := by
 refine cW Try.func177 (fun g d => sl [g 0,sl [g 1] (cn 11 (sl [g 2] .ret) .skip),g 3] .ret) [.cell 4 40,.tmp 5] fun cx => ?_
 unfold YK at H
 refine gA 4 28 28 ?_
 refine tS ?_
 refine rA 3 ?_
 refine kF x1.Pv intRow ?_
 obtain ⟨r1,er1,H⟩ := bs H
 refine vB [.rd,.rd] [.box 2] (zAZ n x0 (x1.Pv.length : Int) r1 er1) (.inr (zZ (zI zP zk) zq)) ?_
 refine uA 1 2076 28 ?_
 obtain ⟨h1,H⟩ | ⟨h1,H⟩ := bC H
 ·refine nA h1 ?_
  refine tK ?_
  refine gA 3 48 16 ?_
  exact te (fJ [(true,(zD.row x0)),(false,[cB true])] H)
 refine tA h1 ?_
 refine rA 1 ?_
 obtain ⟨r2,er2,H⟩ := bs H
 refine vA [.rd] (Qa n x1 r2 er2) ?_
 refine uA 2 48 16 ?_
 exact te (fJ [(true,(zD.row r2)),(false,[cB false])] H)
def YR (n : Nat) (x0 : zD) (x1 : Int) (x2 : Int) : Option (zD × Bool) :=
  ((qG n x0 (x0.Pv.length : Int)).bind fun r1 => (bif (!r1) then ((qu n x0).bind fun r7 => (some (r7,false))) else ((zX n x1 0 (IntKind.wrap .i64 ((x0.Pv.length : Int) - 1))).bind fun r2 => (bif (!r2) then ((qu n x0).bind fun r6 => (some (r6,false))) else ((qu n x0).bind fun r3 => ((idx r3.Pv x1).bind fun v4 => ((YK n (⟨r3.Rows,(r3.Pv.set (x1.toNat) x2)⟩ : zD) x0).bind fun r5 => (some (r5.1,r5.2)))))))))
theorem zGr (n : Nat) (x0 : zD) (x1 : Int) (x2 : Int) (r : zD × Bool) (H : YR n x0 x1 x2 = some r) : zK Try.prog 149 [.val true (CV.frzRow (zD.row x0)),.val false [.lit (.int .i64 x1)],.val false [.lit (.int .i64 x2)]] [.val true (zD.row r.1),.val false [.lit (.bool r.2)]] [] := by
 refine cW Try.func149 (fun g d => sl [g 0,sl [g 1] (cn 23 (sl [g 2] .ret) .skip),g 3,g 4,g 5] .ret) [.cell 6 40,.tmp 7] fun cx => ?_
 unfold YR at H
 refine gA 3 78 72 ?_
 refine tS ?_
 refine rA 3 ?_
 refine kF x0.Pv intRow ?_
 obtain ⟨r1,er1,H⟩ := bs H
 refine vA [.rd,.rd] (zAZ n x0 (x0.Pv.length : Int) r1 er1) ?_
 refine lA 2 ?_
 refine sL 32846 72 ⟨38,0,[sB 15 (!r1),sA 6 6 2 0,sA 3 3 2 0,sI 1 x1,sI 2 x2],[(6,[cL 3 ([] : List zC) zC.row,cL 1 ([] : List Int) intRow]),(3,(CV.frzRow (zD.row x0)))]⟩ ?_
 cases h1 : (!r1)
 ·have H := zL h1 H
  refine lA 3 ?_
  refine kF x0.Pv intRow ?_
  refine lA 1 ?_
  obtain ⟨r2,er2,H⟩ := bs H
  refine vA [.rd,.rd,.rd] (qI n x1 0 (IntKind.wrap .i64 ((x0.Pv.length : Int) - 1)) r2 er2) ?_
  refine uA 2 8388686 72 ?_
  obtain ⟨h2,H⟩ | ⟨h2,H⟩ := bC H
  ·refine nA h2 ?_
   refine tK ?_
   refine rA 1 ?_
   obtain ⟨r3,er3,H⟩ := bs H
   refine vA [.rd] (Qa n x0 r3 er3) ?_
   refine uA 2 334 328 ?_
   refine rA 4 ?_
   obtain ⟨v4,ev4,H⟩ := bs H
   refine oA intRow ev4 ?_
   refine LAt.storeB tOk (t := 3) (ty := 0) (ad := (.tmp 32)) (x := (.tmp 31)) (g := none) (tI 3) false [cI x2] 8 1 (x1.toNat) 1 0 1 r3.Pv intRow v4 x2 kr kr kr kr kr kr kr kr (qc ev4).2 kr kr kr kr ?_
   refine dA 328 328 ?_
   refine rA 2 ?_
   obtain ⟨r5,er5,H⟩ := bs H
   refine vA [.own,.rd] (zDT n (⟨r3.Rows,(r3.Pv.set (x1.toNat) x2)⟩ : zD) x0 r5 er5) ?_
   refine uA 4 192 64 ?_
   exact te (fJ [(true,(zD.row r5.1)),(false,[cB r5.2])] H)
  refine tA h2 ?_
  refine rA 1 ?_
  obtain ⟨r6,er6,H⟩ := bs H
  refine vA [.rd] (Qa n x0 r6 er6) ?_
  refine uA 2 192 64 ?_
  exact te (fJ [(true,(zD.row r6)),(false,[cB false])] H)
 have H := zM h1 H
 refine uA 8 8388686 72 ?_
 refine tB_ ?_
 refine rA 1 ?_
 obtain ⟨r7,er7,H⟩ := bs H
 refine vA [.rd] (Qa n x0 r7 er7) ?_
 refine uA 2 192 64 ?_
 exact te (fJ [(true,(zD.row r7)),(false,[cB false])] H)
def Qr (n : Nat) (x0 : zD) (x1 : Int) : Option (zD × Bool) :=
  ((QV n x0 x1).bind fun r1 => ((qG n x0 (x0.Pv.length : Int)).bind fun r2 => (bif (!r2) then ((qu n x0).bind fun r10 => (some (r10,false))) else (bif (decide (r1 < 0)) then ((qu n x0).bind fun r9 => (some (r9,false))) else ((qu n x0).bind fun r3 => (bif (decide ((0 : Int) ≤ 0) && (decide ((0 : Int) ≤ r1) && decide ((r1 : Int) ≤ (x0.Rows.length : Int)))) then (bif (decide (([] : List zC).length + ((x0.Rows.drop ((0 : Int)).toNat).take (((r1 : Int)).toNat - ((0 : Int)).toNat)).length ≤ 268435456)) then (bif (decide ((0 : Int) ≤ (IntKind.wrap .i64 (r1 + 1))) && (decide (((IntKind.wrap .i64 (r1 + 1)) : Int) ≤ (x0.Rows.length : Int)) && decide (((x0.Rows.length : Int) : Int) ≤ (x0.Rows.length : Int)))) then (bif (decide ((([] : List zC) ++ ((x0.Rows.drop ((0 : Int)).toNat).take (((r1 : Int)).toNat - ((0 : Int)).toNat))).length + ((x0.Rows.drop (((IntKind.wrap .i64 (r1 + 1)) : Int)).toNat).take ((((x0.Rows.length : Int) : Int)).toNat - (((IntKind.wrap .i64 (r1 + 1)) : Int)).toNat)).length ≤ 268435456)) then ((YK n (⟨((([] : List zC) ++ ((x0.Rows.drop ((0 : Int)).toNat).take (((r1 : Int)).toNat - ((0 : Int)).toNat))) ++ ((x0.Rows.drop (((IntKind.wrap .i64 (r1 + 1)) : Int)).toNat).take ((((x0.Rows.length : Int) : Int)).toNat - (((IntKind.wrap .i64 (r1 + 1)) : Int)).toNat))),r3.Pv⟩ : zD) x0).bind fun r8 => (some (r8.1,r8.2))) else none) else none) else none) else none))))))
def zJE : Tab := ⟨14,[0,0,2,0,12,17,0,64,0,256,640,1056,4095,8191],[0,0,2,0,12,17,0,64,0,256,640,1056,0,6144],[0,0,2,0,14,31,0,64,0,256,960,2047,4095,8191]⟩
theorem zg : qF (rg Try.f150 5) zJE = true := kr
theorem zEv (n : Nat) (x0 : zD) (r1 : Int) (r3 : zD) (hg4 : (decide ((0 : Int) ≤ 0) && (decide ((0 : Int) ≤ r1) && decide ((r1 : Int) ≤ (x0.Rows.length : Int)))) = true) (hg5 : (decide (([] : List zC).length + ((x0.Rows.drop ((0 : Int)).toNat).take (((r1 : Int)).toNat - ((0 : Int)).toNat)).length ≤ 268435456)) = true) (hg6 : (decide ((0 : Int) ≤ (IntKind.wrap .i64 (r1 + 1))) && (decide (((IntKind.wrap .i64 (r1 + 1)) : Int) ≤ (x0.Rows.length : Int)) && decide (((x0.Rows.length : Int) : Int) ≤ (x0.Rows.length : Int)))) = true) (hg7 : (decide ((([] : List zC) ++ ((x0.Rows.drop ((0 : Int)).toNat).take (((r1 : Int)).toNat - ((0 : Int)).toNat))).length + ((x0.Rows.drop (((IntKind.wrap .i64 (r1 + 1)) : Int)).toNat).take ((((x0.Rows.length : Int) : Int)).toNat - (((IntKind.wrap .i64 (r1 + 1)) : Int)).toNat)).length ≤ 268435456)) = true) (cx : Cx) : AT Try.prog cx (rg Try.f150 5) [] 14 [] ⟨43,0,[sA 7 7 2 0,sI 6 r1,sA 4 4 2 0,sA 2 2 2 0],[(7,(zD.row r3)),(4,[cL 3 ([] : List zC) zC.row,cL 1 ([] : List Int) intRow]),(2,(CV.frzRow (zD.row x0)))]⟩ (fun s => s = ⟨43,0,[sA 7 7 2 0,sA 4 4 2 0,sA 2 2 2 0],[(7,[cL 3 ((([] : List zC) ++ ((x0.Rows.drop ((0 : Int)).toNat).take (((r1 : Int)).toNat - ((0 : Int)).toNat))) ++ ((x0.Rows.drop (((IntKind.wrap .i64 (r1 + 1)) : Int)).toNat).take ((((x0.Rows.length : Int) : Int)).toNat - (((IntKind.wrap .i64 (r1 + 1)) : Int)).toNat))) zC.row,cL 1 r3.Pv intRow]),(4,[cL 3 ([] : List zC) zC.row,cL 1 ([] : List Int) intRow]),(2,(CV.frzRow (zD.row x0)))]⟩) := by
 refine mA zg [(1,[]),(2,[4,5,11,13]),(3,[]),(6,[]),(7,[10,11,13]),(8,[]),(9,[])] 7 [⟨[10,11,13],37,31,32⟩,⟨[4,5,11,13],37,26,27⟩] fun cx => ?_
 refine mB3 tOk zg 0 4 10 kr (And.intro kr ?_) (And.intro kr ?_) (And.intro kr ?_)
 ·refine lA 1 ?_
  refine fA ?_
  refine mB2 tOk zg 4 10 kr (And.intro kr ?_) (And.intro kr ?_)
  ·refine LAt.cutG tOk (t := 37) (ty := 37) (e := 114) (x := (.tmp 27)) (lo := none) (hi := (some (.tmp 28))) (d := 29) (g := none) (tI 114) zC.row x0.Rows ⟨(.box 2),[(0,0)],0,false,3,(CV.frzEs (x0.Rows.map zC.row))⟩ 0 r1 kr kr kr kr kr kr rfl kr rfl kr kr hg4 ?_
   refine fA ?_
   refine mB2 tOk zg 5 10 kr (And.intro kr ?_) (And.intro kr ?_)
   ·refine pD zC.row hg5 ?_
    refine fA ?_
    refine mC zg 10 ?_
    refine LAt.cutG tOk (t := 37) (ty := 37) (e := 114) (x := (.tmp 32)) (lo := (some (.tmp 34))) (hi := none) (d := 35) (g := none) (tI 114) zC.row x0.Rows ⟨(.box 2),[(0,0)],0,false,3,(CV.frzEs (x0.Rows.map zC.row))⟩ (IntKind.wrap .i64 (r1 + 1)) (x0.Rows.length : Int) kr kr kr kr kr kr rfl kr rfl kr kr hg6 ?_
    refine fA ?_
    refine mC zg 11 ?_
    refine pD zC.row hg7 ?_
    refine fA ?_
    refine mA zg [(12,[])] 1 [⟨[10,11,13],37,31,32⟩,⟨[4,5,11,13],37,26,27⟩] fun cx => ?_
    refine mC zg 13 ?_
    refine lA 1 ?_
    refine fA ?_
    exact mE zg [7,4,2] [7,4,2]
   ·refine LAt.cutG tOk (t := 37) (ty := 37) (e := 114) (x := (.tmp 32)) (lo := (some (.tmp 34))) (hi := none) (d := 35) (g := none) (tI 114) zC.row x0.Rows ⟨(.box 2),[(0,0)],0,false,3,(CV.frzEs (x0.Rows.map zC.row))⟩ (IntKind.wrap .i64 (r1 + 1)) (x0.Rows.length : Int) kr kr kr kr kr kr rfl kr rfl kr kr hg6 ?_
    refine fA ?_
    refine mC zg 5 ?_
    refine pD zC.row hg5 ?_
    refine fA ?_
    refine mC zg 11 ?_
    refine pD zC.row hg7 ?_
    refine fA ?_
    refine mA zg [(12,[])] 1 [⟨[10,11,13],37,31,32⟩,⟨[4,5,11,13],37,26,27⟩] fun cx => ?_
    refine mC zg 13 ?_
    refine lA 1 ?_
    refine fA ?_
    exact mE zg [7,4,2] [7,4,2]
  ·refine LAt.cutG tOk (t := 37) (ty := 37) (e := 114) (x := (.tmp 32)) (lo := (some (.tmp 34))) (hi := none) (d := 35) (g := none) (tI 114) zC.row x0.Rows ⟨(.box 2),[(0,0)],0,false,3,(CV.frzEs (x0.Rows.map zC.row))⟩ (IntKind.wrap .i64 (r1 + 1)) (x0.Rows.length : Int) kr kr kr kr kr kr rfl kr rfl kr kr hg6 ?_
   refine fA ?_
   refine mC zg 4 ?_
   refine LAt.cutG tOk (t := 37) (ty := 37) (e := 114) (x := (.tmp 27)) (lo := none) (hi := (some (.tmp 28))) (d := 29) (g := none) (tI 114) zC.row x0.Rows ⟨(.box 2),[(0,0)],0,false,3,(CV.frzEs (x0.Rows.map zC.row))⟩ 0 r1 kr kr kr kr kr kr rfl kr rfl kr kr hg4 ?_
   refine fA ?_
   refine mC zg 5 ?_
   refine pD zC.row hg5 ?_
   refine fA ?_
   refine mC zg 11 ?_
   refine pD zC.row hg7 ?_
   refine fA ?_
   refine mA zg [(12,[])] 1 [⟨[10,11,13],37,31,32⟩,⟨[4,5,11,13],37,26,27⟩] fun cx => ?_
   refine mC zg 13 ?_
   refine lA 1 ?_
   refine fA ?_
   exact mE zg [7,4,2] [7,4,2]
 ·refine LAt.cutG tOk (t := 37) (ty := 37) (e := 114) (x := (.tmp 27)) (lo := none) (hi := (some (.tmp 28))) (d := 29) (g := none) (tI 114) zC.row x0.Rows ⟨(.box 2),[(0,0)],0,false,3,(CV.frzEs (x0.Rows.map zC.row))⟩ 0 r1 kr kr kr kr kr kr rfl kr rfl kr kr hg4 ?_
  refine fA ?_
  refine mB2 tOk zg 0 10 kr (And.intro kr ?_) (And.intro kr ?_)
  ·refine lA 1 ?_
   refine fA ?_
   refine mB2 tOk zg 5 10 kr (And.intro kr ?_) (And.intro kr ?_)
   ·refine pD zC.row hg5 ?_
    refine fA ?_
    refine mC zg 10 ?_
    refine LAt.cutG tOk (t := 37) (ty := 37) (e := 114) (x := (.tmp 32)) (lo := (some (.tmp 34))) (hi := none) (d := 35) (g := none) (tI 114) zC.row x0.Rows ⟨(.box 2),[(0,0)],0,false,3,(CV.frzEs (x0.Rows.map zC.row))⟩ (IntKind.wrap .i64 (r1 + 1)) (x0.Rows.length : Int) kr kr kr kr kr kr rfl kr rfl kr kr hg6 ?_
    refine fA ?_
    refine mC zg 11 ?_
    refine pD zC.row hg7 ?_
    refine fA ?_
    refine mA zg [(12,[])] 1 [⟨[10,11,13],37,31,32⟩,⟨[4,5,11,13],37,26,27⟩] fun cx => ?_
    refine mC zg 13 ?_
    refine lA 1 ?_
    refine fA ?_
    exact mE zg [7,4,2] [7,4,2]
   ·refine LAt.cutG tOk (t := 37) (ty := 37) (e := 114) (x := (.tmp 32)) (lo := (some (.tmp 34))) (hi := none) (d := 35) (g := none) (tI 114) zC.row x0.Rows ⟨(.box 2),[(0,0)],0,false,3,(CV.frzEs (x0.Rows.map zC.row))⟩ (IntKind.wrap .i64 (r1 + 1)) (x0.Rows.length : Int) kr kr kr kr kr kr rfl kr rfl kr kr hg6 ?_
    refine fA ?_
    refine mC zg 5 ?_
    refine pD zC.row hg5 ?_
    refine fA ?_
    refine mC zg 11 ?_
    refine pD zC.row hg7 ?_
    refine fA ?_
    refine mA zg [(12,[])] 1 [⟨[10,11,13],37,31,32⟩,⟨[4,5,11,13],37,26,27⟩] fun cx => ?_
    refine mC zg 13 ?_
    refine lA 1 ?_
    refine fA ?_
    exact mE zg [7,4,2] [7,4,2]
  ·refine LAt.cutG tOk (t := 37) (ty := 37) (e := 114) (x := (.tmp 32)) (lo := (some (.tmp 34))) (hi := none) (d := 35) (g := none) (tI 114) zC.row x0.Rows ⟨(.box 2),[(0,0)],0,false,3,(CV.frzEs (x0.Rows.map zC.row))⟩ (IntKind.wrap .i64 (r1 + 1)) (x0.Rows.length : Int) kr kr kr kr kr kr rfl kr rfl kr kr hg6 ?_
   refine fA ?_
   refine mC zg 0 ?_
   refine lA 1 ?_
   refine fA ?_
   refine mC zg 5 ?_
   refine pD zC.row hg5 ?_
   refine fA ?_
   refine mC zg 11 ?_
   refine pD zC.row hg7 ?_
   refine fA ?_
   refine mA zg [(12,[])] 1 [⟨[10,11,13],37,31,32⟩,⟨[4,5,11,13],37,26,27⟩] fun cx => ?_
   refine mC zg 13 ?_
   refine lA 1 ?_
   refine fA ?_
   exact mE zg [7,4,2] [7,4,2]
 ·refine LAt.cutG tOk (t := 37) (ty := 37) (e := 114) (x := (.tmp 32)) (lo := (some (.tmp 34))) (hi := none) (d := 35) (g := none) (tI 114) zC.row x0.Rows ⟨(.box 2),[(0,0)],0,false,3,(CV.frzEs (x0.Rows.map zC.row))⟩ (IntKind.wrap .i64 (r1 + 1)) (x0.Rows.length : Int) kr kr kr kr kr kr rfl kr rfl kr kr hg6 ?_
  refine fA ?_
  refine mB2 tOk zg 0 4 kr (And.intro kr ?_) (And.intro kr ?_)
  ·refine lA 1 ?_
   refine fA ?_
   refine mC zg 4 ?_
   refine LAt.cutG tOk (t := 37) (ty := 37) (e := 114) (x := (.tmp 27)) (lo := none) (hi := (some (.tmp 28))) (d := 29) (g := none) (tI 114) zC.row x0.Rows ⟨(.box 2),[(0,0)],0,false,3,(CV.frzEs (x0.Rows.map zC.row))⟩ 0 r1 kr kr kr kr kr kr rfl kr rfl kr kr hg4 ?_
   refine fA ?_
   refine mC zg 5 ?_
   refine pD zC.row hg5 ?_
   refine fA ?_
   refine mC zg 11 ?_
   refine pD zC.row hg7 ?_
   refine fA ?_
   refine mA zg [(12,[])] 1 [⟨[10,11,13],37,31,32⟩,⟨[4,5,11,13],37,26,27⟩] fun cx => ?_
   refine mC zg 13 ?_
   refine lA 1 ?_
   refine fA ?_
   exact mE zg [7,4,2] [7,4,2]
  ·refine LAt.cutG tOk (t := 37) (ty := 37) (e := 114) (x := (.tmp 27)) (lo := none) (hi := (some (.tmp 28))) (d := 29) (g := none) (tI 114) zC.row x0.Rows ⟨(.box 2),[(0,0)],0,false,3,(CV.frzEs (x0.Rows.map zC.row))⟩ 0 r1 kr kr kr kr kr kr rfl kr rfl kr kr hg4 ?_
   refine fA ?_
   refine mC zg 0 ?_
   refine lA 1 ?_
   refine fA ?_
   refine mC zg 5 ?_
   refine pD zC.row hg5 ?_
   refine fA ?_
   refine mC zg 11 ?_
   refine pD zC.row hg7 ?_
   refine fA ?_
   refine mA zg [(12,[])] 1 [⟨[10,11,13],37,31,32⟩,⟨[4,5,11,13],37,26,27⟩] fun cx => ?_
   refine mC zg 13 ?_
   refine lA 1 ?_
   refine fA ?_
   exact mE zg [7,4,2] [7,4,2]
theorem zGq (n : Nat) (x0 : zD) (x1 : Int) (r : zD × Bool) (H : Qr n x0 x1 = some r) : zK Try.prog 150 [.val true (CV.frzRow (zD.row x0)),.val false [.lit (.int .i64 x1)]] [.val true (zD.row r.1),.val false [.lit (.bool r.2)]] [] := by
 refine cW Try.func150 (fun g d => sl [g 0,g 1,sl [g 2] (cn 20 (sl [g 3] .ret) .skip),g 4,d 5,g 6] .ret) [.cell 4 40,.tmp 5] fun cx => ?_
 unfold Qr at H
 refine gA 3 22 20 ?_
 refine rA 2 ?_
 obtain ⟨r1,er1,H⟩ := bs H
 refine vA [.rd,.rd] (zE0 n x0 x1 r1 er1) ?_
 refine uA 1 84 20 ?_
 refine tS ?_
 refine rA 3 ?_
 refine kF x0.Pv intRow ?_
 obtain ⟨r2,er2,H⟩ := bs H
 refine vA [.rd,.rd] (zAZ n x0 (x0.Pv.length : Int) r2 er2) ?_
 refine lA 2 ?_
 refine sL 131156 20 ⟨43,0,[sB 17 (!r2),sI 6 r1,sA 4 4 2 0,sA 2 2 2 0],[(4,[cL 3 ([] : List zC) zC.row,cL 1 ([] : List Int) intRow]),(2,(CV.frzRow (zD.row x0)))]⟩ ?_
 cases h1 : (!r2)
 ·have H := zL h1 H
  refine uA 3 1048660 20 ?_
  obtain ⟨h2,H⟩ | ⟨h2,H⟩ := bC H
  ·refine nA h2 ?_
   refine tK ?_
   refine rA 1 ?_
   obtain ⟨r3,er3,H⟩ := bs H
   refine vA [.rd] (Qa n x0 r3 er3) ?_
   refine uA 2 212 148 ?_
   obtain ⟨hg4,H⟩ := gs H
   obtain ⟨hg5,H⟩ := gs H
   obtain ⟨hg6,H⟩ := gs H
   obtain ⟨hg7,H⟩ := gs H
   refine sT ⟨43,0,[sA 7 7 2 0,sI 6 r1,sA 4 4 2 0,sA 2 2 2 0],[(7,(zD.row r3)),(4,[cL 3 ([] : List zC) zC.row,cL 1 ([] : List Int) intRow]),(2,(CV.frzRow (zD.row x0)))]⟩ ?_
   refine Tr.draws mixed 14 kr ⟨43,0,[sA 7 7 2 0,sA 4 4 2 0,sA 2 2 2 0],[(7,[cL 3 ((([] : List zC) ++ ((x0.Rows.drop ((0 : Int)).toNat).take (((r1 : Int)).toNat - ((0 : Int)).toNat))) ++ ((x0.Rows.drop (((IntKind.wrap .i64 (r1 + 1)) : Int)).toNat).take ((((x0.Rows.length : Int) : Int)).toNat - (((IntKind.wrap .i64 (r1 + 1)) : Int)).toNat))) zC.row,cL 1 r3.Pv intRow]),(4,[cL 3 ([] : List zC) zC.row,cL 1 ([] : List Int) intRow]),(2,(CV.frzRow (zD.row x0)))]⟩ (zEv n x0 r1 r3 hg4 hg5 hg6 hg7) ?_
   refine rA 2 ?_
   obtain ⟨r8,er8,H⟩ := bs H
   refine vA [.own,.rd] (zDT n (⟨((([] : List zC) ++ ((x0.Rows.drop ((0 : Int)).toNat).take (((r1 : Int)).toNat - ((0 : Int)).toNat))) ++ ((x0.Rows.drop (((IntKind.wrap .i64 (r1 + 1)) : Int)).toNat).take ((((x0.Rows.length : Int) : Int)).toNat - (((IntKind.wrap .i64 (r1 + 1)) : Int)).toNat))),r3.Pv⟩ : zD) x0 r8 er8) ?_
   refine uA 4 48 16 ?_
   exact te (fJ [(true,(zD.row r8.1)),(false,[cB r8.2])] H)
  refine tA h2 ?_
  refine rA 1 ?_
  obtain ⟨r9,er9,H⟩ := bs H
  refine vA [.rd] (Qa n x0 r9 er9) ?_
  refine uA 2 48 16 ?_
  exact te (fJ [(true,(zD.row r9)),(false,[cB false])] H)
 have H := zM h1 H
 refine uA 3 1048660 20 ?_
 refine tB_ ?_
 refine rA 1 ?_
 obtain ⟨r10,er10,H⟩ := bs H
 refine vA [.rd] (Qa n x0 r10 er10) ?_
 refine uA 2 48 16 ?_
 exact te (fJ [(true,(zD.row r10)),(false,[cB false])] H)
def Y3 (n : Nat) (x0 : Src) (x1 : Int) : Option (zC × Src) :=
  (bif (decide ((0 : Int) ≤ (IntKind.wrap .u64 x1))) then ((zJ n x0 (IntKind.wrap .i64 ((IntKind.wrap .i64 ((IntKind.wrap .i64 (1 * 2 ^ min (((IntKind.wrap .u64 x1) : Int)).toNat (IntKind.bits .i64))) - 1)) + 1))).bind fun r2 => ((ze n r2.2 [1,2,3,2]).bind fun r3 => ((zJ n r3.2 (IntKind.wrap .i64 ((IntKind.wrap .i64 ((IntKind.wrap .i64 (1 * 2 ^ min (((IntKind.wrap .u64 x1) : Int)).toNat (IntKind.bits .i64))) - 1)) + 1))).bind fun r4 => (some ((⟨r3.1,r2.1,(IntKind.wrap .i64 (BitVec.ofInt (IntKind.bits .i64) r2.1 &&& BitVec.ofInt (IntKind.bits .i64) r4.1).toNat)⟩ : zC),r4.2))))) else none)
noncomputable abbrev zHc (k : Nat) := Rg Try.f152 k
theorem zHE (n : Nat) (x0 : Src) (x1 : Int) (r : zC × Src) (H : Y3 n x0 x1 = some r) : zK Try.prog 152 [.ptr (CV.frzRow (Src.row x0)),.val false [.lit (.int .i64 x1)]] [.val true (zC.row r.1)] [(0,(CV.frzRow (Src.row r.2)))] := by
 refine zK.of_body tOk Try.func152 rfl (c := (.seq (zHc 0) (.seq (zHc 1) (.seq (zHc 2) (.seq (zHc 3) .ret))))) kr (Nat.le_of_ble_eq_true kr) 1 (rs := [.cell 4 114]) rfl [] .nil [(true,(zC.row r.1))] [] [(0,(CV.frzRow (Src.row r.2)))] fun cx => ?_
 show Tr _ _ _ ⟨26,1,[sA 0 0 3 0,sI 1 x1],[(0,(CV.frzRow (Src.row x0)))]⟩ _
 unfold Y3 at H
 refine gA 1 19 17 ?_
 refine rA 2 ?_
 obtain ⟨hg1,H⟩ := gs H
 refine LAt.binC tOk (op := .shl) (t := 3) (ty := 103) (ty' := 3) (x := (.const (.int .i64 1))) (y := (.tmp 8)) (d := 9) (g := none) (.int .i64 1) (.int .u64 (IntKind.wrap .u64 x1)) (.int .i64 (IntKind.wrap .i64 (1 * 2 ^ min (((IntKind.wrap .u64 x1) : Int)).toNat (IntKind.bits .i64)))) _ kr kr kr kr kr (φ := (0 : Int) ≤ (IntKind.wrap .u64 x1)) kr (of_decide_eq_true hg1) rfl ?_
 refine uA 2 49 17 ?_
 refine rA 3 ?_
 obtain ⟨r2,er2,H⟩ := bs H
 refine LAt.callL tOk [.lend,.rd] (f := 49) (av := #[.tmp 11,.tmp 13]) (ats := #[92,3]) (d := (some 14)) (ty := 3) (g := none) kr kr kr [] (zO n x0 (IntKind.wrap .i64 ((IntKind.wrap .i64 ((IntKind.wrap .i64 (1 * 2 ^ min (((IntKind.wrap .u64 x1) : Int)).toNat (IntKind.bits .i64))) - 1)) + 1)) r2 er2) kr (.inl rfl) ?_
 refine uA 1 113 17 ?_
 refine rA 2 ?_
 obtain ⟨r3,er3,H⟩ := bs H
 refine LAt.callL tOk [.lend,.rd] (f := 51) (av := #[.tmp 15,.tmp 16]) (ats := #[92,38]) (d := (some 17)) (ty := 3) (g := none) kr kr kr [] (zu n r2.2 [1,2,3,2] r3 er3) kr (.inl rfl) ?_
 refine lA 5 ?_
 obtain ⟨r4,er4,H⟩ := bs H
 refine LAt.callL tOk [.lend,.rd] (f := 49) (av := #[.tmp 20,.tmp 22]) (ats := #[92,3]) (d := (some 23)) (ty := 3) (g := none) kr kr kr [] (zO n r3.2 (IntKind.wrap .i64 ((IntKind.wrap .i64 ((IntKind.wrap .i64 (1 * 2 ^ min (((IntKind.wrap .u64 x1) : Int)).toNat (IntKind.bits .i64))) - 1)) + 1)) r4 er4) kr (.inl rfl) ?_
 refine uA 3 17 17 ?_
 refine te ?_
 obtain rfl := si H
 exact Fin.ofY _ [(true,[cI r3.1,cI r2.1,cI (IntKind.wrap .i64 (BitVec.ofInt (IntKind.bits .i64) r2.1 &&& BitVec.ofInt (IntKind.bits .i64) r4.1).toNat)])] [] _ [] _ [(0,(CV.frzRow (Src.row r4.2)))] kr rfl rfl rfl kr kr kr kr rfl rfl rfl
def YV (n : Nat) (x0 : zD) (x1 : zC) (y5 : Bool) (y6 : (List zC)) : Option (zD) :=
  (bif (!y5) then (bif (decide (y6.length + [x1].length ≤ 268435456)) then (some (⟨(y6 ++ [x1]),(([] : List Int) ++ x0.Pv)⟩ : zD)) else none) else (some (⟨y6,(([] : List Int) ++ x0.Pv)⟩ : zD)))
def Zz (n : Nat) (k : (Int × Bool × (List zC) → Option ((Bool × (List zC)) ⊕ (zD)))) (x0 : zD) (x1 : zC) (y2 : Int) (y9 : Bool) (y10 : Bool) (y11 : Bool) (y12 : Bool) (y13 : (List zC)) : Option ((Bool × (List zC)) ⊕ (zD)) :=
  ((idx x0.Rows y2).bind fun v14 => (bif (v14.Id != x1.Id) then ((idx x0.Rows y2).bind fun v15 => (bif (decide (y13.length + [v15].length ≤ 268435456)) then (k ((IntKind.wrap .i64 (y2 + 1)),y12,(y13 ++ [v15]))) else none)) else (k ((IntKind.wrap .i64 (y2 + 1)),y12,y13))))
def qi (n : Nat) : Nat → zD → zC → Int → Bool → (List zC) → Option ((Bool × (List zC)) ⊕ (zD))
  | 0,_,_,_,_,_ => none
  | mo8 + 1,x0,x1,y2,y3,y4 => (bif (decide (y2 < (x0.Rows.length : Int))) then (bif (!y3) then ((idx x0.Rows y2).bind fun v17 => (bif (decide (v17.Id ≥ x1.Id)) then (bif (decide (y4.length + [x1].length ≤ 268435456)) then (Zz n (fun v => qi n mo8 x0 x1 v.1 v.2.1 v.2.2) x0 x1 y2 true true true true (y4 ++ [x1])) else none) else (Zz n (fun v => qi n mo8 x0 x1 v.1 v.2.1 v.2.2) x0 x1 y2 false true true y3 y4))) else (Zz n (fun v => qi n mo8 x0 x1 v.1 v.2.1 v.2.2) x0 x1 y2 false false false y3 y4)) else (some (Sum.inl (y3,y4))))
def Yb (n : Nat) (x0 : zD) (x1 : zC) : Option (zD) :=
  (bif (decide (([] : List Int).length + x0.Pv.length ≤ 268435456)) then ((qi n n x0 x1 0 false ([] : List zC)).bind fun o => match o with | .inl (y5,y6) => (YV n x0 x1 y5 y6) | .inr r => some r) else none)
def zJI : Tab := ⟨13,[0,1,2,4,12,4,52,68,132,4,516,1284,2052],[0,1,2,4,12,4,52,68,132,4,516,1284,2052],[0,1,3,7,15,7,63,127,255,7,519,2047,4095]⟩
theorem zAd : qF (rg Try.f159 6) zJI = true := kr
theorem zE9 (n : Nat) (x0 : zD) (x1 : zC) (r : zD) (H : Yb n x0 x1 = some r) : zK Try.prog 159 [.val true (CV.frzRow (zD.row x0)),.val true (CV.frzRow (zC.row x1))] [.val true (zD.row r)] [] := by
 refine cW Try.func159 (fun g d => sl [g 0,g 1,g 2,sl [g 3] (.block 0 (.loop (sl [sl [g 4] (cn 17 .skip (.exit 0)),.block 1 (sl [sl [d 6] (cn 32 (sl [g 7] (g 8)) .skip),d 9] (cn 47 (d 10) .skip))] (g 5)))),sl [g 11] (cn 59 (g 12) .skip),g 13] .ret) [.cell 4 40] fun cx => ?_
 unfold Yb at H
 refine gA 3 28 28 ?_
 refine rA 3 ?_
 obtain ⟨hg1,H⟩ := gs H
 refine pD intRow hg1 ?_
 refine uA 3 60 60 ?_
 refine gA 1 124 60 ?_
 refine tS ?_
 refine gA 1 252 60 ?_
 obtain ⟨o8,eo8,Ho8⟩ := bs H
 clear H
 refine Tr.mid (ι := Bool × (List zC)) (fun v => ⟨67,0,[sB 6 v.1,sA 5 5 2 0,sA 4 4 2 0,sA 3 3 3 0],[(5,[cL 3 v.2 zC.row,cL 1 (([] : List Int) ++ x0.Pv) intRow]),(4,[cL 3 ([] : List zC) zC.row,cL 1 ([] : List Int) intRow]),(3,(zC.row x1))]⟩) (fun v => YV n x0 x1 v.1 v.2 = some r) ?_ ?_
 ·refine tB ?_
  refine Tr.loop (ι := Nat × (Int × Bool × (List zC))) (fun v => ⟨67,0,[sI 7 v.2.1,sB 6 v.2.2.1,sA 5 5 2 0,sA 4 4 2 0,sA 3 3 3 0,sA 2 2 2 0],[(5,[cL 3 v.2.2.2 zC.row,cL 1 (([] : List Int) ++ x0.Pv) intRow]),(4,[cL 3 ([] : List zC) zC.row,cL 1 ([] : List Int) intRow]),(3,(zC.row x1)),(2,(CV.frzRow (zD.row x0)))]⟩) (fun v => qi n v.1 x0 x1 v.2.1 v.2.2.1 v.2.2.2 = some o8) (fun v => v.1) (n,(0,false,([] : List zC))) eo8 (St.sub_of [7,6,5,4,3,2] [5,4,3,2] kr) ?_
  rintro ⟨mo8,y2,y3,y4⟩ H
  have H : qi n mo8 x0 x1 y2 y3 y4 = some o8 := H
  obtain _ | mo8 := mo8
  ·exact nN H
  rw [qi] at H
  refine tS ?_
  refine rA 3 ?_
  refine kF x0.Rows zC.row ?_
  refine uA 1 254204 60 ?_
  obtain ⟨h2,H⟩ | ⟨h2,H⟩ := bC H
  ·refine nA h2 ?_
   refine Tr.exit ?_
   refine aJ ?_
   obtain rfl := si H
   have H := Ho8
   dsimp only at H
   exact jA (y3,y4) H [6,5,4,3] [5,4,3]
  refine tA h2 ?_
  refine tK ?_
  refine tS ?_
  refine tB ?_
  refine tS ?_
  refine Tr.mid (ι := Bool × Bool × Bool × Bool × (List zC)) (fun v => ⟨67,0,[sB 32 v.1,sB 22 v.2.1,sB 21 v.2.2.1,sB 20 y3,sB 17 true,sI 16 (x0.Rows.length : Int),sC 15 (cF 3 x0.Rows zC.row),sA 14 2 2 0,sI 13 y2,sI 7 y2,sB 6 v.2.2.2.1,sA 5 5 2 0,sA 4 4 2 0,sA 3 3 3 0,sA 2 2 2 0],[(5,[cL 3 v.2.2.2.2 zC.row,cL 1 (([] : List Int) ++ x0.Pv) intRow]),(4,[cL 3 ([] : List zC) zC.row,cL 1 ([] : List Int) intRow]),(3,(zC.row x1)),(2,(CV.frzRow (zD.row x0)))]⟩) (fun v => Zz n (fun v => qi n mo8 x0 x1 v.1 v.2.1 v.2.2) x0 x1 y2 v.1 v.2.1 v.2.2.1 v.2.2.2.1 v.2.2.2.2 = some o8) ?_ ?_
  ·refine tS ?_
   refine sT ⟨67,0,[sB 17 (decide (y2 < (x0.Rows.length : Int))),sI 16 (x0.Rows.length : Int),sC 15 (cF 3 x0.Rows zC.row),sA 14 2 2 0,sI 13 y2,sI 7 y2,sB 6 y3,sA 5 5 2 0,sA 4 4 2 0,sA 3 3 3 0,sA 2 2 2 0],[(5,[cL 3 y4 zC.row,cL 1 (([] : List Int) ++ x0.Pv) intRow]),(4,[cL 3 ([] : List zC) zC.row,cL 1 ([] : List Int) intRow]),(3,(zC.row x1)),(2,(CV.frzRow (zD.row x0)))]⟩ ?_
   cases h4 : (!y3)
   ·have H := zL h4 H
    refine Tr.draw mixed 13 kr ⟨67,0,[sB 32 false,(31,.tup []),(30,.tup []),(29,.tup []),(28,.tup []),(27,.tup []),(26,.tup []),(25,.tup []),(24,.tup []),(23,.tup []),sB 22 false,sB 21 false,sB 20 y3,sB 17 (decide (y2 < (x0.Rows.length : Int))),sI 16 (x0.Rows.length : Int),sC 15 (cF 3 x0.Rows zC.row),sA 14 2 2 0,sI 13 y2,sI 7 y2,sB 6 y3,sA 5 5 2 0,sA 4 4 2 0,sA 3 3 3 0,sA 2 2 2 0],[(5,[cL 3 y4 zC.row,cL 1 (([] : List Int) ++ x0.Pv) intRow]),(4,[cL 3 ([] : List zC) zC.row,cL 1 ([] : List Int) intRow]),(3,(zC.row x1)),(2,(CV.frzRow (zD.row x0)))]⟩ (fun cx => ?_) ?_
    ·refine mA zAd [(0,[]),(1,[]),(2,[])] 10 [] fun cx => ?_
     refine sA_ 7594236 60 ⟨67,0,[sB 22 (!y3),sB 21 (!y3),sB 20 y3,sB 17 (decide (y2 < (x0.Rows.length : Int))),sI 16 (x0.Rows.length : Int),sC 15 (cF 3 x0.Rows zC.row),sA 14 2 2 0,sI 13 y2,sI 7 y2,sB 6 y3,sA 5 5 2 0,sA 4 4 2 0,sA 3 3 3 0,sA 2 2 2 0],[(5,[cL 3 y4 zC.row,cL 1 (([] : List Int) ++ x0.Pv) intRow]),(4,[cL 3 ([] : List zC) zC.row,cL 1 ([] : List Int) intRow]),(3,(zC.row x1)),(2,(CV.frzRow (zD.row x0)))]⟩ ?_
     rw [h4]
     refine mA zAd [(3,[]),(4,[]),(5,[]),(6,[]),(7,[]),(8,[]),(9,[]),(10,[]),(11,[]),(12,[])] 0 [] fun cx => ?_
     exact mE zAd [32,31,30,29,28,27,26,25,24,23,22,21,20,17,16,15,14,13,7,6,5,4,3,2] [5,4,3,2]
    refine nB_ ?_
    refine tK ?_
    refine sB' 8589140220 60 ⟨67,0,[sB 32 false,(31,.tup []),(30,.tup []),(29,.tup []),(28,.tup []),(27,.tup []),(26,.tup []),(25,.tup []),(24,.tup []),(23,.tup []),sB 22 false,sB 21 false,sB 20 y3,sB 17 (decide (y2 < (x0.Rows.length : Int))),sI 16 (x0.Rows.length : Int),sC 15 (cF 3 x0.Rows zC.row),sA 14 2 2 0,sI 13 y2,sI 7 y2,sB 6 y3,sA 5 5 2 0,sA 4 4 2 0,sA 3 3 3 0,sA 2 2 2 0],[(5,[cL 3 y4 zC.row,cL 1 (([] : List Int) ++ x0.Pv) intRow]),(4,[cL 3 ([] : List zC) zC.row,cL 1 ([] : List Int) intRow]),(3,(zC.row x1)),(2,(CV.frzRow (zD.row x0)))]⟩ ?_
    rw [h2]
    exact jA (false,false,false,y3,y4) H [32,22,21,20,17,16,15,14,13,7,6,5,4,3,2] [5,4,3,2]
   have H := zM h4 H
   obtain ⟨v17,ev17,H⟩ := bs H
   refine Tr.draw mixed 13 kr ⟨67,0,[sB 32 (decide (v17.Id ≥ x1.Id)),sB 31 (decide (v17.Id ≥ x1.Id)),sI 30 x1.Id,sA 29 3 3 0,sI 28 v17.Id,(27,.fad ((zC.row v17))),(26,.fad ((zC.row v17))),sI 25 y2,sR 24 2 2 0 1 false,sA 23 2 2 0,sB 22 true,sB 21 true,sB 20 y3,sB 17 (decide (y2 < (x0.Rows.length : Int))),sI 16 (x0.Rows.length : Int),sC 15 (cF 3 x0.Rows zC.row),sA 14 2 2 0,sI 13 y2,sI 7 y2,sB 6 y3,sA 5 5 2 0,sA 4 4 2 0,sA 3 3 3 0,sA 2 2 2 0],[(5,[cL 3 y4 zC.row,cL 1 (([] : List Int) ++ x0.Pv) intRow]),(4,[cL 3 ([] : List zC) zC.row,cL 1 ([] : List Int) intRow]),(3,(zC.row x1)),(2,(CV.frzRow (zD.row x0)))]⟩ (fun cx => ?_) ?_
   ·refine mA zAd [(0,[]),(1,[]),(2,[])] 10 [] fun cx => ?_
    refine sA_ 7594236 60 ⟨67,0,[sB 22 (!y3),sB 21 (!y3),sB 20 y3,sB 17 (decide (y2 < (x0.Rows.length : Int))),sI 16 (x0.Rows.length : Int),sC 15 (cF 3 x0.Rows zC.row),sA 14 2 2 0,sI 13 y2,sI 7 y2,sB 6 y3,sA 5 5 2 0,sA 4 4 2 0,sA 3 3 3 0,sA 2 2 2 0],[(5,[cL 3 y4 zC.row,cL 1 (([] : List Int) ++ x0.Pv) intRow]),(4,[cL 3 ([] : List zC) zC.row,cL 1 ([] : List Int) intRow]),(3,(zC.row x1)),(2,(CV.frzRow (zD.row x0)))]⟩ ?_
    rw [h4]
    refine mA zAd [(3,[]),(4,[]),(5,[])] 7 [⟨[],37,23,24⟩] fun cx => ?_
    refine iN zAd 6 zC.row ev17 fun cx => ?_
    refine mA zAd [(7,[]),(8,[]),(9,[]),(10,[]),(11,[]),(12,[])] 0 [⟨[],3,29,30⟩,⟨[],37,23,24⟩] fun cx => ?_
    exact mE zAd [32,31,30,29,28,27,26,25,24,23,22,21,20,17,16,15,14,13,7,6,5,4,3,2] [5,4,3,2]
   refine sT ⟨67,0,[sB 32 (decide (v17.Id ≥ x1.Id)),sB 31 (decide (v17.Id ≥ x1.Id)),sI 30 x1.Id,sA 29 3 3 0,sI 28 v17.Id,(27,.fad ((zC.row v17))),(26,.fad ((zC.row v17))),sI 25 y2,sR 24 2 2 0 1 false,sA 23 2 2 0,sB 22 true,sB 21 true,sB 20 y3,sB 17 (decide (y2 < (x0.Rows.length : Int))),sI 16 (x0.Rows.length : Int),sC 15 (cF 3 x0.Rows zC.row),sA 14 2 2 0,sI 13 y2,sI 7 y2,sB 6 y3,sA 5 5 2 0,sA 4 4 2 0,sA 3 3 3 0,sA 2 2 2 0],[(5,[cL 3 y4 zC.row,cL 1 (([] : List Int) ++ x0.Pv) intRow]),(4,[cL 3 ([] : List zC) zC.row,cL 1 ([] : List Int) intRow]),(3,(zC.row x1)),(2,(CV.frzRow (zD.row x0)))]⟩ ?_
   cases h5 : (decide (v17.Id ≥ x1.Id))
   ·have H := zL h5 H
    refine nB_ ?_
    refine tK ?_
    refine sB' 8589140220 60 ⟨67,0,[sB 32 false,sB 31 false,sI 30 x1.Id,sA 29 3 3 0,sI 28 v17.Id,(27,.fad ((zC.row v17))),(26,.fad ((zC.row v17))),sI 25 y2,sR 24 2 2 0 1 false,sA 23 2 2 0,sB 22 true,sB 21 true,sB 20 y3,sB 17 (decide (y2 < (x0.Rows.length : Int))),sI 16 (x0.Rows.length : Int),sC 15 (cF 3 x0.Rows zC.row),sA 14 2 2 0,sI 13 y2,sI 7 y2,sB 6 y3,sA 5 5 2 0,sA 4 4 2 0,sA 3 3 3 0,sA 2 2 2 0],[(5,[cL 3 y4 zC.row,cL 1 (([] : List Int) ++ x0.Pv) intRow]),(4,[cL 3 ([] : List zC) zC.row,cL 1 ([] : List Int) intRow]),(3,(zC.row x1)),(2,(CV.frzRow (zD.row x0)))]⟩ ?_
    rw [h2]
    exact jA (false,true,true,y3,y4) H [32,22,21,20,17,16,15,14,13,7,6,5,4,3,2] [5,4,3,2]
   have H := zM h5 H
   refine tB_ ?_
   refine rA 4 ?_
   obtain ⟨hg18,H⟩ := gs H
   refine LAt.appMU tOk (t := 37) (ty := 37) (e := 114) (x := (.tmp 34)) (y := (.tmp 36)) (d := 37) (g := none) (tI 114) zC.row y4 [x1] kr kr kr kr kr kr kr kr kr kr hg18 ?_
   refine uA 2 326416720124 60 ?_
   refine eA 1 326416720124 60 ?_
   refine sB' 326416720124 60 ⟨67,0,[sB 6 true,sA 38 5 2 0,sV 35 (zC.row x1),sA 33 5 2 0,sB 32 true,sB 31 true,sI 30 x1.Id,sA 29 3 3 0,sI 28 v17.Id,(27,.fad ((zC.row v17))),(26,.fad ((zC.row v17))),sI 25 y2,sR 24 2 2 0 1 false,sA 23 2 2 0,sB 22 true,sB 21 true,sB 20 y3,sB 17 (decide (y2 < (x0.Rows.length : Int))),sI 16 (x0.Rows.length : Int),sC 15 (cF 3 x0.Rows zC.row),sA 14 2 2 0,sI 13 y2,sI 7 y2,sA 5 5 2 0,sA 4 4 2 0,sA 3 3 3 0,sA 2 2 2 0],[(5,[cL 3 (y4 ++ [x1]) zC.row,cL 1 (([] : List Int) ++ x0.Pv) intRow]),(4,[cL 3 ([] : List zC) zC.row,cL 1 ([] : List Int) intRow]),(3,(zC.row x1)),(2,(CV.frzRow (zD.row x0)))]⟩ ?_
   rw [h2]
   exact jA (true,true,true,true,(y4 ++ [x1])) H [32,22,21,20,17,16,15,14,13,7,6,5,4,3,2] [5,4,3,2]
  rintro ⟨y9,y10,y11,y12,y13⟩ H
  have H : (Zz n (fun v => qi n mo8 x0 x1 v.1 v.2.1 v.2.2) x0 x1 y2 y9 y10 y11 y12 y13) = some o8 := H
  unfold Zz at H
  obtain ⟨v14,ev14,H⟩ := bs H
  refine Tr.draws mixed 9 kr ⟨67,0,[sB 47 (v14.Id != x1.Id),sI 46 x1.Id,sA 45 3 3 0,sI 44 v14.Id,(43,.fad ((zC.row v14))),(42,.fad ((zC.row v14))),sI 41 y2,sR 40 2 2 0 1 false,sA 39 2 2 0,sB 32 y9,sB 22 y10,sB 21 y11,sB 20 y3,sB 17 true,sI 16 (x0.Rows.length : Int),sC 15 (cF 3 x0.Rows zC.row),sA 14 2 2 0,sI 13 y2,sI 7 y2,sB 6 y12,sA 5 5 2 0,sA 4 4 2 0,sA 3 3 3 0,sA 2 2 2 0],[(5,[cL 3 y13 zC.row,cL 1 (([] : List Int) ++ x0.Pv) intRow]),(4,[cL 3 ([] : List zC) zC.row,cL 1 ([] : List Int) intRow]),(3,(zC.row x1)),(2,(CV.frzRow (zD.row x0)))]⟩ (fun cx => ?_) ?_
  ·refine aA [(0,[]),(1,[]),(2,[])] 6 [⟨[],37,39,40⟩] fun cx => ?_
   refine aI tOk 3 37 0 40 41 42 none ⟨(.box 2),[(0,0)],0,false,3,(CV.frzEs (x0.Rows.map zC.row))⟩ y2 (zC.row v14) _ kr kr kr kr kr kr rfl (Qb ev14) rfl (fun cx => ?_)
   refine aA [(4,[]),(5,[]),(6,[]),(7,[]),(8,[])] 0 [⟨[],3,45,46⟩,⟨[],37,39,40⟩] fun cx => ?_
   exact eE [47,46,45,44,43,42,41,40,39,32,22,21,20,17,16,15,14,13,7,6,5,4,3,2] [5,4,3,2]
  refine sT ⟨67,0,[sB 47 (v14.Id != x1.Id),sI 46 x1.Id,sA 45 3 3 0,sI 44 v14.Id,(43,.fad ((zC.row v14))),(42,.fad ((zC.row v14))),sI 41 y2,sR 40 2 2 0 1 false,sA 39 2 2 0,sB 32 y9,sB 22 y10,sB 21 y11,sB 20 y3,sB 17 true,sI 16 (x0.Rows.length : Int),sC 15 (cF 3 x0.Rows zC.row),sA 14 2 2 0,sI 13 y2,sI 7 y2,sB 6 y12,sA 5 5 2 0,sA 4 4 2 0,sA 3 3 3 0,sA 2 2 2 0],[(5,[cL 3 y13 zC.row,cL 1 (([] : List Int) ++ x0.Pv) intRow]),(4,[cL 3 ([] : List zC) zC.row,cL 1 ([] : List Int) intRow]),(3,(zC.row x1)),(2,(CV.frzRow (zD.row x0)))]⟩ ?_
  cases h3 : (v14.Id != x1.Id)
  ·have H := zL h3 H
   refine nB_ ?_
   refine tK ?_
   refine eA 3 0xff81007fe0fc 60 ?_
   exact jB mo8 ((IntKind.wrap .i64 (y2 + 1)),y12,y13) H [7,6,5,4,3,2] [5,4,3,2]
  have H := zM h3 H
  refine tB_ ?_
  obtain ⟨v15,ev15,H⟩ := bs H
  obtain ⟨hg16,H⟩ := gs H
  refine Tr.draw mixed 11 kr ⟨67,0,[sA 57 5 2 0,sV 54 (zC.row v15),(53,.fad ((zC.row v15))),sI 52 y2,sR 51 2 2 0 1 false,sA 50 2 2 0,sA 48 5 2 0,sB 47 true,sI 46 x1.Id,sA 45 3 3 0,sI 44 v14.Id,(43,.fad ((zC.row v14))),(42,.fad ((zC.row v14))),sI 41 y2,sR 40 2 2 0 1 false,sA 39 2 2 0,sB 32 y9,sB 22 y10,sB 21 y11,sB 20 y3,sB 17 true,sI 16 (x0.Rows.length : Int),sC 15 (cF 3 x0.Rows zC.row),sA 14 2 2 0,sI 13 y2,sI 7 y2,sB 6 y12,sA 5 5 2 0,sA 4 4 2 0,sA 3 3 3 0,sA 2 2 2 0],[(5,[cL 3 (y13 ++ [v15]) zC.row,cL 1 (([] : List Int) ++ x0.Pv) intRow]),(4,[cL 3 ([] : List zC) zC.row,cL 1 ([] : List Int) intRow]),(3,(zC.row x1)),(2,(CV.frzRow (zD.row x0)))]⟩ (fun cx => ?_) ?_
  ·refine aA [(0,[]),(1,[8,10]),(2,[]),(3,[7,8,10]),(4,[])] 6 [⟨[7,8,10],37,50,51⟩,⟨[8,10],37,48,49⟩] fun cx => ?_
   refine aI tOk 5 37 0 51 52 53 none ⟨(.box 2),[(0,0)],0,false,3,(CV.frzEs (x0.Rows.map zC.row))⟩ y2 (zC.row v15) _ kr kr kr kr kr kr rfl (Qb ev15) rfl (fun cx => ?_)
   refine aA [(6,[])] 4 [⟨[7,8,10],37,50,51⟩,⟨[8,10],37,48,49⟩] fun cx => ?_
   refine bA 7 ?_
   refine lA 1 ?_
   refine fA ?_
   refine bA 8 ?_
   refine LAt.appMU tOk (t := 37) (ty := 37) (e := 114) (x := (.tmp 49)) (y := (.tmp 55)) (d := 56) (g := none) (tI 114) zC.row y13 [v15] kr kr kr kr kr kr kr kr kr kr hg16 ?_
   refine fA ?_
   refine aA [(9,[])] 1 [⟨[7,8,10],37,50,51⟩,⟨[8,10],37,48,49⟩] fun cx => ?_
   refine bA 10 ?_
   refine lA 1 ?_
   refine fA ?_
   exact eE [57,54,53,52,51,50,48,47,46,45,44,43,42,41,40,39,32,22,21,20,17,16,15,14,13,7,6,5,4,3,2] [5,4,3,2]
  refine eA 3 0x27dff81007fe0fc 60 ?_
  exact jB mo8 ((IntKind.wrap .i64 (y2 + 1)),y12,(y13 ++ [v15])) H [7,6,5,4,3,2] [5,4,3,2]
 rintro ⟨y5,y6⟩ H
 have H : (YV n x0 x1 y5 y6) = some r := H
 unfold YV at H
 refine tS ?_
 refine gA 2 0x800000000000038 56 ?_
 obtain ⟨h1,H⟩ | ⟨h1,H⟩ := bC H
 ·refine nA h1 ?_
  refine tK ?_
  refine gA 2 16 16 ?_
  exact te (fJ [(true,[cL 3 y6 zC.row,cL 1 (([] : List Int) ++ x0.Pv) intRow])] H)
 refine tA h1 ?_
 refine Tr.at ?_
 refine lA 4 ?_
 obtain ⟨hg7,H⟩ := gs H
 refine LAt.appMU tOk (t := 37) (ty := 37) (e := 114) (x := (.tmp 61)) (y := (.tmp 63)) (d := 64) (g := none) (tI 114) zC.row y6 [x1] kr kr kr kr kr kr kr kr kr kr hg7 ?_
 refine uA 2 48 48 ?_
 refine gA 2 16 16 ?_
 exact te (fJ [(true,[cL 3 (y6 ++ [x1]) zC.row,cL 1 (([] : List Int) ++ x0.Pv) intRow])] H)
def Yw (n : Nat) (x0 : zD) (x1 : zC) : Option (zD × Bool) :=
  ((qG n x0 (x0.Pv.length : Int)).bind fun r1 => (bif (!r1) then ((qu n x0).bind fun r4 => (some (r4,false))) else ((Yb n x0 x1).bind fun r2 => ((YK n r2 x0).bind fun r3 => (some (r3.1,r3.2))))))
theorem zHA (n : Nat) (x0 : zD) (x1 : zC) (r : zD × Bool) (H : Yw n x0 x1 = some r) : zK Try.prog 151 [.val true (CV.frzRow (zD.row x0)),.val true (CV.frzRow (zC.row x1))] [.val true (zD.row r.1),.val false [.lit (.bool r.2)]] [] := by
 refine cW Try.func151 (fun g d => sl [g 0,sl [g 1] (cn 11 (sl [g 2] .ret) .skip),d 3] .ret) [.cell 4 40,.tmp 5] fun cx => ?_
 unfold Yw at H
 refine gA 4 28 28 ?_
 refine tS ?_
 refine rA 3 ?_
 refine kF x0.Pv intRow ?_
 obtain ⟨r1,er1,H⟩ := bs H
 refine vA [.rd,.rd] (zAZ n x0 (x0.Pv.length : Int) r1 er1) ?_
 refine uA 1 2076 28 ?_
 obtain ⟨h1,H⟩ | ⟨h1,H⟩ := bC H
 ·refine nA h1 ?_
  refine tK ?_
  obtain ⟨r2,er2,H⟩ := bs H
  obtain ⟨r3,er3,H⟩ := bs H
  refine Tr.draws mixed 9 kr ⟨21,0,[sB 5 r3.2,sA 4 4 2 0],[(4,(zD.row r3.1))]⟩ (fun cx => ?_) ?_
  ·refine aA [(0,[2,4,7]),(1,[2,4,7]),(3,[4,7])] 6 [⟨[4,7],40,2,17⟩,⟨[2,4,7],114,3,15⟩,⟨[2,4,7],40,2,14⟩] fun cx => ?_
   refine bA 2 ?_
   refine vA [.rd,.rd] (zE9 n x0 x1 r2 er2) ?_
   refine fA ?_
   refine bA 4 ?_
   refine vA [.own,.rd] (zDT n r2 x0 r3 er3) ?_
   refine fA ?_
   refine aA [(5,[]),(6,[])] 2 [⟨[4,7],40,2,17⟩,⟨[2,4,7],114,3,15⟩,⟨[2,4,7],40,2,14⟩] fun cx => ?_
   refine bA 7 ?_
   refine lA 1 ?_
   refine fA ?_
   refine aA [(8,[])] 0 [⟨[4,7],40,2,17⟩,⟨[2,4,7],114,3,15⟩,⟨[2,4,7],40,2,14⟩] fun cx => ?_
   exact eE [5,4] [4]
  exact te (fJ [(true,(zD.row r3.1)),(false,[cB r3.2])] H)
 refine tA h1 ?_
 refine rA 1 ?_
 obtain ⟨r4,er4,H⟩ := bs H
 refine vA [.rd] (Qa n x0 r4 er4) ?_
 refine uA 2 48 16 ?_
 exact te (fJ [(true,(zD.row r4)),(false,[cB false])] H)
def JI (n : Nat) (y9 : (List Int)) (y10 : Int) (y11 : Int) (y12 : (List zC)) (y13 : (List Int)) : Option (zD × Src) :=
  (some ((⟨y12,y13⟩ : zD),(⟨y9,y10,y11⟩ : Src)))
def ZK (n : Nat) : Nat → Int → Int → (List Int) → Int → Int → (List zC) → (List Int) → Option (((List Int) × Int × Int × (List zC) × (List Int)) ⊕ (zD × Src))
  | 0,_,_,_,_,_,_,_ => none
  | mo14 + 1,x1,y3,y4,y5,y6,y7,y8 => (bif (decide (y3 > 0)) then ((zJ n (⟨y4,y5,y6⟩ : Src) 4).bind fun r15 => (bif (r15.1 == 0) then ((zJ n r15.2 x1).bind fun r20 => ((zJ n r20.2 3).bind fun r21 => ((YR n (⟨y7,y8⟩ : zD) r20.1 (IntKind.wrap .i64 (1 + r21.1))).bind fun r22 => (ZK n mo14 x1 (IntKind.wrap .i64 (y3 - 1)) r21.2.b r21.2.i r21.2.h r22.1.Rows r22.1.Pv)))) else (bif (r15.1 == 1) then ((zJ n r15.2 2).bind fun r18 => ((Qr n (⟨y7,y8⟩ : zD) (IntKind.wrap .i64 (2 + r18.1))).bind fun r19 => (ZK n mo14 x1 (IntKind.wrap .i64 (y3 - 1)) r18.2.b r18.2.i r18.2.h r19.1.Rows r19.1.Pv))) else ((Y3 n r15.2 x1).bind fun r16 => ((Yw n (⟨y7,y8⟩ : zD) r16.1).bind fun r17 => (ZK n mo14 x1 (IntKind.wrap .i64 (y3 - 1)) r16.2.b r16.2.i r16.2.h r17.1.Rows r17.1.Pv)))))) else (some (Sum.inl (y4,y5,y6,y7,y8))))
def Q8 (n : Nat) (x0 : Src) (x1 : Int) : Option (zD × Src) :=
  ((QM n x1).bind fun r1 => ((zJ n x0 6).bind fun r2 => ((ZK n n x1 r2.1 r2.2.b r2.2.i r2.2.h r1.Rows r1.Pv).bind fun o => match o with | .inl (y9,y10,y11,y12,y13) => (JI n y9 y10 y11 y12 y13) | .inr r => some r)))
def zJi : Tab := ⟨12,[0,0,0,6,0,24,32,105,128,256,256,1023],[0,0,0,6,0,16,32,73,128,256,256,512],[0,0,0,6,0,30,62,127,255,511,511,1023]⟩
noncomputable abbrev G97 (k : Nat) := Rg Try.f97 k
noncomputable abbrev D97 (k : Nat) := Rd Try.f97 k
theorem zAW : qF (rg Try.f97 8) zJi = true := kr
theorem zEA (n : Nat) (x0 : Src) (x1 : Int) (r : zD × Src) (H : Q8 n x0 x1 = some r) : zK Try.prog 97 [.ptr (CV.frzRow (Src.row x0)),.val false [.lit (.int .i64 x1)]] [.val true (zD.row r.1)] [(0,(CV.frzRow (Src.row r.2)))] := by
 refine zK.of_body tOk Try.func97 rfl (c := (.seq (G97 0) (.seq (G97 1) (.seq (.seq (G97 2) (.block 0 (.loop (.seq (.seq (G97 3) (.cond (.tmp 12) .skip (.exit 0))) (.seq (.block 1 (.seq (G97 5) (.block 2 (.seq (G97 7) (.cond (.tmp 25) (D97 8) (.seq (G97 9) (.cond (.tmp 38) (D97 10) (D97 6)))))))) (G97 4)))))) (.seq (G97 11) .ret))))) kr (Nat.le_of_ble_eq_true kr) 1 (rs := [.cell 4 40]) rfl [] .nil [(true,(zD.row r.1))] [] [(0,(CV.frzRow (Src.row r.2)))] fun cx => ?_
 show Tr _ _ _ ⟨49,1,[sA 0 0 3 0,sI 1 x1],[(0,(CV.frzRow (Src.row x0)))]⟩ _
 unfold Q8 at H
 refine gA 1 19 17 ?_
 refine rA 1 ?_
 obtain ⟨r1,er1,H⟩ := bs H
 refine vA [.rd] (zDP n x1 r1 er1) ?_
 refine uA 2 51 49 ?_
 refine tS ?_
 refine rA 1 ?_
 obtain ⟨r2,er2,H⟩ := bs H
 refine LAt.callL tOk [.lend,.rd] (f := 49) (av := #[.tmp 9,.const (.int .i64 6)]) (ats := #[92,3]) (d := (some 10)) (ty := 3) (g := none) kr kr kr [] (zO n x0 6 r2 er2) kr (.inl rfl) ?_
 refine uA 1 115 49 ?_
 obtain ⟨o14,eo14,Ho14⟩ := bs H
 clear H
 refine Tr.mid (ι := (List Int) × Int × Int × (List zC) × (List Int)) (fun v => ⟨49,1,[sA 5 5 2 0,sA 4 4 2 0,sA 0 0 3 0],[(0,[cF 1 v.1 zF,cI v.2.1,cI v.2.2.1]),(5,[cL 3 v.2.2.2.1 zC.row,cL 1 v.2.2.2.2 intRow]),(4,[cL 3 ([] : List zC) zC.row,cL 1 ([] : List Int) intRow])]⟩) (fun v => JI n v.1 v.2.1 v.2.2.1 v.2.2.2.1 v.2.2.2.2 = some r) ?_ ?_
 ·refine tB ?_
  refine Tr.loop (ι := Nat × (Int × (List Int) × Int × Int × (List zC) × (List Int))) (fun v => ⟨49,1,[sI 6 v.2.1,sA 5 5 2 0,sA 4 4 2 0,sA 0 0 3 0,sI 1 x1],[(0,[cF 1 v.2.2.1 zF,cI v.2.2.2.1,cI v.2.2.2.2.1]),(5,[cL 3 v.2.2.2.2.2.1 zC.row,cL 1 v.2.2.2.2.2.2 intRow]),(4,[cL 3 ([] : List zC) zC.row,cL 1 ([] : List Int) intRow])]⟩) (fun v => ZK n v.1 x1 v.2.1 v.2.2.1 v.2.2.2.1 v.2.2.2.2.1 v.2.2.2.2.2.1 v.2.2.2.2.2.2 = some o14) (fun v => v.1) (n,(r2.1,r2.2.b,r2.2.i,r2.2.h,r1.Rows,r1.Pv)) eo14 (St.sub_of [6,5,4,0,1] [0,5,4] kr) ?_
  rintro ⟨mo14,y3,y4,y5,y6,y7,y8⟩ H
  have H : ZK n mo14 x1 y3 y4 y5 y6 y7 y8 = some o14 := H
  obtain _ | mo14 := mo14
  ·exact nN H
  rw [ZK] at H
  refine tS ?_
  refine gA 2 4211 49 ?_
  obtain ⟨h1,H⟩ | ⟨h1,H⟩ := bC H
  ·refine nA h1 ?_
   refine Tr.exit ?_
   refine aJ ?_
   obtain rfl := si H
   have H := Ho14
   dsimp only at H
   exact jA (y4,y5,y6,y7,y8) H [5,4,0] [0,5,4]
  refine tA h1 ?_
  refine tK ?_
  refine tS ?_
  refine tB ?_
  refine rA 1 ?_
  obtain ⟨r15,er15,H⟩ := bs H
  refine LAt.callL tOk [.lend,.rd] (f := 49) (av := #[.tmp 15,.const (.int .i64 4)]) (ats := #[92,3]) (d := (some 16)) (ty := 3) (g := none) kr kr kr [] (zO n (⟨y4,y5,y6⟩ : Src) 4 r15 er15) kr (.inl rfl) ?_
  refine dA 65651 49 ?_
  refine tB ?_
  refine gA 2 33620083 49 ?_
  obtain ⟨h2,H⟩ | ⟨h2,H⟩ := bC H
  ·refine nA h2 ?_
   refine gA 2 274877907059 49 ?_
   obtain ⟨h3,H⟩ | ⟨h3,H⟩ := bC H
   ·refine nA h3 ?_
    obtain ⟨r16,er16,H⟩ := bs H
    obtain ⟨r17,er17,H⟩ := bs H
    refine Tr.draw mixed 9 kr ⟨49,1,[sI 6 y3,sA 5 5 2 0,sA 4 4 2 0,sA 0 0 3 0,sI 1 x1],[(5,(zD.row r17.1)),(0,(CV.frzRow (Src.row r16.2))),(4,[cL 3 ([] : List zC) zC.row,cL 1 ([] : List Int) intRow])]⟩ (fun cx => ?_) ?_
    ·refine aA [(0,[4,8]),(1,[]),(2,[])] 6 [⟨[4,8],40,5,18⟩] fun cx => ?_
     refine bA 3 ?_
     refine LAt.callL tOk [.lend,.rd] (f := 152) (av := #[.tmp 19,.tmp 20]) (ats := #[92,3]) (d := (some 21)) (ty := 114) (g := none) kr kr kr [] (zHE n r15.2 x1 r16 er16) kr (.inl rfl) ?_
     refine fA ?_
     refine bA 4 ?_
     refine vB [.rd,.rd] [.box 5] (zHA n (⟨y7,y8⟩ : zD) r16.1 r17 er17) (.inr (zZ (zD.row_mine _) (zZ (zI zP zk) zq))) ?_
     refine fA ?_
     refine AT.movT tOk 5 (ty := 190) (t := 22) (d := 17) (g := none) [(true,(zD.row r17.1)),(false,[cB r17.2])] _ kr kr kr (.inl rfl) kr kr kr kr rfl (fun cx => ?_)
     refine aA [(6,[]),(7,[])] 1 [⟨[4,8],40,5,18⟩] fun cx => ?_
     refine bA 8 ?_
     refine lA 1 ?_
     refine fA ?_
     exact eE [6,5,4,0,1] [5,0,4]
    refine eA 3 115 49 ?_
    exact jB mo14 ((IntKind.wrap .i64 (y3 - 1)),r16.2.b,r16.2.i,r16.2.h,r17.1.Rows,r17.1.Pv) H [6,5,4,0,1] [0,5,4]
   refine tA h3 ?_
   obtain ⟨r18,er18,H⟩ := bs H
   obtain ⟨r19,er19,H⟩ := bs H
   refine Tr.draw mixed 9 kr ⟨49,1,[sI 6 y3,sA 5 5 2 0,sA 4 4 2 0,sA 0 0 3 0,sI 1 x1],[(5,(zD.row r19.1)),(0,(CV.frzRow (Src.row r18.2))),(4,[cL 3 ([] : List zC) zC.row,cL 1 ([] : List Int) intRow])]⟩ (fun cx => ?_) ?_
   ·refine aA [(0,[4,8]),(1,[])] 7 [⟨[4,8],40,5,41⟩] fun cx => ?_
    refine bA 2 ?_
    refine LAt.callL tOk [.lend,.rd] (f := 49) (av := #[.tmp 42,.const (.int .i64 2)]) (ats := #[92,3]) (d := (some 43)) (ty := 3) (g := none) kr kr kr [] (zO n r15.2 2 r18 er18) kr (.inl rfl) ?_
    refine fA ?_
    refine aA [(3,[])] 5 [⟨[4,8],40,5,41⟩] fun cx => ?_
    refine bA 4 ?_
    refine vB [.rd,.rd] [.box 5] (zGq n (⟨y7,y8⟩ : zD) (IntKind.wrap .i64 (2 + r18.1)) r19 er19) (.inr (zZ (zD.row_mine _) (zZ (zI zP zk) zq))) ?_
    refine fA ?_
    refine AT.movT tOk 5 (ty := 190) (t := 45) (d := 40) (g := none) [(true,(zD.row r19.1)),(false,[cB r19.2])] _ kr kr kr (.inl rfl) kr kr kr kr rfl (fun cx => ?_)
    refine aA [(6,[]),(7,[])] 1 [⟨[4,8],40,5,41⟩] fun cx => ?_
    refine bA 8 ?_
    refine lA 1 ?_
    refine fA ?_
    exact eE [6,5,4,0,1] [5,0,4]
   refine eA 3 115 49 ?_
   exact jB mo14 ((IntKind.wrap .i64 (y3 - 1)),r18.2.b,r18.2.i,r18.2.h,r19.1.Rows,r19.1.Pv) H [6,5,4,0,1] [0,5,4]
  refine tA h2 ?_
  obtain ⟨r20,er20,H⟩ := bs H
  obtain ⟨r21,er21,H⟩ := bs H
  obtain ⟨r22,er22,H⟩ := bs H
  refine Tr.draw mixed 12 kr ⟨49,1,[sI 6 y3,sA 5 5 2 0,sA 4 4 2 0,sA 0 0 3 0,sI 1 x1],[(5,(zD.row r22.1)),(0,(CV.frzRow (Src.row r21.2))),(4,[cL 3 ([] : List zC) zC.row,cL 1 ([] : List Int) intRow])]⟩ (fun cx => ?_) ?_
  ·refine mA zAW [(0,[7,11]),(1,[]),(2,[]),(4,[])] 8 [⟨[7,11],40,5,28⟩] fun cx => ?_
   refine mC zAW 3 ?_
   refine LAt.callL tOk [.lend,.rd] (f := 49) (av := #[.tmp 29,.tmp 30]) (ats := #[92,3]) (d := (some 31)) (ty := 3) (g := none) kr kr kr [] (zO n r15.2 x1 r20 er20) kr (.inl rfl) ?_
   refine fA ?_
   refine mC zAW 5 ?_
   refine LAt.callL tOk [.lend,.rd] (f := 49) (av := #[.tmp 32,.const (.int .i64 3)]) (ats := #[92,3]) (d := (some 33)) (ty := 3) (g := none) kr kr kr [] (zO n r20.2 3 r21 er21) kr (.inl rfl) ?_
   refine fA ?_
   refine mA zAW [(6,[])] 5 [⟨[7,11],40,5,28⟩] fun cx => ?_
   refine mC zAW 7 ?_
   refine vB [.rd,.rd,.rd] [.box 5] (zGr n (⟨y7,y8⟩ : zD) r20.1 (IntKind.wrap .i64 (1 + r21.1)) r22 er22) (.inr (zZ (zD.row_mine _) (zZ (zI zP zk) zq))) ?_
   refine fA ?_
   refine AT.movT tOk 8 (ty := 190) (t := 35) (d := 27) (g := none) [(true,(zD.row r22.1)),(false,[cB r22.2])] _ kr (oM zAW kr) (dM zAW kr) (.inl rfl) kr kr kr kr rfl (fun cx => ?_)
   refine mA zAW [(9,[]),(10,[])] 1 [⟨[7,11],40,5,28⟩] fun cx => ?_
   refine mC zAW 11 ?_
   refine lA 1 ?_
   refine fA ?_
   exact mE zAW [6,5,4,0,1] [5,0,4]
  refine eA 3 115 49 ?_
  exact jB mo14 ((IntKind.wrap .i64 (y3 - 1)),r21.2.b,r21.2.i,r21.2.h,r22.1.Rows,r22.1.Pv) H [6,5,4,0,1] [0,5,4]
 rintro ⟨y9,y10,y11,y12,y13⟩ H
 have H : (JI n y9 y10 y11 y12 y13) = some r := H
 unfold JI at H
 refine gA 2 17 17 ?_
 refine te ?_
 obtain rfl := si H
 exact Fin.ofY _ [(true,[cL 3 y12 zC.row,cL 1 y13 intRow])] [] _ [] _ [(0,[cF 1 y9 zF,cI y10,cI y11])] kr rfl rfl rfl kr kr kr kr rfl rfl rfl
def QX (n : Nat) (x0 : Src) : Option (Int × Src) :=
  ((ze n x0 [11,12,13,14]).bind fun r1 => (some (r1.1,r1.2)))
noncomputable abbrev G99 (k : Nat) := Rg Try.f99 k
theorem zBG (n : Nat) (x0 : Src) (r : Int × Src) (H : QX n x0 = some r) : zK Try.prog 99 [.ptr (CV.frzRow (Src.row x0))] [.val false [.lit (.int .i64 r.1)]] [(0,(CV.frzRow (Src.row r.2)))] := by
 refine zK.of_body tOk Try.func99 rfl (c := (.seq (G99 0) (.seq (G99 1) .ret))) kr (Nat.le_of_ble_eq_true kr) 1 (rs := [.tmp 2]) rfl [] .nil [(false,[.lit (.int .i64 r.1)])] [] [(0,(CV.frzRow (Src.row r.2)))] fun cx => ?_
 show Tr _ _ _ ⟨6,1,[sA 0 0 3 0],[(0,(CV.frzRow (Src.row x0)))]⟩ _
 unfold QX at H
 refine gA 1 1 1 ?_
 refine rA 2 ?_
 obtain ⟨r1,er1,H⟩ := bs H
 refine LAt.callL tOk [.lend,.rd] (f := 51) (av := #[.tmp 3,.tmp 4]) (ats := #[92,38]) (d := (some 5)) (ty := 3) (g := none) kr kr kr [] (zu n x0 [11,12,13,14] r1 er1) kr (.inl rfl) ?_
 refine uA 1 5 1 ?_
 refine te ?_
 obtain rfl := si H
 exact Fin.ofY _ [(false,[cI r1.1])] [] _ [] _ [(0,(CV.frzRow (Src.row r1.2)))] kr rfl rfl rfl kr kr kr kr rfl rfl rfl
def zAG (n : Nat) : Option (Int) :=
  (some (-1))
def ZG (n : Nat) : Nat → (List zB) → Int → Int → Int → Option ((Unit) ⊕ (Int))
  | 0,_,_,_,_ => none
  | mo2 + 1,x0,x1,x2,y1 => (bif (decide (y1 < (x0.length : Int))) then ((idx x0 y1).bind fun v3 => (bif (v3.Tag == x1) then ((idx x0 y1).bind fun v4 => (bif (v4.Mac == x2) then (some (Sum.inr y1)) else (ZG n mo2 x0 x1 x2 (IntKind.wrap .i64 (y1 + 1))))) else (ZG n mo2 x0 x1 x2 (IntKind.wrap .i64 (y1 + 1))))) else (some (Sum.inl ())))
def YJ (n : Nat) (x0 : (List zB)) (x1 : Int) (x2 : Int) : Option (Int) :=
  ((ZG n n x0 x1 x2 0).bind fun o => match o with | .inl _ => (zAG n) | .inr r => some r)
theorem zFz (n : Nat) (x0 : (List zB)) (x1 : Int) (x2 : Int) (r : Int) (H : YJ n x0 x1 x2 = some r) : zK Try.prog 153 [.val false [.sl false 5 (CV.frzEs (x0.map zB.row))],.val false [.lit (.int .i64 x1)],.val false [.lit (.int .i64 x2)]] [.val false [.lit (.int .i64 r)]] [] := by
 refine cW Try.func153 (fun g d => sl [g 0,sl [g 1] (.block 0 (.loop (sl [sl [g 2] (cn 11 .skip (.exit 0)),.block 1 (sl [g 4] (cn 29 (sl [g 5] .ret) .skip))] (g 3)))),g 6] .ret) [.tmp 6] fun cx => ?_
 unfold YJ at H
 refine gA 1 7 0 ?_
 refine tS ?_
 refine gA 1 135 0 ?_
 obtain ⟨o2,eo2,Ho2⟩ := bs H
 clear H
 refine Tr.mid (ι := Unit) (fun v => ⟨31,0,[],[]⟩) (fun v => zAG n = some r) ?_ ?_
 ·refine tB ?_
  refine Tr.loop (ι := Nat × (Int)) (fun v => ⟨31,0,[sI 7 v.2,sC 0 (cF 5 x0 zB.row),sI 1 x1,sI 2 x2],[]⟩) (fun v => ZG n v.1 x0 x1 x2 v.2 = some o2) (fun v => v.1) (n,0) eo2 (St.sub_of [7,0,1,2] [] kr) ?_
  rintro ⟨mo2,y1⟩ H
  have H : ZG n mo2 x0 x1 x2 y1 = some o2 := H
  obtain _ | mo2 := mo2
  ·exact nN H
  rw [ZG] at H
  refine tS ?_
  refine rA 2 ?_
  refine kF x0 zB.row ?_
  refine uA 1 2183 0 ?_
  obtain ⟨h1,H⟩ | ⟨h1,H⟩ := bC H
  ·refine nA h1 ?_
   refine Tr.exit ?_
   refine aJ ?_
   obtain rfl := si H
   have H := Ho2
   dsimp only at H
   exact jA () H [] []
  refine tA h1 ?_
  refine tK ?_
  refine tS ?_
  refine tB ?_
  refine rA 2 ?_
  obtain ⟨v3,ev3,H⟩ := bs H
  refine iA zB.row ev3 ?_
  refine lA 5 ?_
  refine sL 2097287 0 ⟨31,0,[sB 21 (v3.Tag == x1),sI 7 y1,sC 0 (cF 5 x0 zB.row),sI 1 x1,sI 2 x2],[]⟩ ?_
  cases h2 : (v3.Tag == x1)
  ·have H := zL h2 H
   refine uA 8 536871047 0 ?_
   refine nB_ ?_
   refine tK ?_
   refine eA 3 135 0 ?_
   exact jB mo2 (IntKind.wrap .i64 (y1 + 1)) H [7,0,1,2] []
  have H := zM h2 H
  refine lA 2 ?_
  obtain ⟨v4,ev4,H⟩ := bs H
  refine iA zB.row ev4 ?_
  refine uA 5 536871047 0 ?_
  obtain ⟨h3,H⟩ | ⟨h3,H⟩ := bC H
  ·refine nA h3 ?_
   refine tK ?_
   refine eA 3 135 0 ?_
   exact jB mo2 (IntKind.wrap .i64 (y1 + 1)) H [7,0,1,2] []
  refine tA h3 ?_
  refine gA 2 64 0 ?_
  refine te ?_
  obtain rfl := si H
  have H := Ho2
  dsimp only at H
  exact fJ [(false,[cI y1])] H
 rintro _ H
 have H : (zAG n) = some r := H
 unfold zAG at H
 refine gA 1 64 0 ?_
 exact te (fJ [(false,[cI (-1)])] H)
def qq (n : Nat) (x0 : zB) : Option (Bool) :=
  ((zX n x0.Tag 1 99).bind fun r1 => (bif r1 then ((zX n x0.Mac 1 9999).bind fun r2 => (bif r2 then ((zX n x0.Port 0 7).bind fun r3 => (bif r3 then ((zX n x0.Age 0 4).bind fun r4 => (bif r4 then (bif (!x0.Sc) then (some true) else (some (x0.Age == 0))) else (some false))) else (some false))) else (some false))) else (some false)))
theorem zAH (n : Nat) (x0 : zB) (r : Bool) (H : qq n x0 = some r) : zK Try.prog 155 [.val true (CV.frzRow (zB.row x0))] [.val false [.lit (.bool r)]] [] := by
 refine cW Try.func155 (fun g d => sl [g 0,g 1] .ret) [.tmp 2] fun cx => ?_
 unfold qq at H
 refine gA 2 2 2 ?_
 refine rA 2 ?_
 obtain ⟨r1,er1,H⟩ := bs H
 refine vA [.rd,.rd,.rd] (qI n x0.Tag 1 99 r1 er1) ?_
 refine lA 1 ?_
 refine sL 66 2 ⟨31,0,[sB 6 r1,sA 1 1 5 0],[(1,(zB.row x0))]⟩ ?_
 cases h1 : r1
 ·have H := zL h1 H
  refine uA 25 4 0 ?_
  exact te (fF H)
 have H := zM h1 H
 refine lA 2 ?_
 obtain ⟨r2,er2,H⟩ := bs H
 refine vA [.rd,.rd,.rd] (qI n x0.Mac 1 9999 r2 er2) ?_
 refine lA 2 ?_
 refine sL 2050 2 ⟨31,0,[sB 11 r2,sA 1 1 5 0],[(1,(zB.row x0))]⟩ ?_
 cases h2 : r2
 ·have H := zL h2 H
  refine uA 20 4 0 ?_
  exact te (fF H)
 have H := zM h2 H
 refine lA 2 ?_
 obtain ⟨r3,er3,H⟩ := bs H
 refine vA [.rd,.rd,.rd] (qI n x0.Port 0 7 r3 er3) ?_
 refine lA 2 ?_
 refine sL 65538 2 ⟨31,0,[sB 16 r3,sA 1 1 5 0],[(1,(zB.row x0))]⟩ ?_
 cases h3 : r3
 ·have H := zL h3 H
  refine uA 15 4 0 ?_
  exact te (fF H)
 have H := zM h3 H
 refine lA 2 ?_
 obtain ⟨r4,er4,H⟩ := bs H
 refine vA [.rd,.rd,.rd] (qI n x0.Age 0 4 r4 er4) ?_
 refine lA 2 ?_
 refine sL 2097154 2 ⟨31,0,[sB 21 r4,sA 1 1 5 0],[(1,(zB.row x0))]⟩ ?_
 cases h4 : r4
 ·have H := zL h4 H
  refine uA 10 4 0 ?_
  exact te (fF H)
 have H := zM h4 H
 refine lA 4 ?_
 refine sL 35651586 2 ⟨31,0,[sB 25 (!x0.Sc),sB 21 true,sA 1 1 5 0],[(1,(zB.row x0))]⟩ ?_
 cases h5 : (!x0.Sc)
 ·have H := zL h5 H
  refine uA 6 4 0 ?_
  exact te (fJ [(false,[cB (x0.Age == 0)])] H)
 have H := zM h5 H
 refine uA 6 4 0 ?_
 exact te (fT H)
def q3 (n : Nat) (x0 : zB) (x1 : Int) (x2 : Int) : Option (Bool) :=
  (bif (x0.Tag != x1) then (some (decide (x0.Tag < x1))) else (some (decide (x0.Mac < x2))))
theorem zDS (n : Nat) (x0 : zB) (x1 : Int) (x2 : Int) (r : Bool) (H : q3 n x0 x1 x2 = some r) : zK Try.prog 179 [.val true (CV.frzRow (zB.row x0)),.val false [.lit (.int .i64 x1)],.val false [.lit (.int .i64 x2)]] [.val false [.lit (.bool r)]] [] := by
 refine cW Try.func179 (fun g d => sl [g 0,sl [g 1] (cn 10 (sl [g 2] .ret) .skip),g 3] .ret) [.tmp 6] fun cx => ?_
 unfold q3 at H
 refine gA 2 14 8 ?_
 refine tS ?_
 refine gA 4 1038 8 ?_
 obtain ⟨h1,H⟩ | ⟨h1,H⟩ := bC H
 ·refine nA h1 ?_
  refine tK ?_
  refine gA 5 64 0 ?_
  exact te (fJ [(false,[cB (decide (x0.Mac < x2))])] H)
 refine tA h1 ?_
 refine gA 5 64 0 ?_
 exact te (fJ [(false,[cB (decide (x0.Tag < x1))])] H)
def YP (n : Nat) (x0 : (List zB)) : Option (Bool) :=
  (some (decide ((x0.length : Int) ≤ 12)))
def qD (n : Nat) : Nat → (List zB) → Int → Option ((Unit) ⊕ (Bool))
  | 0,_,_ => none
  | mo2 + 1,x0,y1 => (bif (decide (y1 < (x0.length : Int))) then ((idx x0 y1).bind fun v3 => ((qq n v3).bind fun r4 => (bif (!r4) then (some (Sum.inr false)) else (bif (decide (y1 > 0)) then ((idx x0 (IntKind.wrap .i64 (y1 - 1))).bind fun v5 => ((idx x0 y1).bind fun v6 => ((idx x0 y1).bind fun v7 => ((q3 n v5 v6.Tag v7.Mac).bind fun r8 => (bif (!r8) then (some (Sum.inr false)) else (qD n mo2 x0 (IntKind.wrap .i64 (y1 + 1)))))))) else (qD n mo2 x0 (IntKind.wrap .i64 (y1 + 1))))))) else (some (Sum.inl ())))
def qp (n : Nat) (x0 : (List zB)) : Option (Bool) :=
  ((qD n n x0 0).bind fun o => match o with | .inl _ => (YP n x0) | .inr r => some r)
def zJF : Tab := ⟨29,[0,0,3,4,8,16,48,64,192,320,512,512,2560,5632,8704,512,512,98816,131584,262656,512,512,3146240,4194816,8389120,17318400,33554944,67109440,134217792],[0,0,3,4,8,16,32,64,192,320,512,512,2560,5632,8704,512,512,98816,131584,262656,512,512,3146240,4194816,8389120,17318400,33554944,67109440,134217792],[0,0,3,7,15,31,63,127,255,511,1023,1023,3071,8191,16383,1023,1023,99327,230399,492543,1023,1023,3146751,7341055,15729663,33554431,67108863,134217727,268435455]⟩
theorem qa : qF (rg Try.f154 4) zJF = true := kr
theorem zEw (n : Nat) (x0 : (List zB)) (r : Bool) (H : qp n x0 = some r) : zK Try.prog 154 [.val false [.sl false 5 (CV.frzEs (x0.map zB.row))]] [.val false [.lit (.bool r)]] [] := by
 refine cW Try.func154 (fun g d => sl [g 0,sl [g 1] (.block 0 (.loop (sl [sl [g 2] (cn 7 .skip (.exit 0)),.block 1 (sl [d 4] (cn 38 (sl [g 5] .ret) .skip))] (g 3)))),g 6] .ret) [.tmp 2] fun cx => ?_
 unfold qp at H
 refine gA 1 1 0 ?_
 refine tS ?_
 refine gA 1 9 0 ?_
 obtain ⟨o2,eo2,Ho2⟩ := bs H
 clear H
 refine Tr.mid (ι := Unit) (fun v => ⟨42,0,[sC 0 (cF 5 x0 zB.row)],[]⟩) (fun v => YP n x0 = some r) ?_ ?_
 ·refine tB ?_
  refine Tr.loop (ι := Nat × (Int)) (fun v => ⟨42,0,[sI 3 v.2,sC 0 (cF 5 x0 zB.row)],[]⟩) (fun v => qD n v.1 x0 v.2 = some o2) (fun v => v.1) (n,0) eo2 (St.sub_of [3,0] [] kr) ?_
  rintro ⟨mo2,y1⟩ H
  have H : qD n mo2 x0 y1 = some o2 := H
  obtain _ | mo2 := mo2
  ·exact nN H
  rw [qD] at H
  refine tS ?_
  refine rA 2 ?_
  refine kF x0 zB.row ?_
  refine uA 1 137 0 ?_
  obtain ⟨h1,H⟩ | ⟨h1,H⟩ := bC H
  ·refine nA h1 ?_
   refine Tr.exit ?_
   refine aJ ?_
   obtain rfl := si H
   have H := Ho2
   dsimp only at H
   exact jA () H [0] []
  refine tA h1 ?_
  refine tK ?_
  refine tS ?_
  refine tB ?_
  obtain ⟨v3,ev3,H⟩ := bs H
  obtain ⟨r4,er4,H⟩ := bs H
  refine sT ⟨42,0,[sB 7 (decide (y1 < (x0.length : Int))),sI 3 y1,sC 0 (cF 5 x0 zB.row)],[]⟩ ?_
  cases h2 : (!r4)
  ·have H := zL h2 H
   refine sT ⟨42,0,[sB 7 (decide (y1 < (x0.length : Int))),sI 3 y1,sC 0 (cF 5 x0 zB.row)],[]⟩ ?_
   cases h3 : (decide (y1 > 0))
   ·have H := zL h3 H
    refine Tr.draws mixed 29 kr ⟨42,0,[sB 38 false,sI 3 y1,sC 0 (cF 5 x0 zB.row)],[]⟩ (fun cx => ?_) ?_
    ·refine mA qa [(0,[]),(1,[])] 27 [] fun cx => ?_
     refine iN qa 2 zB.row ev3 fun cx => ?_
     refine mA qa [(3,[])] 25 [] fun cx => ?_
     refine mC qa 4 ?_
     refine vA [.rd] (zAH n v3 r4 er4) ?_
     refine fA ?_
     refine mA qa [(5,[]),(6,[])] 22 [] fun cx => ?_
     refine sA_ 65545 0 ⟨42,0,[sB 16 (!r4),sI 3 y1,sC 0 (cF 5 x0 zB.row)],[]⟩ ?_
     rw [h2]
     refine mA qa [(7,[]),(8,[]),(9,[])] 19 [] fun cx => ?_
     refine sA_ 589833 0 ⟨42,0,[sB 19 (decide (y1 > 0)),sB 16 false,sI 3 y1,sC 0 (cF 5 x0 zB.row)],[]⟩ ?_
     rw [h3]
     refine mA qa [(10,[]),(11,[]),(12,[]),(13,[]),(14,[]),(15,[]),(16,[]),(17,[]),(18,[]),(19,[]),(20,[]),(21,[]),(22,[]),(23,[]),(24,[]),(25,[]),(26,[]),(27,[]),(28,[])] 0 [] fun cx => ?_
     exact mE qa [38,3,0] []
    refine nB_ ?_
    refine tK ?_
    refine eA 3 9 0 ?_
    exact jB mo2 (IntKind.wrap .i64 (y1 + 1)) H [3,0] []
   have H := zM h3 H
   obtain ⟨v5,ev5,H⟩ := bs H
   obtain ⟨v6,ev6,H⟩ := bs H
   obtain ⟨v7,ev7,H⟩ := bs H
   obtain ⟨r8,er8,H⟩ := bs H
   refine Tr.draws mixed 29 kr ⟨42,0,[sB 38 (!r8),sI 3 y1,sC 0 (cF 5 x0 zB.row)],[]⟩ (fun cx => ?_) ?_
   ·refine mA qa [(0,[]),(1,[])] 27 [] fun cx => ?_
    refine iN qa 2 zB.row ev3 fun cx => ?_
    refine mA qa [(3,[])] 25 [] fun cx => ?_
    refine mC qa 4 ?_
    refine vA [.rd] (zAH n v3 r4 er4) ?_
    refine fA ?_
    refine mA qa [(5,[]),(6,[])] 22 [] fun cx => ?_
    refine sA_ 65545 0 ⟨42,0,[sB 16 (!r4),sI 3 y1,sC 0 (cF 5 x0 zB.row)],[]⟩ ?_
    rw [h2]
    refine mA qa [(7,[]),(8,[]),(9,[])] 19 [] fun cx => ?_
    refine sA_ 589833 0 ⟨42,0,[sB 19 (decide (y1 > 0)),sB 16 false,sI 3 y1,sC 0 (cF 5 x0 zB.row)],[]⟩ ?_
    rw [h3]
    refine mA qa [(10,[]),(11,[]),(12,[])] 16 [] fun cx => ?_
    refine iN qa 13 zB.row ev5 fun cx => ?_
    refine mA qa [(14,[]),(15,[]),(16,[])] 12 [] fun cx => ?_
    refine iN qa 17 zB.row ev6 fun cx => ?_
    refine mA qa [(18,[]),(19,[]),(20,[]),(21,[])] 7 [] fun cx => ?_
    refine iN qa 22 zB.row ev7 fun cx => ?_
    refine mA qa [(23,[]),(24,[])] 4 [] fun cx => ?_
    refine mC qa 25 ?_
    refine vA [.rd,.rd,.rd] (zDS n v5 v6.Tag v7.Mac r8 er8) ?_
    refine fA ?_
    refine mA qa [(26,[]),(27,[]),(28,[])] 0 [] fun cx => ?_
    exact mE qa [38,3,0] []
   refine sT ⟨42,0,[sB 38 (!r8),sI 3 y1,sC 0 (cF 5 x0 zB.row)],[]⟩ ?_
   cases h4 : (!r8)
   ·have H := zL h4 H
    refine nB_ ?_
    refine tK ?_
    refine eA 3 9 0 ?_
    exact jB mo2 (IntKind.wrap .i64 (y1 + 1)) H [3,0] []
   have H := zM h4 H
   refine tB_ ?_
   refine gA 1 4 0 ?_
   refine te ?_
   obtain rfl := si H
   have H := Ho2
   dsimp only at H
   exact fF H
  have H := zM h2 H
  refine Tr.draws mixed 29 kr ⟨42,0,[sB 38 true,sI 3 y1,sC 0 (cF 5 x0 zB.row)],[]⟩ (fun cx => ?_) ?_
  ·refine mA qa [(0,[]),(1,[])] 27 [] fun cx => ?_
   refine iN qa 2 zB.row ev3 fun cx => ?_
   refine mA qa [(3,[])] 25 [] fun cx => ?_
   refine mC qa 4 ?_
   refine vA [.rd] (zAH n v3 r4 er4) ?_
   refine fA ?_
   refine mA qa [(5,[]),(6,[])] 22 [] fun cx => ?_
   refine sA_ 65545 0 ⟨42,0,[sB 16 (!r4),sI 3 y1,sC 0 (cF 5 x0 zB.row)],[]⟩ ?_
   rw [h2]
   refine mA qa [(7,[]),(8,[]),(9,[]),(10,[]),(11,[]),(12,[]),(13,[]),(14,[]),(15,[]),(16,[]),(17,[]),(18,[]),(19,[]),(20,[]),(21,[]),(22,[]),(23,[]),(24,[]),(25,[]),(26,[]),(27,[]),(28,[])] 0 [] fun cx => ?_
   exact mE qa [38,3,0] []
  refine tB_ ?_
  refine gA 1 4 0 ?_
  refine te ?_
  obtain rfl := si H
  have H := Ho2
  dsimp only at H
  exact fF H
 rintro _ H
 have H : (YP n x0) = some r := H
 unfold YP at H
 refine rA 1 ?_
 refine kF x0 zB.row ?_
 refine uA 2 4 0 ?_
 exact te (fJ [(false,[cB (decide ((x0.length : Int) ≤ 12))])] H)
def qS (n : Nat) (x0 : (List zB)) : Option ((List zB)) :=
  (bif (decide (([] : List zB).length + x0.length ≤ 268435456)) then (some (([] : List zB) ++ x0)) else none)
theorem QZ (n : Nat) (x0 : (List zB)) (r : (List zB)) (H : qS n x0 = some r) : zK Try.prog 156 [.val false [.sl false 5 (CV.frzEs (x0.map zB.row))]] [.val false [.sl true 5 (r.map zB.row)]] [] := by
 refine cW Try.func156 (fun g d => sl [g 0,g 1] .ret) [.tmp 2] fun cx => ?_
 unfold qS at H
 refine gA 1 1 0 ?_
 refine rA 2 ?_
 obtain ⟨hg1,H⟩ := gs H
 refine pD zB.row hg1 ?_
 refine LAt.moveU (T := lk tab) (ty := 36) (x := (.tmp 5)) (d := 2) (g := none) false [cL 5 (([] : List zB) ++ x0) zB.row] kr kr kr kr kr ?_
 refine dA 4 0 ?_
 exact te (fJ [(false,[cL 5 (([] : List zB) ++ x0) zB.row])] H)
def YT (n : Nat) (x1 : zB) (y4 : Bool) (y5 : (List zB)) : Option ((List zB)) :=
  (bif (!y4) then (bif (decide (y5.length + [x1].length ≤ 268435456)) then (some (y5 ++ [x1])) else none) else (some y5))
def ZV (n : Nat) (k : (Int × Bool × (List zB) → Option ((Bool × (List zB)) ⊕ ((List zB))))) (x0 : (List zB)) (x1 : zB) (y1 : Int) (y8 : Bool) (y9 : (List zB)) : Option ((Bool × (List zB)) ⊕ ((List zB))) :=
  ((idx x0 y1).bind fun v10 => (bif (v10.Tag != x1.Tag) then ((idx x0 y1).bind fun v14 => (bif (decide (y9.length + [v14].length ≤ 268435456)) then (k ((IntKind.wrap .i64 (y1 + 1)),y8,(y9 ++ [v14]))) else none)) else ((idx x0 y1).bind fun v11 => (bif (v11.Mac != x1.Mac) then ((idx x0 y1).bind fun v12 => (bif (decide (y9.length + [v12].length ≤ 268435456)) then (k ((IntKind.wrap .i64 (y1 + 1)),y8,(y9 ++ [v12]))) else none)) else (k ((IntKind.wrap .i64 (y1 + 1)),y8,y9))))))
def qY (n : Nat) : Nat → (List zB) → zB → Int → Bool → (List zB) → Option ((Bool × (List zB)) ⊕ ((List zB)))
  | 0,_,_,_,_,_ => none
  | mo7 + 1,x0,x1,y1,y2,y3 => (bif (decide (y1 < (x0.length : Int))) then (bif (!y2) then ((idx x0 y1).bind fun v16 => ((q3 n v16 x1.Tag x1.Mac).bind fun r17 => (bif (!r17) then (bif (decide (y3.length + [x1].length ≤ 268435456)) then (ZV n (fun v => qY n mo7 x0 x1 v.1 v.2.1 v.2.2) x0 x1 y1 true (y3 ++ [x1])) else none) else (ZV n (fun v => qY n mo7 x0 x1 v.1 v.2.1 v.2.2) x0 x1 y1 y2 y3)))) else (ZV n (fun v => qY n mo7 x0 x1 v.1 v.2.1 v.2.2) x0 x1 y1 y2 y3)) else (some (Sum.inl (y2,y3))))
def Zg (n : Nat) (x0 : (List zB)) (x1 : zB) : Option ((List zB)) :=
  ((qY n n x0 x1 0 false ([] : List zB)).bind fun o => match o with | .inl (y4,y5) => (YT n x1 y4 y5) | .inr r => some r)
def zJG : Tab := ⟨14,[0,1,2,4,4,28,36,4,132,4,516,1348,2052,4100],[0,1,2,4,4,28,36,4,132,4,516,1348,2052,4100],[0,1,3,7,7,31,63,7,135,7,519,2047,4095,8191]⟩
theorem JL : qF (rg Try.f157 6) zJG = true := kr
def zJH : Tab := ⟨18,[0,0,3,4,8,0,32,80,128,256,256,1792,2304,4352,256,16640,41216,65792],[0,0,3,4,8,0,32,80,128,256,256,1792,2304,4352,256,16640,41216,65792],[0,0,3,7,15,0,32,127,255,511,511,2047,4095,8191,511,16895,65535,131071]⟩
theorem YL : qF (rg Try.f157 9) zJH = true := kr
theorem JH (n : Nat) (x0 : (List zB)) (x1 : zB) (r : (List zB)) (H : Zg n x0 x1 = some r) : zK Try.prog 157 [.val false [.sl false 5 (CV.frzEs (x0.map zB.row))],.val true (CV.frzRow (zB.row x1))] [.val false [.sl true 5 (r.map zB.row)]] [] := by
 refine cW Try.func157 (fun g d => sl [g 0,g 1,g 2,sl [g 3] (.block 0 (.loop (sl [sl [g 4] (cn 12 .skip (.exit 0)),.block 1 (sl [sl [d 6] (cn 28 (sl [g 7] (g 8)) .skip),d 9] (cn 50 (g 10) .skip))] (g 5)))),sl [g 11] (cn 59 (g 12) .skip),g 13] .ret) [.tmp 4] fun cx => ?_
 unfold Zg at H
 refine gA 2 9 8 ?_
 refine rA 1 ?_
 refine LAt.moveU (T := lk tab) (ty := 36) (x := (.tmp 8)) (d := 5) (g := none) false [cL 5 ([] : List zB) zB.row] kr kr kr kr kr ?_
 refine dA 41 8 ?_
 refine gA 1 105 8 ?_
 refine tS ?_
 refine gA 1 233 8 ?_
 obtain ⟨o7,eo7,Ho7⟩ := bs H
 clear H
 refine Tr.mid (ι := Bool × (List zB)) (fun v => ⟨65,0,[sB 6 v.1,sC 5 (cL 5 v.2 zB.row),sA 3 3 5 0],[(3,(zB.row x1))]⟩) (fun v => YT n x1 v.1 v.2 = some r) ?_ ?_
 ·refine tB ?_
  refine Tr.loop (ι := Nat × (Int × Bool × (List zB))) (fun v => ⟨65,0,[sI 7 v.2.1,sB 6 v.2.2.1,sC 5 (cL 5 v.2.2.2 zB.row),sA 3 3 5 0,sC 0 (cF 5 x0 zB.row)],[(3,(zB.row x1))]⟩) (fun v => qY n v.1 x0 x1 v.2.1 v.2.2.1 v.2.2.2 = some o7) (fun v => v.1) (n,(0,false,([] : List zB))) eo7 (St.sub_of [7,6,5,3,0] [3] kr) ?_
  rintro ⟨mo7,y1,y2,y3⟩ H
  have H : qY n mo7 x0 x1 y1 y2 y3 = some o7 := H
  obtain _ | mo7 := mo7
  ·exact nN H
  rw [qY] at H
  refine tS ?_
  refine rA 2 ?_
  refine kF x0 zB.row ?_
  refine uA 1 4329 8 ?_
  obtain ⟨h2,H⟩ | ⟨h2,H⟩ := bC H
  ·refine nA h2 ?_
   refine Tr.exit ?_
   refine aJ ?_
   obtain rfl := si H
   have H := Ho7
   dsimp only at H
   exact jA (y2,y3) H [6,5,3] [3]
  refine tA h2 ?_
  refine tK ?_
  refine tS ?_
  refine tB ?_
  refine tS ?_
  refine Tr.mid (ι := Bool × (List zB)) (fun v => ⟨65,0,[sI 7 y1,sB 6 v.1,sC 5 (cL 5 v.2 zB.row),sA 3 3 5 0,sC 0 (cF 5 x0 zB.row)],[(3,(zB.row x1))]⟩) (fun v => ZV n (fun v => qY n mo7 x0 x1 v.1 v.2.1 v.2.2) x0 x1 y1 v.1 v.2 = some o7) ?_ ?_
  ·refine tS ?_
   refine sT ⟨65,0,[sB 12 (decide (y1 < (x0.length : Int))),sI 7 y1,sB 6 y2,sC 5 (cL 5 y3 zB.row),sA 3 3 5 0,sC 0 (cF 5 x0 zB.row)],[(3,(zB.row x1))]⟩ ?_
   cases h5 : (!y2)
   ·have H := zL h5 H
    refine Tr.draw mixed 14 kr ⟨65,0,[sB 28 false,sI 7 y1,sB 6 y2,sC 5 (cL 5 y3 zB.row),sA 3 3 5 0,sC 0 (cF 5 x0 zB.row)],[(3,(zB.row x1))]⟩ (fun cx => ?_) ?_
    ·refine mA JL [(0,[]),(1,[]),(2,[])] 11 [] fun cx => ?_
     refine sA_ 131305 8 ⟨65,0,[sB 17 (!y2),sI 7 y1,sB 6 y2,sC 5 (cL 5 y3 zB.row),sA 3 3 5 0,sC 0 (cF 5 x0 zB.row)],[(3,(zB.row x1))]⟩ ?_
     rw [h5]
     refine mA JL [(3,[]),(4,[]),(5,[]),(6,[]),(7,[]),(8,[]),(9,[]),(10,[]),(11,[]),(12,[]),(13,[])] 0 [] fun cx => ?_
     exact mE JL [28,7,6,5,3,0] [3]
    refine nB_ ?_
    refine tK ?_
    exact jA (y2,y3) H [7,6,5,3,0] [3]
   have H := zM h5 H
   obtain ⟨v16,ev16,H⟩ := bs H
   obtain ⟨r17,er17,H⟩ := bs H
   refine Tr.draw mixed 14 kr ⟨65,0,[sB 28 (!r17),sI 7 y1,sB 6 y2,sC 5 (cL 5 y3 zB.row),sA 3 3 5 0,sC 0 (cF 5 x0 zB.row)],[(3,(zB.row x1))]⟩ (fun cx => ?_) ?_
   ·refine mA JL [(0,[]),(1,[]),(2,[])] 11 [] fun cx => ?_
    refine sA_ 131305 8 ⟨65,0,[sB 17 (!y2),sI 7 y1,sB 6 y2,sC 5 (cL 5 y3 zB.row),sA 3 3 5 0,sC 0 (cF 5 x0 zB.row)],[(3,(zB.row x1))]⟩ ?_
    rw [h5]
    refine mA JL [(3,[]),(4,[])] 9 [] fun cx => ?_
    refine iN JL 5 zB.row ev16 fun cx => ?_
    refine mA JL [(6,[]),(7,[]),(8,[11]),(9,[]),(10,[11])] 3 [⟨[11],3,24,25⟩,⟨[11],3,22,23⟩] fun cx => ?_
    refine mC JL 11 ?_
    refine vA [.rd,.rd,.rd] (zDS n v16 x1.Tag x1.Mac r17 er17) ?_
    refine fA ?_
    refine mA JL [(12,[]),(13,[])] 0 [⟨[11],3,24,25⟩,⟨[11],3,22,23⟩] fun cx => ?_
    exact mE JL [28,7,6,5,3,0] [3]
   refine sT ⟨65,0,[sB 28 (!r17),sI 7 y1,sB 6 y2,sC 5 (cL 5 y3 zB.row),sA 3 3 5 0,sC 0 (cF 5 x0 zB.row)],[(3,(zB.row x1))]⟩ ?_
   cases h6 : (!r17)
   ·have H := zL h6 H
    refine nB_ ?_
    refine tK ?_
    exact jA (y2,y3) H [7,6,5,3,0] [3]
   have H := zM h6 H
   refine tB_ ?_
   refine rA 3 ?_
   obtain ⟨hg18,H⟩ := gs H
   refine LAt.appMU tOk (t := 36) (ty := 36) (e := 60) (x := (.tmp 29)) (y := (.tmp 31)) (d := 32) (g := none) (tI 60) zB.row y3 [x1] kr kr kr kr kr kr kr kr kr kr hg18 ?_
   refine LAt.moveU (T := lk tab) (ty := 36) (x := (.tmp 32)) (d := 5) (g := none) false [cL 5 (y3 ++ [x1]) zB.row] kr kr kr kr kr ?_
   refine dA 169 8 ?_
   refine eA 1 233 8 ?_
   exact jA (true,(y3 ++ [x1])) H [7,6,5,3,0] [3]
  rintro ⟨y8,y9⟩ H
  have H : (ZV n (fun v => qY n mo7 x0 x1 v.1 v.2.1 v.2.2) x0 x1 y1 y8 y9) = some o7 := H
  unfold ZV at H
  refine tS ?_
  obtain ⟨v10,ev10,H⟩ := bs H
  refine sT ⟨65,0,[sI 7 y1,sB 6 y8,sC 5 (cL 5 y9 zB.row),sA 3 3 5 0,sC 0 (cF 5 x0 zB.row)],[(3,(zB.row x1))]⟩ ?_
  cases h3 : (v10.Tag != x1.Tag)
  ·have H := zL h3 H
   obtain ⟨v11,ev11,H⟩ := bs H
   refine Tr.draw mixed 18 kr ⟨65,0,[sB 50 (v11.Mac != x1.Mac),sI 7 y1,sB 6 y8,sC 5 (cL 5 y9 zB.row),sA 3 3 5 0,sC 0 (cF 5 x0 zB.row)],[(3,(zB.row x1))]⟩ (fun cx => ?_) ?_
   ·refine mA YL [(0,[]),(1,[])] 16 [] fun cx => ?_
    refine iN YL 2 zB.row ev10 fun cx => ?_
    refine mA YL [(3,[]),(4,[]),(5,[]),(6,[]),(7,[]),(8,[])] 9 [⟨[],3,38,39⟩] fun cx => ?_
    refine sA_ 3023656976617 8 ⟨65,0,[sB 41 (v10.Tag != x1.Tag),sI 39 x1.Tag,sA 38 3 5 0,sI 7 y1,sB 6 y8,sC 5 (cL 5 y9 zB.row),sA 3 3 5 0,sC 0 (cF 5 x0 zB.row)],[(3,(zB.row x1))]⟩ ?_
    rw [h3]
    refine mA YL [(9,[]),(10,[])] 7 [⟨[],3,38,39⟩] fun cx => ?_
    refine iN YL 11 zB.row ev11 fun cx => ?_
    refine mA YL [(12,[]),(13,[]),(14,[]),(15,[]),(16,[]),(17,[])] 0 [⟨[],3,47,48⟩,⟨[],3,38,39⟩] fun cx => ?_
    exact mE YL [50,7,6,5,3,0] [3]
   refine sT ⟨65,0,[sB 50 (v11.Mac != x1.Mac),sI 7 y1,sB 6 y8,sC 5 (cL 5 y9 zB.row),sA 3 3 5 0,sC 0 (cF 5 x0 zB.row)],[(3,(zB.row x1))]⟩ ?_
   cases h4 : (v11.Mac != x1.Mac)
   ·have H := zL h4 H
    refine nB_ ?_
    refine tK ?_
    refine eA 3 233 8 ?_
    exact jB mo7 ((IntKind.wrap .i64 (y1 + 1)),y8,y9) H [7,6,5,3,0] [3]
   have H := zM h4 H
   refine tB_ ?_
   refine Tr.at ?_
   refine lA 3 ?_
   obtain ⟨v12,ev12,H⟩ := bs H
   refine iA zB.row ev12 ?_
   refine lA 2 ?_
   obtain ⟨hg13,H⟩ := gs H
   refine LAt.appMU tOk (t := 36) (ty := 36) (e := 60) (x := (.tmp 51)) (y := (.tmp 56)) (d := 57) (g := none) (tI 60) zB.row y9 [v12] kr kr kr kr kr kr kr kr kr kr hg13 ?_
   refine LAt.moveU (T := lk tab) (ty := 36) (x := (.tmp 57)) (d := 5) (g := none) false [cL 5 (y9 ++ [v12]) zB.row] kr kr kr kr kr ?_
   refine dA 233 8 ?_
   refine eA 3 233 8 ?_
   exact jB mo7 ((IntKind.wrap .i64 (y1 + 1)),y8,(y9 ++ [v12])) H [7,6,5,3,0] [3]
  have H := zM h3 H
  refine Tr.draw mixed 18 kr ⟨65,0,[sB 50 true,sI 7 y1,sB 6 y8,sC 5 (cL 5 y9 zB.row),sA 3 3 5 0,sC 0 (cF 5 x0 zB.row)],[(3,(zB.row x1))]⟩ (fun cx => ?_) ?_
  ·refine mA YL [(0,[]),(1,[])] 16 [] fun cx => ?_
   refine iN YL 2 zB.row ev10 fun cx => ?_
   refine mA YL [(3,[]),(4,[]),(5,[]),(6,[]),(7,[]),(8,[])] 9 [⟨[],3,38,39⟩] fun cx => ?_
   refine sA_ 3023656976617 8 ⟨65,0,[sB 41 (v10.Tag != x1.Tag),sI 39 x1.Tag,sA 38 3 5 0,sI 7 y1,sB 6 y8,sC 5 (cL 5 y9 zB.row),sA 3 3 5 0,sC 0 (cF 5 x0 zB.row)],[(3,(zB.row x1))]⟩ ?_
   rw [h3]
   refine mA YL [(9,[]),(10,[]),(11,[]),(12,[]),(13,[]),(14,[]),(15,[]),(16,[]),(17,[])] 0 [⟨[],3,38,39⟩] fun cx => ?_
   exact mE YL [50,7,6,5,3,0] [3]
  refine tB_ ?_
  refine Tr.at ?_
  refine lA 3 ?_
  obtain ⟨v14,ev14,H⟩ := bs H
  refine iA zB.row ev14 ?_
  refine lA 2 ?_
  obtain ⟨hg15,H⟩ := gs H
  refine LAt.appMU tOk (t := 36) (ty := 36) (e := 60) (x := (.tmp 51)) (y := (.tmp 56)) (d := 57) (g := none) (tI 60) zB.row y9 [v14] kr kr kr kr kr kr kr kr kr kr hg15 ?_
  refine LAt.moveU (T := lk tab) (ty := 36) (x := (.tmp 57)) (d := 5) (g := none) false [cL 5 (y9 ++ [v14]) zB.row] kr kr kr kr kr ?_
  refine dA 233 8 ?_
  refine eA 3 233 8 ?_
  exact jB mo7 ((IntKind.wrap .i64 (y1 + 1)),y8,(y9 ++ [v14])) H [7,6,5,3,0] [3]
 rintro ⟨y4,y5⟩ H
 have H : (YT n x1 y4 y5) = some r := H
 unfold YT at H
 refine tS ?_
 refine gA 2 0x800000000000028 8 ?_
 obtain ⟨h1,H⟩ | ⟨h1,H⟩ := bC H
 ·refine nA h1 ?_
  refine tK ?_
  refine gA 2 48 0 ?_
  exact te (fJ [(false,[cL 5 y5 zB.row])] H)
 refine tA h1 ?_
 refine Tr.at ?_
 refine lA 3 ?_
 obtain ⟨hg6,H⟩ := gs H
 refine LAt.appMU tOk (t := 36) (ty := 36) (e := 60) (x := (.tmp 60)) (y := (.tmp 62)) (d := 63) (g := none) (tI 60) zB.row y5 [x1] kr kr kr kr kr kr kr kr kr kr hg6 ?_
 refine LAt.moveU (T := lk tab) (ty := 36) (x := (.tmp 63)) (d := 5) (g := none) false [cL 5 (y5 ++ [x1]) zB.row] kr kr kr kr kr ?_
 refine dA 32 0 ?_
 refine gA 2 48 0 ?_
 exact te (fJ [(false,[cL 5 (y5 ++ [x1]) zB.row])] H)
def YZ (n : Nat) (x0 : (List zB)) (x1 : Int) (x2 : Int) (x3 : Int) : Option ((List zB)) :=
  ((YJ n x0 x1 x2).bind fun r1 => ((qp n x0).bind fun r2 => (bif (!r2) then ((qS n x0).bind fun r13 => (some r13)) else ((qq n (⟨x1,x2,x3,0,false⟩ : zB)).bind fun r3 => (bif (!r3) then ((qS n x0).bind fun r12 => (some r12)) else (bif (decide (r1 ≥ 0)) then ((idx x0 r1).bind fun v7 => (bif v7.Sc then ((qS n x0).bind fun r11 => (some r11)) else (bif (decide (r1 < 0)) then (bif (decide ((x0.length : Int) ≥ 12)) then ((qS n x0).bind fun r10 => (some r10)) else ((Zg n x0 (⟨x1,x2,x3,0,false⟩ : zB)).bind fun r9 => (some r9))) else ((Zg n x0 (⟨x1,x2,x3,0,false⟩ : zB)).bind fun r8 => (some r8))))) else (bif (decide (r1 < 0)) then (bif (decide ((x0.length : Int) ≥ 12)) then ((qS n x0).bind fun r6 => (some r6)) else ((Zg n x0 (⟨x1,x2,x3,0,false⟩ : zB)).bind fun r5 => (some r5))) else ((Zg n x0 (⟨x1,x2,x3,0,false⟩ : zB)).bind fun r4 => (some r4)))))))))
theorem zEx (n : Nat) (x0 : (List zB)) (x1 : Int) (x2 : Int) (x3 : Int) (r : (List zB)) (H : YZ n x0 x1 x2 x3 = some r) : zK Try.prog 98 [.val false [.sl false 5 (CV.frzEs (x0.map zB.row))],.val false [.lit (.int .i64 x1)],.val false [.lit (.int .i64 x2)],.val false [.lit (.int .i64 x3)]] [.val false [.sl true 5 (r.map zB.row)]] [] := by
 refine cW Try.func98 (fun g d => sl [g 0,g 1,g 2,sl [g 3] (cn 46 (sl [g 4] .ret) .skip),g 5] .ret) [.tmp 8] fun cx => ?_
 unfold YZ at H
 refine gA 1 15 0 ?_
 refine gA 6 519 512 ?_
 refine rA 3 ?_
 obtain ⟨r1,er1,H⟩ := bs H
 refine vA [.rd,.rd,.rd] (zFz n x0 x1 x2 r1 er1) ?_
 refine uA 1 1537 512 ?_
 refine tS ?_
 refine rA 1 ?_
 obtain ⟨r2,er2,H⟩ := bs H
 refine vA [.rd] (zEw n x0 r2 er2) ?_
 refine lA 2 ?_
 refine sL 4195841 512 ⟨52,0,[sB 22 (!r2),sI 10 r1,sA 9 9 5 0,sC 0 (cF 5 x0 zB.row)],[(9,[cI x1,cI x2,cI x3,cI 0,cB false])]⟩ ?_
 cases h1 : (!r2)
 ·have H := zL h1 H
  refine lA 1 ?_
  obtain ⟨r3,er3,H⟩ := bs H
  refine vA [.rd] (zAH n (⟨x1,x2,x3,0,false⟩ : zB) r3 er3) ?_
  refine lA 3 ?_
  refine sL 134219265 512 ⟨52,0,[sB 27 (!r3),sI 10 r1,sA 9 9 5 0,sC 0 (cF 5 x0 zB.row)],[(9,[cI x1,cI x2,cI x3,cI 0,cB false])]⟩ ?_
  cases h2 : (!r3)
  ·have H := zL h2 H
   refine lA 3 ?_
   refine sL 1207961089 512 ⟨52,0,[sB 30 (decide (r1 ≥ 0)),sB 27 false,sI 10 r1,sA 9 9 5 0,sC 0 (cF 5 x0 zB.row)],[(9,[cI x1,cI x2,cI x3,cI 0,cB false])]⟩ ?_
   cases h3 : (decide (r1 ≥ 0))
   ·have H := zL h3 H
    refine lA 11 ?_
    refine sL 2473901163009 512 ⟨52,0,[sB 41 (decide (r1 < 0)),sB 38 false,sA 9 9 5 0,sC 0 (cF 5 x0 zB.row)],[(9,[cI x1,cI x2,cI x3,cI 0,cB false])]⟩ ?_
    cases h4 : (decide (r1 < 0))
    ·have H := zL h4 H
     refine uA 5 70368744178177 512 ?_
     refine nB_ ?_
     refine tK ?_
     refine rA 2 ?_
     obtain ⟨r4,er4,H⟩ := bs H
     refine vA [.rd,.rd] (JH n x0 (⟨x1,x2,x3,0,false⟩ : zB) r4 er4) ?_
     refine LAt.moveU (T := lk tab) (ty := 36) (x := (.tmp 51)) (d := 8) (g := none) false [cL 5 r4 zB.row] kr kr kr kr kr ?_
     refine dA 256 0 ?_
     exact te (fJ [(false,[cL 5 r4 zB.row])] H)
    have H := zM h4 H
    refine lA 1 ?_
    refine kF x0 zB.row ?_
    refine uA 3 70368744178177 512 ?_
    obtain ⟨h5,H⟩ | ⟨h5,H⟩ := bC H
    ·refine nA h5 ?_
     refine tK ?_
     refine rA 2 ?_
     obtain ⟨r5,er5,H⟩ := bs H
     refine vA [.rd,.rd] (JH n x0 (⟨x1,x2,x3,0,false⟩ : zB) r5 er5) ?_
     refine LAt.moveU (T := lk tab) (ty := 36) (x := (.tmp 51)) (d := 8) (g := none) false [cL 5 r5 zB.row] kr kr kr kr kr ?_
     refine dA 256 0 ?_
     exact te (fJ [(false,[cL 5 r5 zB.row])] H)
    refine tA h5 ?_
    refine rA 1 ?_
    obtain ⟨r6,er6,H⟩ := bs H
    refine vA [.rd] (QZ n x0 r6 er6) ?_
    refine LAt.moveU (T := lk tab) (ty := 36) (x := (.tmp 48)) (d := 8) (g := none) false [cL 5 r6 zB.row] kr kr kr kr kr ?_
    refine dA 256 0 ?_
    exact te (fJ [(false,[cL 5 r6 zB.row])] H)
   have H := zM h3 H
   refine lA 2 ?_
   obtain ⟨v7,ev7,H⟩ := bs H
   refine iA zB.row ev7 ?_
   refine lA 5 ?_
   refine sL 274877908481 512 ⟨52,0,[sB 38 v7.Sc,sI 10 r1,sA 9 9 5 0,sC 0 (cF 5 x0 zB.row)],[(9,[cI x1,cI x2,cI x3,cI 0,cB false])]⟩ ?_
   cases h6 : v7.Sc
   ·have H := zL h6 H
    refine lA 3 ?_
    refine sL 2473901163009 512 ⟨52,0,[sB 41 (decide (r1 < 0)),sB 38 false,sA 9 9 5 0,sC 0 (cF 5 x0 zB.row)],[(9,[cI x1,cI x2,cI x3,cI 0,cB false])]⟩ ?_
    cases h7 : (decide (r1 < 0))
    ·have H := zL h7 H
     refine uA 5 70368744178177 512 ?_
     refine nB_ ?_
     refine tK ?_
     refine rA 2 ?_
     obtain ⟨r8,er8,H⟩ := bs H
     refine vA [.rd,.rd] (JH n x0 (⟨x1,x2,x3,0,false⟩ : zB) r8 er8) ?_
     refine LAt.moveU (T := lk tab) (ty := 36) (x := (.tmp 51)) (d := 8) (g := none) false [cL 5 r8 zB.row] kr kr kr kr kr ?_
     refine dA 256 0 ?_
     exact te (fJ [(false,[cL 5 r8 zB.row])] H)
    have H := zM h7 H
    refine lA 1 ?_
    refine kF x0 zB.row ?_
    refine uA 3 70368744178177 512 ?_
    obtain ⟨h8,H⟩ | ⟨h8,H⟩ := bC H
    ·refine nA h8 ?_
     refine tK ?_
     refine rA 2 ?_
     obtain ⟨r9,er9,H⟩ := bs H
     refine vA [.rd,.rd] (JH n x0 (⟨x1,x2,x3,0,false⟩ : zB) r9 er9) ?_
     refine LAt.moveU (T := lk tab) (ty := 36) (x := (.tmp 51)) (d := 8) (g := none) false [cL 5 r9 zB.row] kr kr kr kr kr ?_
     refine dA 256 0 ?_
     exact te (fJ [(false,[cL 5 r9 zB.row])] H)
    refine tA h8 ?_
    refine rA 1 ?_
    obtain ⟨r10,er10,H⟩ := bs H
    refine vA [.rd] (QZ n x0 r10 er10) ?_
    refine LAt.moveU (T := lk tab) (ty := 36) (x := (.tmp 48)) (d := 8) (g := none) false [cL 5 r10 zB.row] kr kr kr kr kr ?_
    refine dA 256 0 ?_
    exact te (fJ [(false,[cL 5 r10 zB.row])] H)
   have H := zM h6 H
   refine uA 8 70368744178177 512 ?_
   refine tB_ ?_
   refine rA 1 ?_
   obtain ⟨r11,er11,H⟩ := bs H
   refine vA [.rd] (QZ n x0 r11 er11) ?_
   refine LAt.moveU (T := lk tab) (ty := 36) (x := (.tmp 48)) (d := 8) (g := none) false [cL 5 r11 zB.row] kr kr kr kr kr ?_
   refine dA 256 0 ?_
   exact te (fJ [(false,[cL 5 r11 zB.row])] H)
  have H := zM h2 H
  refine uA 19 70368744178177 512 ?_
  refine tB_ ?_
  refine rA 1 ?_
  obtain ⟨r12,er12,H⟩ := bs H
  refine vA [.rd] (QZ n x0 r12 er12) ?_
  refine LAt.moveU (T := lk tab) (ty := 36) (x := (.tmp 48)) (d := 8) (g := none) false [cL 5 r12 zB.row] kr kr kr kr kr ?_
  refine dA 256 0 ?_
  exact te (fJ [(false,[cL 5 r12 zB.row])] H)
 have H := zM h1 H
 refine uA 24 70368744178177 512 ?_
 refine tB_ ?_
 refine rA 1 ?_
 obtain ⟨r13,er13,H⟩ := bs H
 refine vA [.rd] (QZ n x0 r13 er13) ?_
 refine LAt.moveU (T := lk tab) (ty := 36) (x := (.tmp 48)) (d := 8) (g := none) false [cL 5 r13 zB.row] kr kr kr kr kr ?_
 refine dA 256 0 ?_
 exact te (fJ [(false,[cL 5 r13 zB.row])] H)
def QI (n : Nat) (x0 : (List zB)) (x1 : Int) (x2 : Int) (x3 : Int) : Option ((List zB) × Bool) :=
  ((qp n x0).bind fun r1 => (bif (!r1) then ((qS n x0).bind fun r8 => (some (r8,false))) else ((qq n (⟨x1,x2,x3,0,true⟩ : zB)).bind fun r2 => (bif (!r2) then ((qS n x0).bind fun r7 => (some (r7,false))) else ((YJ n x0 x1 x2).bind fun r3 => (bif (decide (r3 < 0)) then (bif (decide ((x0.length : Int) ≥ 12)) then ((qS n x0).bind fun r6 => (some (r6,false))) else ((Zg n x0 (⟨x1,x2,x3,0,true⟩ : zB)).bind fun r5 => (some (r5,true)))) else ((Zg n x0 (⟨x1,x2,x3,0,true⟩ : zB)).bind fun r4 => (some (r4,true)))))))))
theorem zCI (n : Nat) (x0 : (List zB)) (x1 : Int) (x2 : Int) (x3 : Int) (r : (List zB) × Bool) (H : QI n x0 x1 x2 x3 = some r) : zK Try.prog 101 [.val false [.sl false 5 (CV.frzEs (x0.map zB.row))],.val false [.lit (.int .i64 x1)],.val false [.lit (.int .i64 x2)],.val false [.lit (.int .i64 x3)]] [.val false [.sl true 5 (r.1.map zB.row)],.val false [.lit (.bool r.2)]] [] := by
 refine cW Try.func101 (fun g d => sl [g 0,g 1,sl [g 2] (cn 34 (sl [g 3] .ret) .skip),g 4] .ret) [.tmp 8,.tmp 9] fun cx => ?_
 unfold QI at H
 refine gA 2 15 0 ?_
 refine gA 6 1031 1024 ?_
 refine tS ?_
 refine rA 1 ?_
 obtain ⟨r1,er1,H⟩ := bs H
 refine vA [.rd] (zEw n x0 r1 er1) ?_
 refine lA 2 ?_
 refine sL 263175 1024 ⟨40,0,[sB 18 (!r1),sA 10 10 5 0,sC 0 (cF 5 x0 zB.row),sI 1 x1,sI 2 x2],[(10,[cI x1,cI x2,cI x3,cI 0,cB true])]⟩ ?_
 cases h1 : (!r1)
 ·have H := zL h1 H
  refine lA 1 ?_
  obtain ⟨r2,er2,H⟩ := bs H
  refine vA [.rd] (zAH n (⟨x1,x2,x3,0,true⟩ : zB) r2 er2) ?_
  refine lA 3 ?_
  refine sL 8389639 1024 ⟨40,0,[sB 23 (!r2),sA 10 10 5 0,sC 0 (cF 5 x0 zB.row),sI 1 x1,sI 2 x2],[(10,[cI x1,cI x2,cI x3,cI 0,cB true])]⟩ ?_
  cases h2 : (!r2)
  ·have H := zL h2 H
   refine lA 3 ?_
   obtain ⟨r3,er3,H⟩ := bs H
   refine vA [.rd,.rd,.rd] (zFz n x0 x1 x2 r3 er3) ?_
   refine lA 2 ?_
   refine sL 545260545 1024 ⟨40,0,[sB 29 (decide (r3 < 0)),sB 23 false,sA 10 10 5 0,sC 0 (cF 5 x0 zB.row)],[(10,[cI x1,cI x2,cI x3,cI 0,cB true])]⟩ ?_
   cases h3 : (decide (r3 < 0))
   ·have H := zL h3 H
    refine uA 5 17179870209 1024 ?_
    refine nB_ ?_
    refine tK ?_
    refine rA 2 ?_
    obtain ⟨r4,er4,H⟩ := bs H
    refine vA [.rd,.rd] (JH n x0 (⟨x1,x2,x3,0,true⟩ : zB) r4 er4) ?_
    refine LAt.moveU (T := lk tab) (ty := 36) (x := (.tmp 39)) (d := 8) (g := none) false [cL 5 r4 zB.row] kr kr kr kr kr ?_
    refine uA 1 768 0 ?_
    exact te (fJ [(false,[cL 5 r4 zB.row]),(false,[cB true])] H)
   have H := zM h3 H
   refine lA 1 ?_
   refine kF x0 zB.row ?_
   refine uA 3 17179870209 1024 ?_
   obtain ⟨h4,H⟩ | ⟨h4,H⟩ := bC H
   ·refine nA h4 ?_
    refine tK ?_
    refine rA 2 ?_
    obtain ⟨r5,er5,H⟩ := bs H
    refine vA [.rd,.rd] (JH n x0 (⟨x1,x2,x3,0,true⟩ : zB) r5 er5) ?_
    refine LAt.moveU (T := lk tab) (ty := 36) (x := (.tmp 39)) (d := 8) (g := none) false [cL 5 r5 zB.row] kr kr kr kr kr ?_
    refine uA 1 768 0 ?_
    exact te (fJ [(false,[cL 5 r5 zB.row]),(false,[cB true])] H)
   refine tA h4 ?_
   refine rA 1 ?_
   obtain ⟨r6,er6,H⟩ := bs H
   refine vA [.rd] (QZ n x0 r6 er6) ?_
   refine LAt.moveU (T := lk tab) (ty := 36) (x := (.tmp 36)) (d := 8) (g := none) false [cL 5 r6 zB.row] kr kr kr kr kr ?_
   refine uA 1 768 0 ?_
   exact te (fJ [(false,[cL 5 r6 zB.row]),(false,[cB false])] H)
  have H := zM h2 H
  refine uA 11 17179870209 1024 ?_
  refine tB_ ?_
  refine rA 1 ?_
  obtain ⟨r7,er7,H⟩ := bs H
  refine vA [.rd] (QZ n x0 r7 er7) ?_
  refine LAt.moveU (T := lk tab) (ty := 36) (x := (.tmp 36)) (d := 8) (g := none) false [cL 5 r7 zB.row] kr kr kr kr kr ?_
  refine uA 1 768 0 ?_
  exact te (fJ [(false,[cL 5 r7 zB.row]),(false,[cB false])] H)
 have H := zM h1 H
 refine uA 16 17179870209 1024 ?_
 refine tB_ ?_
 refine rA 1 ?_
 obtain ⟨r8,er8,H⟩ := bs H
 refine vA [.rd] (QZ n x0 r8 er8) ?_
 refine LAt.moveU (T := lk tab) (ty := 36) (x := (.tmp 36)) (d := 8) (g := none) false [cL 5 r8 zB.row] kr kr kr kr kr ?_
 refine uA 1 768 0 ?_
 exact te (fJ [(false,[cL 5 r8 zB.row]),(false,[cB false])] H)
def Zm (n : Nat) (r3 : zA) (r4 : ByteArray × Src) (r5 : (List Pt) × Src) (r6 : zD × Src) (y17 : (List Int)) (y18 : Int) (y19 : Int) (y20 : (List zB)) : Option (zA × Src) :=
  ((zJ n (⟨y17,y18,y19⟩ : Src) 5).bind fun r21 => ((ze n r21.2 [0,1,5,1000000]).bind fun r22 => (some ((⟨r3.Id,r4.1,r5.1,y20,r6.1,r21.1,r3.Pa,r3.Wo,r3.Dr,r22.1⟩ : zA),r22.2))))
def QJ (n : Nat) (r1 : Int × Src) (r3 : zA) (r4 : ByteArray × Src) (r5 : (List Pt) × Src) (r6 : zD × Src) (y13 : (List Int)) (y14 : Int) (y15 : Int) (y16 : (List zB)) : Option (zA × Src) :=
  ((Zo n (⟨y13,y14,y15⟩ : Src) 3).bind fun r23 => (bif r23.1 then ((QX n r23.2).bind fun r24 => ((zJ n r24.2 (IntKind.wrap .i64 (1 + r1.1))).bind fun r25 => ((QI n y16 1 r24.1 r25.1).bind fun r26 => (Zm n r3 r4 r5 r6 r25.2.b r25.2.i r25.2.h r26.1)))) else (Zm n r3 r4 r5 r6 r23.2.b r23.2.i r23.2.h y16)))
def ZR (n : Nat) : Nat → Int × Src → Int → (List Int) → Int → Int → (List zB) → Option (((List Int) × Int × Int × (List zB)) ⊕ (zA × Src))
  | 0,_,_,_,_,_,_ => none
  | mo27 + 1,r1,y8,y9,y10,y11,y12 => (bif (decide (y8 > 0)) then ((zJ n (⟨y9,y10,y11⟩ : Src) 3).bind fun r28 => ((QX n r28.2).bind fun r29 => ((zJ n r29.2 (IntKind.wrap .i64 (1 + r1.1))).bind fun r30 => ((YZ n y12 (IntKind.wrap .i64 (1 + r28.1)) r29.1 r30.1).bind fun r31 => (ZR n mo27 r1 (IntKind.wrap .i64 (y8 - 1)) r30.2.b r30.2.i r30.2.h r31))))) else (some (Sum.inl (y9,y10,y11,y12))))
def Qs (n : Nat) (x0 : Src) : Option (zA × Src) :=
  ((zJ n x0 4).bind fun r1 => ((zJ n r1.2 5).bind fun r2 => ((QH n (IntKind.wrap .i64 (1 + r2.1)) (IntKind.wrap .i64 (1 + r1.1))).bind fun r3 => ((QW n r2.2 [(⟨#[]⟩ : ByteArray),(⟨#[121,97,114,100]⟩ : ByteArray),(⟨#[98,49]⟩ : ByteArray)]).bind fun r4 => ((Zv n r4.2 (IntKind.wrap .i64 (1 + r1.1))).bind fun r5 => ((Q8 n r5.2 (IntKind.wrap .i64 (1 + r1.1))).bind fun r6 => ((zJ n r6.2 6).bind fun r7 => ((ZR n n r1 r7.1 r7.2.b r7.2.i r7.2.h r3.F).bind fun o => match o with | .inl (y13,y14,y15,y16) => (QJ n r1 r3 r4 r5 r6 y13 y14 y15 y16) | .inr r => some r))))))))
def zJc : Tab := ⟨13,[0,1,0,4,8,0,40,0,0,448,594,2047,4095],[0,1,0,4,8,0,32,0,0,384,594,0,3072],[0,1,0,4,12,0,44,0,0,492,1023,2047,4095]⟩
noncomputable abbrev G48 (k : Nat) := Rg Try.f48 k
noncomputable abbrev D48 (k : Nat) := Rd Try.f48 k
theorem zA7 : qF (rg Try.f48 9) zJc = true := kr
def zJK : Tab := ⟨13,[0,1,0,4,0,0,56,74,128,256,256,1023,3071],[0,1,0,4,0,0,48,74,128,256,256,0,2560],[0,1,0,4,0,0,60,127,255,511,511,1023,3071]⟩
theorem Jw : qF (rg Try.f48 11) zJK = true := kr
theorem zDR (n : Nat) (x0 : Src) (r : zA × Src) (H : Qs n x0 = some r) : zK Try.prog 48 [.ptr (CV.frzRow (Src.row x0))] [.val true (zA.row r.1)] [(0,(CV.frzRow (Src.row r.2)))] := by
 refine zK.of_body tOk Try.func48 rfl (c := (.seq (G48 0) (.seq (G48 1) (.seq (G48 2) (.seq (G48 3) (.seq (G48 4) (.seq (G48 5) (.seq (.seq (G48 6) (.block 0 (.loop (.seq (.seq (G48 7) (.cond (.tmp 29) .skip (.exit 0))) (.seq (.block 1 (D48 9)) (G48 8)))))) (.seq (.seq (G48 10) (.cond (.tmp 45) (D48 11) .skip)) (.seq (G48 12) (.seq (G48 13) (.seq (G48 14) .ret)))))))))))) kr (Nat.le_of_ble_eq_true kr) 1 (rs := [.cell 2 42]) rfl [] .nil [(true,(zA.row r.1))] [] [(0,(CV.frzRow (Src.row r.2)))] fun cx => ?_
 show Tr _ _ _ ⟨66,1,[sA 0 0 3 0],[(0,(CV.frzRow (Src.row x0)))]⟩ _
 unfold Qs at H
 refine gA 1 5 5 ?_
 refine rA 1 ?_
 obtain ⟨r1,er1,H⟩ := bs H
 refine LAt.callL tOk [.lend,.rd] (f := 49) (av := #[.tmp 6,.const (.int .i64 4)]) (ats := #[92,3]) (d := (some 7)) (ty := 3) (g := none) kr kr kr [] (zO n x0 4 r1 er1) kr (.inl rfl) ?_
 refine uA 2 13 5 ?_
 refine rA 1 ?_
 obtain ⟨r2,er2,H⟩ := bs H
 refine LAt.callL tOk [.lend,.rd] (f := 49) (av := #[.tmp 9,.const (.int .i64 5)]) (ats := #[92,3]) (d := (some 10)) (ty := 3) (g := none) kr kr kr [] (zO n r1.2 5 r2 er2) kr (.inl rfl) ?_
 refine lA 2 ?_
 obtain ⟨r3,er3,H⟩ := bs H
 refine vA [.rd,.rd] (zFV n (IntKind.wrap .i64 (1 + r2.1)) (IntKind.wrap .i64 (1 + r1.1)) r3 er3) ?_
 refine uA 2 29 21 ?_
 refine rA 2 ?_
 obtain ⟨r4,er4,H⟩ := bs H
 refine LAt.callL tOk [.lend,.rd] (f := 95) (av := #[.tmp 14,.tmp 15]) (ats := #[92,142]) (d := (some 16)) (ty := 9) (g := none) kr kr kr [] (zE5 n r2.2 [(⟨#[]⟩ : ByteArray),(⟨#[121,97,114,100]⟩ : ByteArray),(⟨#[98,49]⟩ : ByteArray)] r4 er4) kr (.inl rfl) ?_
 refine uA 2 29 21 ?_
 refine rA 2 ?_
 obtain ⟨r5,er5,H⟩ := bs H
 refine LAt.callL tOk [.lend,.rd] (f := 96) (av := #[.tmp 18,.tmp 19]) (ats := #[92,3]) (d := (some 20)) (ty := 35) (g := none) kr kr kr [] (zDQ n r4.2 (IntKind.wrap .i64 (1 + r1.1)) r5 er5) kr (.inl rfl) ?_
 refine uA 2 29 21 ?_
 refine rA 2 ?_
 obtain ⟨r6,er6,H⟩ := bs H
 refine LAt.callL tOk [.lend,.rd] (f := 97) (av := #[.tmp 22,.tmp 23]) (ats := #[92,3]) (d := (some 24)) (ty := 40) (g := none) kr kr kr [] (zEA n r5.2 (IntKind.wrap .i64 (1 + r1.1)) r6 er6) kr (.inl rfl) ?_
 refine uA 2 29 21 ?_
 refine tS ?_
 refine rA 1 ?_
 obtain ⟨r7,er7,H⟩ := bs H
 refine LAt.callL tOk [.lend,.rd] (f := 49) (av := #[.tmp 26,.const (.int .i64 6)]) (ats := #[92,3]) (d := (some 27)) (ty := 3) (g := none) kr kr kr [] (zO n r6.2 6 r7 er7) kr (.inl rfl) ?_
 refine uA 1 61 21 ?_
 obtain ⟨o27,eo27,Ho27⟩ := bs H
 clear H
 refine Tr.mid (ι := (List Int) × Int × Int × (List zB)) (fun v => ⟨66,1,[sA 4 4 11 0,sI 3 (IntKind.wrap .i64 (1 + r1.1)),sA 2 2 11 0,sA 0 0 3 0],[(0,[cF 1 v.1 zF,cI v.2.1,cI v.2.2.1]),(4,[cI r3.Id,cS r4.1,cL 8 r5.1 Pt.row,cL 5 v.2.2.2 zB.row,cL 3 r6.1.Rows zC.row,cL 1 r6.1.Pv intRow,cI r3.Tk,cI r3.Pa,cI r3.Wo,cI r3.Dr,cI r3.Ve]),(2,[cI 0,cS (⟨#[]⟩ : ByteArray),cL 8 ([] : List Pt) Pt.row,cL 5 ([] : List zB) zB.row,cL 3 ([] : List zC) zC.row,cL 1 ([] : List Int) intRow,cI 0,cI 0,cI 0,cI 0,cI 0])]⟩) (fun v => QJ n r1 r3 r4 r5 r6 v.1 v.2.1 v.2.2.1 v.2.2.2 = some r) ?_ ?_
 ·refine tB ?_
  refine Tr.loop (ι := Nat × (Int × (List Int) × Int × Int × (List zB))) (fun v => ⟨66,1,[sI 5 v.2.1,sA 4 4 11 0,sI 3 (IntKind.wrap .i64 (1 + r1.1)),sA 2 2 11 0,sA 0 0 3 0],[(0,[cF 1 v.2.2.1 zF,cI v.2.2.2.1,cI v.2.2.2.2.1]),(4,[cI r3.Id,cS r4.1,cL 8 r5.1 Pt.row,cL 5 v.2.2.2.2.2 zB.row,cL 3 r6.1.Rows zC.row,cL 1 r6.1.Pv intRow,cI r3.Tk,cI r3.Pa,cI r3.Wo,cI r3.Dr,cI r3.Ve]),(2,[cI 0,cS (⟨#[]⟩ : ByteArray),cL 8 ([] : List Pt) Pt.row,cL 5 ([] : List zB) zB.row,cL 3 ([] : List zC) zC.row,cL 1 ([] : List Int) intRow,cI 0,cI 0,cI 0,cI 0,cI 0])]⟩) (fun v => ZR n v.1 r1 v.2.1 v.2.2.1 v.2.2.2.1 v.2.2.2.2.1 v.2.2.2.2.2 = some o27) (fun v => v.1) (n,(r7.1,r7.2.b,r7.2.i,r7.2.h,r3.F)) eo27 (St.sub_of [5,4,3,2,0] [0,4,2] kr) ?_
  rintro ⟨mo27,y8,y9,y10,y11,y12⟩ H
  have H : ZR n mo27 r1 y8 y9 y10 y11 y12 = some o27 := H
  obtain _ | mo27 := mo27
  ·exact nN H
  rw [ZR] at H
  refine tS ?_
  refine gA 2 536870973 21 ?_
  obtain ⟨h2,H⟩ | ⟨h2,H⟩ := bC H
  ·refine nA h2 ?_
   refine Tr.exit ?_
   refine aJ ?_
   obtain rfl := si H
   have H := Ho27
   dsimp only at H
   exact jA (y9,y10,y11,y12) H [4,3,2,0] [0,4,2]
  refine tA h2 ?_
  refine tK ?_
  refine tS ?_
  refine tB ?_
  obtain ⟨r28,er28,H⟩ := bs H
  obtain ⟨r29,er29,H⟩ := bs H
  obtain ⟨r30,er30,H⟩ := bs H
  obtain ⟨r31,er31,H⟩ := bs H
  refine Tr.draw mixed 13 kr ⟨66,1,[sI 5 y8,sA 4 4 11 0,sI 3 (IntKind.wrap .i64 (1 + r1.1)),sA 2 2 11 0,sA 0 0 3 0],[(4,[cI r3.Id,cS r4.1,cL 8 r5.1 Pt.row,cL 5 r31 zB.row,cL 3 r6.1.Rows zC.row,cL 1 r6.1.Pv intRow,cI r3.Tk,cI r3.Pa,cI r3.Wo,cI r3.Dr,cI r3.Ve]),(0,(CV.frzRow (Src.row r30.2))),(2,[cI 0,cS (⟨#[]⟩ : ByteArray),cL 8 ([] : List Pt) Pt.row,cL 5 ([] : List zB) zB.row,cL 3 ([] : List zC) zC.row,cL 1 ([] : List Int) intRow,cI 0,cI 0,cI 0,cI 0,cI 0])]⟩ (fun cx => ?_) ?_
  ·refine mA zA7 [(0,[]),(1,[10,12]),(2,[]),(5,[]),(7,[]),(8,[])] 7 [⟨[10,12],36,32,33⟩] fun cx => ?_
   refine mC zA7 3 ?_
   refine LAt.callL tOk [.lend,.rd] (f := 49) (av := #[.tmp 34,.const (.int .i64 3)]) (ats := #[92,3]) (d := (some 35)) (ty := 3) (g := none) kr kr kr [] (zO n (⟨y9,y10,y11⟩ : Src) 3 r28 er28) kr (.inl rfl) ?_
   refine fA ?_
   refine mA zA7 [(4,[])] 5 [⟨[10,12],36,32,33⟩] fun cx => ?_
   refine mC zA7 6 ?_
   refine LAt.callL tOk [.lend] (f := 99) (av := #[.tmp 37]) (ats := #[92]) (d := (some 38)) (ty := 3) (g := none) kr kr kr [] (zBG n r28.2 r29 er29) kr (.inl rfl) ?_
   refine fA ?_
   refine mC zA7 9 ?_
   refine LAt.callL tOk [.lend,.rd] (f := 49) (av := #[.tmp 39,.tmp 40]) (ats := #[92,3]) (d := (some 41)) (ty := 3) (g := none) kr kr kr [] (zO n r29.2 (IntKind.wrap .i64 (1 + r1.1)) r30 er30) kr (.inl rfl) ?_
   refine fA ?_
   refine mC zA7 10 ?_
   refine vB [.rd,.rd,.rd,.rd] [.box 4] (zEx n y12 (IntKind.wrap .i64 (1 + r28.1)) r29.1 r30.1 r31 er31) (.inr (zZ (zI (Qd (Zj zB.row_mine _)) zk) zq)) ?_
   refine fA ?_
   refine mA zA7 [(11,[])] 1 [⟨[10,12],36,32,33⟩] fun cx => ?_
   refine mC zA7 12 ?_
   refine lA 1 ?_
   refine fA ?_
   exact mE zA7 [5,4,3,2,0] [4,0,2]
  refine eA 3 61 21 ?_
  exact jB mo27 ((IntKind.wrap .i64 (y8 - 1)),r30.2.b,r30.2.i,r30.2.h,r31) H [5,4,3,2,0] [0,4,2]
 rintro ⟨y13,y14,y15,y16⟩ H
 have H : (QJ n r1 r3 r4 r5 r6 y13 y14 y15 y16) = some r := H
 unfold QJ at H
 refine tS ?_
 refine Tr.mid (ι := (List Int) × Int × Int × (List zB)) (fun v => ⟨66,1,[sA 4 4 11 0,sA 2 2 11 0,sA 0 0 3 0],[(0,[cF 1 v.1 zF,cI v.2.1,cI v.2.2.1]),(4,[cI r3.Id,cS r4.1,cL 8 r5.1 Pt.row,cL 5 v.2.2.2 zB.row,cL 3 r6.1.Rows zC.row,cL 1 r6.1.Pv intRow,cI r3.Tk,cI r3.Pa,cI r3.Wo,cI r3.Dr,cI r3.Ve]),(2,[cI 0,cS (⟨#[]⟩ : ByteArray),cL 8 ([] : List Pt) Pt.row,cL 5 ([] : List zB) zB.row,cL 3 ([] : List zC) zC.row,cL 1 ([] : List Int) intRow,cI 0,cI 0,cI 0,cI 0,cI 0])]⟩) (fun v => Zm n r3 r4 r5 r6 v.1 v.2.1 v.2.2.1 v.2.2.2 = some r) ?_ ?_
 ·refine rA 1 ?_
  obtain ⟨r23,er23,H⟩ := bs H
  refine LAt.callL tOk [.lend,.rd] (f := 100) (av := #[.tmp 44,.const (.int .i64 3)]) (ats := #[92,3]) (d := (some 45)) (ty := 4) (g := none) kr kr kr [] (zB4 n (⟨y13,y14,y15⟩ : Src) 3 r23 er23) kr (.inl rfl) ?_
  refine dA 35184372088861 21 ?_
  cases h1 : r23.1
  ·have H := zL h1 H
   refine nB_ ?_
   refine tK ?_
   exact jA (r23.2.b,r23.2.i,r23.2.h,y16) H [4,2,0] [0,4,2]
  have H := zM h1 H
  refine tB_ ?_
  obtain ⟨r24,er24,H⟩ := bs H
  obtain ⟨r25,er25,H⟩ := bs H
  obtain ⟨r26,er26,H⟩ := bs H
  refine Tr.draw mixed 13 kr ⟨66,1,[sA 4 4 11 0,sA 2 2 11 0,sA 0 0 3 0],[(4,[cI r3.Id,cS r4.1,cL 8 r5.1 Pt.row,cL 5 r26.1 zB.row,cL 3 r6.1.Rows zC.row,cL 1 r6.1.Pv intRow,cI r3.Tk,cI r3.Pa,cI r3.Wo,cI r3.Dr,cI r3.Ve]),(0,(CV.frzRow (Src.row r25.2))),(2,[cI 0,cS (⟨#[]⟩ : ByteArray),cL 8 ([] : List Pt) Pt.row,cL 5 ([] : List zB) zB.row,cL 3 ([] : List zC) zC.row,cL 1 ([] : List Int) intRow,cI 0,cI 0,cI 0,cI 0,cI 0])]⟩ (fun cx => ?_) ?_
  ·refine mA Jw [(0,[]),(1,[7,12]),(2,[]),(4,[]),(5,[])] 8 [⟨[7,12],36,47,48⟩] fun cx => ?_
   refine mC Jw 3 ?_
   refine LAt.callL tOk [.lend] (f := 99) (av := #[.tmp 49]) (ats := #[92]) (d := (some 50)) (ty := 3) (g := none) kr kr kr [] (zBG n r23.2 r24 er24) kr (.inl rfl) ?_
   refine fA ?_
   refine mC Jw 6 ?_
   refine LAt.callL tOk [.lend,.rd] (f := 49) (av := #[.tmp 51,.tmp 52]) (ats := #[92,3]) (d := (some 53)) (ty := 3) (g := none) kr kr kr [] (zO n r24.2 (IntKind.wrap .i64 (1 + r1.1)) r25 er25) kr (.inl rfl) ?_
   refine fA ?_
   refine mC Jw 7 ?_
   refine vB [.rd,.rd,.rd,.rd] [.box 4] (zCI n y16 1 r24.1 r25.1 r26 er26) (.inr (zZ (zI (Qd (Zj zB.row_mine _)) zk) (zZ (zI zP zk) zq))) ?_
   refine fA ?_
   refine AT.movT tOk 8 (ty := 148) (t := 54) (d := 46) (g := none) [(false,[cL 5 r26.1 zB.row]),(false,[cB r26.2])] _ kr (oM Jw kr) (dM Jw kr) (.inl rfl) kr kr kr kr rfl (fun cx => ?_)
   refine mA Jw [(9,[]),(10,[]),(11,[])] 1 [⟨[7,12],36,47,48⟩] fun cx => ?_
   refine mC Jw 12 ?_
   refine lA 1 ?_
   refine fA ?_
   exact mE Jw [4,2,0] [4,0,2]
  exact jA (r25.2.b,r25.2.i,r25.2.h,r26.1) H [4,2,0] [0,4,2]
 rintro ⟨y17,y18,y19,y20⟩ H
 have H : (Zm n r3 r4 r5 r6 y17 y18 y19 y20) = some r := H
 unfold Zm at H
 refine rA 1 ?_
 obtain ⟨r21,er21,H⟩ := bs H
 refine LAt.callL tOk [.lend,.rd] (f := 49) (av := #[.tmp 58,.const (.int .i64 5)]) (ats := #[92,3]) (d := (some 59)) (ty := 3) (g := none) kr kr kr [] (zO n (⟨y17,y18,y19⟩ : Src) 5 r21 er21) kr (.inl rfl) ?_
 refine uA 2 21 21 ?_
 refine rA 2 ?_
 obtain ⟨r22,er22,H⟩ := bs H
 refine LAt.callL tOk [.lend,.rd] (f := 51) (av := #[.tmp 61,.tmp 62]) (ats := #[92,38]) (d := (some 63)) (ty := 3) (g := none) kr kr kr [] (zu n r21.2 [0,1,5,1000000] r22 er22) kr (.inl rfl) ?_
 refine uA 2 21 21 ?_
 refine gA 2 5 5 ?_
 refine te ?_
 obtain rfl := si H
 exact Fin.ofY _ [(true,[cI r3.Id,cS r4.1,cL 8 r5.1 Pt.row,cL 5 y20 zB.row,cL 3 r6.1.Rows zC.row,cL 1 r6.1.Pv intRow,cI r21.1,cI r3.Pa,cI r3.Wo,cI r3.Dr,cI r22.1])] [] _ [] _ [(0,(CV.frzRow (Src.row r22.2)))] kr rfl rfl rfl kr kr kr kr rfl rfl rfl
def Qj (n : Nat) (x0 : (List Int)) : Option (zA × Int) :=
  ((Ya n x0).bind fun r1 => ((Qs n r1).bind fun r2 => ((zJ n r2.2 (r2.1.Ps.length : Int)).bind fun r3 => (some (r2.1,r3.1)))))
theorem zEu (n : Nat) (x0 : (List Int)) (r : zA × Int) (H : Qj n x0 = some r) : zK Try.prog 14 [.val false [.sl false 1 (CV.frzEs (x0.map zF))]] [.val true (zA.row r.1),.val false [.lit (.int .i64 r.2)]] [] := by
 refine cW Try.func14 (fun g d => sl [g 0,g 1,g 2,d 3] .ret) [.cell 2 42,.tmp 3] fun cx => ?_
 unfold Qj at H
 refine gA 2 5 4 ?_
 refine rA 1 ?_
 obtain ⟨r1,er1,H⟩ := bs H
 refine vA [.rd] (zE4 n x0 r1 er1) ?_
 refine uA 1 20 132 ?_
 refine rA 1 ?_
 obtain ⟨r2,er2,H⟩ := bs H
 refine LAt.callL tOk [.lend] (f := 48) (av := #[.tmp 8]) (ats := #[92]) (d := (some 9)) (ty := 42) (g := none) kr kr kr [] (zDR n r1 r2 er2) kr (.inl rfl) ?_
 refine uA 2 52 164 ?_
 obtain ⟨r3,er3,H⟩ := bs H
 refine Tr.draws mixed 8 kr ⟨16,0,[sI 3 r3.1,sA 2 2 11 0],[(2,(zA.row r2.1))]⟩ (fun cx => ?_) ?_
 ·refine aA [(0,[6]),(1,[]),(2,[]),(3,[5,6])] 4 [⟨[5,6],35,12,13⟩,⟨[6],42,5,10⟩] fun cx => ?_
  refine aL tOk 4 35 3 55 13 14 none ⟨(.box 5),[(0,0)],2,true,8,(r2.1.Ps.map Pt.row)⟩ (r2.1.Ps).length _ kr kr kr kr kr kr kr (zHS _ _) rfl (fun cx => ?_)
  refine bA 5 ?_
  refine LAt.callL tOk [.lend,.rd] (f := 49) (av := #[.tmp 11,.tmp 14]) (ats := #[92,3]) (d := (some 15)) (ty := 3) (g := none) kr kr kr [] (zO n r2.2 (r2.1.Ps.length : Int) r3 er3) kr (.inl rfl) ?_
  refine fA ?_
  refine bA 6 ?_
  refine lA 1 ?_
  refine fA ?_
  refine aA [(7,[])] 0 [⟨[5,6],35,12,13⟩,⟨[6],42,5,10⟩] fun cx => ?_
  exact eE [3,2] [2]
 exact te (fJ [(true,(zA.row r2.1)),(false,[cI r3.1])] H)
def QY (n : Nat) (x0 : Src) : Option (Vec × Src) :=
  ((QE n x0).bind fun r1 => ((zJ n r1.2 12).bind fun r2 => (bif (r2.1 == 0) then ((ze n r2.2 [0,99,100]).bind fun r6 => (some ((⟨r6.1,r1.1.Co,r1.1.Hops,r1.1.Bridge,r1.1.Port⟩ : Vec),r6.2))) else (bif (r2.1 == 1) then ((ze n r2.2 [(-1),99999,100000,100001]).bind fun r5 => (some ((⟨r1.1.Root,r5.1,r1.1.Hops,r1.1.Bridge,r1.1.Port⟩ : Vec),r5.2))) else (bif (r2.1 == 2) then ((ze n r2.2 [(-1),11]).bind fun r4 => (some ((⟨r1.1.Root,r1.1.Co,r4.1,r1.1.Bridge,r1.1.Port⟩ : Vec),r4.2))) else (bif (r2.1 == 3) then ((ze n r2.2 [(-1),7,8]).bind fun r3 => (some ((⟨r1.1.Root,r1.1.Co,r1.1.Hops,r1.1.Bridge,r3.1⟩ : Vec),r3.2))) else (some (r1.1,r2.2))))))))
noncomputable abbrev G52 (k : Nat) := Rg Try.f52 k
theorem zE6 (n : Nat) (x0 : Src) (r : Vec × Src) (H : QY n x0 = some r) : zK Try.prog 52 [.ptr (CV.frzRow (Src.row x0))] [.val true (Vec.row r.1)] [(0,(CV.frzRow (Src.row r.2)))] := by
 refine zK.of_body tOk Try.func52 rfl (c := (.seq (G52 0) (.seq (G52 1) (.seq (.seq (G52 2) (.block 0 (.seq (G52 3) (.cond (.tmp 8) (G52 4) (.seq (G52 5) (.cond (.tmp 14) (G52 6) (.seq (G52 7) (.cond (.tmp 20) (G52 8) (.seq (G52 9) (.cond (.tmp 26) (G52 10) .skip)))))))))) (.seq (G52 11) .ret))))) kr (Nat.le_of_ble_eq_true kr) 1 (rs := [.cell 2 46]) rfl [] .nil [(true,(Vec.row r.1))] [] [(0,(CV.frzRow (Src.row r.2)))] fun cx => ?_
 show Tr _ _ _ ⟨33,1,[sA 0 0 3 0],[(0,(CV.frzRow (Src.row x0)))]⟩ _
 unfold QY at H
 refine gA 1 5 5 ?_
 refine rA 1 ?_
 obtain ⟨r1,er1,H⟩ := bs H
 refine LAt.callL tOk [.lend] (f := 106) (av := #[.tmp 4]) (ats := #[92]) (d := (some 5)) (ty := 46) (g := none) kr kr kr [] (zD9 n x0 r1 er1) kr (.inl rfl) ?_
 refine uA 2 13 13 ?_
 refine tS ?_
 refine rA 1 ?_
 obtain ⟨r2,er2,H⟩ := bs H
 refine LAt.callL tOk [.lend,.rd] (f := 49) (av := #[.tmp 6,.const (.int .i64 12)]) (ats := #[92,3]) (d := (some 7)) (ty := 3) (g := none) kr kr kr [] (zO n r1.2 12 r2 er2) kr (.inl rfl) ?_
 refine dA 141 13 ?_
 refine tB ?_
 refine gA 2 397 13 ?_
 obtain ⟨h1,H⟩ | ⟨h1,H⟩ := bC H
 ·refine nA h1 ?_
  refine gA 2 16525 13 ?_
  obtain ⟨h2,H⟩ | ⟨h2,H⟩ := bC H
  ·refine nA h2 ?_
   refine gA 2 1048717 13 ?_
   obtain ⟨h3,H⟩ | ⟨h3,H⟩ := bC H
   ·refine nA h3 ?_
    refine gA 2 67108877 13 ?_
    obtain ⟨h4,H⟩ | ⟨h4,H⟩ := bC H
    ·refine nA h4 ?_
     refine tK ?_
     refine gA 2 5 5 ?_
     refine te ?_
     obtain rfl := si H
     exact Fin.ofY _ [(true,(Vec.row r1.1))] [] _ [] _ [(0,(CV.frzRow (Src.row r2.2)))] kr rfl rfl rfl kr kr kr kr rfl rfl rfl
    refine tA h4 ?_
    refine Tr.at ?_
    refine lA 2 ?_
    obtain ⟨r3,er3,H⟩ := bs H
    refine LAt.callL tOk [.lend,.rd] (f := 51) (av := #[.tmp 28,.tmp 29]) (ats := #[92,38]) (d := (some 30)) (ty := 3) (g := none) kr kr kr [] (zu n r2.2 [(-1),7,8] r3 er3) kr (.inl rfl) ?_
    refine uA 2 13 13 ?_
    refine gA 2 5 5 ?_
    refine te ?_
    obtain rfl := si H
    exact Fin.ofY _ [(true,[cI r1.1.Root,cI r1.1.Co,cI r1.1.Hops,cI r1.1.Bridge,cI r3.1])] [] _ [] _ [(0,(CV.frzRow (Src.row r3.2)))] kr rfl rfl rfl kr kr kr kr rfl rfl rfl
   refine tA h3 ?_
   refine Tr.at ?_
   refine lA 2 ?_
   obtain ⟨r4,er4,H⟩ := bs H
   refine LAt.callL tOk [.lend,.rd] (f := 51) (av := #[.tmp 22,.tmp 23]) (ats := #[92,38]) (d := (some 24)) (ty := 3) (g := none) kr kr kr [] (zu n r2.2 [(-1),11] r4 er4) kr (.inl rfl) ?_
   refine uA 2 13 13 ?_
   refine gA 2 5 5 ?_
   refine te ?_
   obtain rfl := si H
   exact Fin.ofY _ [(true,[cI r1.1.Root,cI r1.1.Co,cI r4.1,cI r1.1.Bridge,cI r1.1.Port])] [] _ [] _ [(0,(CV.frzRow (Src.row r4.2)))] kr rfl rfl rfl kr kr kr kr rfl rfl rfl
  refine tA h2 ?_
  refine Tr.at ?_
  refine lA 2 ?_
  obtain ⟨r5,er5,H⟩ := bs H
  refine LAt.callL tOk [.lend,.rd] (f := 51) (av := #[.tmp 16,.tmp 17]) (ats := #[92,38]) (d := (some 18)) (ty := 3) (g := none) kr kr kr [] (zu n r2.2 [(-1),99999,100000,100001] r5 er5) kr (.inl rfl) ?_
  refine uA 2 13 13 ?_
  refine gA 2 5 5 ?_
  refine te ?_
  obtain rfl := si H
  exact Fin.ofY _ [(true,[cI r1.1.Root,cI r5.1,cI r1.1.Hops,cI r1.1.Bridge,cI r1.1.Port])] [] _ [] _ [(0,(CV.frzRow (Src.row r5.2)))] kr rfl rfl rfl kr kr kr kr rfl rfl rfl
 refine tA h1 ?_
 refine Tr.at ?_
 refine lA 2 ?_
 obtain ⟨r6,er6,H⟩ := bs H
 refine LAt.callL tOk [.lend,.rd] (f := 51) (av := #[.tmp 10,.tmp 11]) (ats := #[92,38]) (d := (some 12)) (ty := 3) (g := none) kr kr kr [] (zu n r2.2 [0,99,100] r6 er6) kr (.inl rfl) ?_
 refine uA 2 13 13 ?_
 refine gA 2 5 5 ?_
 refine te ?_
 obtain rfl := si H
 exact Fin.ofY _ [(true,[cI r6.1,cI r1.1.Co,cI r1.1.Hops,cI r1.1.Bridge,cI r1.1.Port])] [] _ [] _ [(0,(CV.frzRow (Src.row r6.2)))] kr rfl rfl rfl kr kr kr kr rfl rfl rfl
def Yy (n : Nat) (x0 : Src) : Option ((List Pt) × Src) :=
  ((zJ n x0 4).bind fun r1 => ((Zv n r1.2 (IntKind.wrap .i64 (1 + r1.1))).bind fun r2 => ((zJ n r2.2 12).bind fun r3 => (bif (r3.1 == 0) then ((QY n r3.2).bind fun r7 => ((idx r2.1 0).bind fun v8 => (some ((r2.1.set (((0 : Int)).toNat) (⟨v8.Up,v8.Co,v8.Has,r7.1⟩ : Pt)),r7.2)))) else (bif (r3.1 == 1) then ((ze n r3.2 [0,1000,1001]).bind fun r5 => ((idx r2.1 0).bind fun v6 => (some ((r2.1.set (((0 : Int)).toNat) (⟨v6.Up,r5.1,v6.Has,v6.Hd⟩ : Pt)),r5.2)))) else (bif (r3.1 == 2) then ((idx r2.1 0).bind fun v4 => (some ((r2.1.set (((0 : Int)).toNat) (⟨false,v4.Co,v4.Has,v4.Hd⟩ : Pt)),r3.2))) else (some (r2.1,r3.2))))))))
noncomputable abbrev zBy (k : Nat) := Rg Try.f103 k
theorem zHB (n : Nat) (x0 : Src) (r : (List Pt) × Src) (H : Yy n x0 = some r) : zK Try.prog 103 [.ptr (CV.frzRow (Src.row x0))] [.val false [.sl true 8 (r.1.map Pt.row)]] [(0,(CV.frzRow (Src.row r.2)))] := by
 refine zK.of_body tOk Try.func103 rfl (c := (.seq (zBy 0) (.seq (zBy 1) (.seq (.seq (zBy 2) (.block 0 (.seq (zBy 3) (.cond (.tmp 11) (zBy 4) (.seq (zBy 5) (.cond (.tmp 18) (zBy 6) (.seq (zBy 7) (.cond (.tmp 26) (zBy 8) .skip)))))))) (.seq (zBy 9) .ret))))) kr (Nat.le_of_ble_eq_true kr) 1 (rs := [.tmp 2]) rfl [] .nil [(false,[.sl true 8 (r.1.map Pt.row)])] [] [(0,(CV.frzRow (Src.row r.2)))] fun cx => ?_
 show Tr _ _ _ ⟨32,1,[sA 0 0 3 0],[(0,(CV.frzRow (Src.row x0)))]⟩ _
 unfold Yy at H
 refine gA 1 1 1 ?_
 refine rA 2 ?_
 obtain ⟨r1,er1,H⟩ := bs H
 refine LAt.callL tOk [.lend,.rd] (f := 49) (av := #[.tmp 5,.const (.int .i64 4)]) (ats := #[92,3]) (d := (some 6)) (ty := 3) (g := none) kr kr kr [] (zO n x0 4 r1 er1) kr (.inl rfl) ?_
 refine lA 1 ?_
 obtain ⟨r2,er2,H⟩ := bs H
 refine LAt.callL tOk [.lend,.rd] (f := 96) (av := #[.tmp 4,.tmp 7]) (ats := #[92,3]) (d := (some 8)) (ty := 35) (g := none) kr kr kr [] (zDQ n r1.2 (IntKind.wrap .i64 (1 + r1.1)) r2 er2) kr (.inl rfl) ?_
 refine LAt.moveU (T := lk tab) (ty := 35) (x := (.tmp 8)) (d := 3) (g := none) false [cL 8 r2.1 Pt.row] kr kr kr kr kr ?_
 refine dA 9 1 ?_
 refine tS ?_
 refine rA 1 ?_
 obtain ⟨r3,er3,H⟩ := bs H
 refine LAt.callL tOk [.lend,.rd] (f := 49) (av := #[.tmp 9,.const (.int .i64 12)]) (ats := #[92,3]) (d := (some 10)) (ty := 3) (g := none) kr kr kr [] (zO n r2.2 12 r3 er3) kr (.inl rfl) ?_
 refine dA 1033 1 ?_
 refine tB ?_
 refine gA 2 3081 1 ?_
 obtain ⟨h1,H⟩ | ⟨h1,H⟩ := bC H
 ·refine nA h1 ?_
  refine gA 2 263177 1 ?_
  obtain ⟨h2,H⟩ | ⟨h2,H⟩ := bC H
  ·refine nA h2 ?_
   refine gA 2 67108873 1 ?_
   obtain ⟨h3,H⟩ | ⟨h3,H⟩ := bC H
   ·refine nA h3 ?_
    refine tK ?_
    refine gA 2 13 1 ?_
    refine te ?_
    obtain rfl := si H
    exact Fin.ofY _ [(false,[cL 8 r2.1 Pt.row])] [] _ [] _ [(0,(CV.frzRow (Src.row r3.2)))] kr rfl rfl rfl kr kr kr kr rfl rfl rfl
   refine tA h3 ?_
   refine Tr.at ?_
   refine lA 1 ?_
   obtain ⟨v4,ev4,H⟩ := bs H
   refine oA Pt.row ev4 ?_
   refine lA 1 ?_
   refine sS (tI 4) false [cB false] 3 0 (((0 : Int)).toNat) 8 0 8 Pt.row (⟨false,v4.Co,v4.Has,v4.Hd⟩ : Pt) (qc ev4).2 ?_
   refine dA 9 1 ?_
   refine gA 2 13 1 ?_
   refine te ?_
   obtain rfl := si H
   exact Fin.ofY _ [(false,[cL 8 (r2.1.set (((0 : Int)).toNat) (⟨false,v4.Co,v4.Has,v4.Hd⟩ : Pt)) Pt.row])] [] _ [] _ [(0,(CV.frzRow (Src.row r3.2)))] kr rfl rfl rfl kr kr kr kr rfl rfl rfl
  refine tA h2 ?_
  refine Tr.at ?_
  refine lA 3 ?_
  obtain ⟨r5,er5,H⟩ := bs H
  refine LAt.callL tOk [.lend,.rd] (f := 51) (av := #[.tmp 21,.tmp 22]) (ats := #[92,38]) (d := (some 23)) (ty := 3) (g := none) kr kr kr [] (zu n r3.2 [0,1000,1001] r5 er5) kr (.inl rfl) ?_
  obtain ⟨v6,ev6,H⟩ := bs H
  refine oA Pt.row ev6 ?_
  refine lA 1 ?_
  refine sS (tI 3) false [cI r5.1] 3 0 (((0 : Int)).toNat) 8 1 8 Pt.row (⟨v6.Up,r5.1,v6.Has,v6.Hd⟩ : Pt) (qc ev6).2 ?_
  refine dA 9 1 ?_
  refine gA 2 13 1 ?_
  refine te ?_
  obtain rfl := si H
  exact Fin.ofY _ [(false,[cL 8 (r2.1.set (((0 : Int)).toNat) (⟨v6.Up,r5.1,v6.Has,v6.Hd⟩ : Pt)) Pt.row])] [] _ [] _ [(0,(CV.frzRow (Src.row r5.2)))] kr rfl rfl rfl kr kr kr kr rfl rfl rfl
 refine tA h1 ?_
 refine Tr.at ?_
 refine lA 2 ?_
 obtain ⟨r7,er7,H⟩ := bs H
 refine LAt.callL tOk [.lend] (f := 52) (av := #[.tmp 14]) (ats := #[92]) (d := (some 15)) (ty := 46) (g := none) kr kr kr [] (zE6 n r3.2 r7 er7) kr (.inl rfl) ?_
 obtain ⟨v8,ev8,H⟩ := bs H
 refine oA Pt.row ev8 ?_
 refine lA 1 ?_
 refine sS (tI 46) true (Vec.row r7.1) 3 0 (((0 : Int)).toNat) 8 3 8 Pt.row (⟨v8.Up,v8.Co,v8.Has,r7.1⟩ : Pt) (qc ev8).2 ?_
 refine dA 9 1 ?_
 refine gA 2 13 1 ?_
 refine te ?_
 obtain rfl := si H
 exact Fin.ofY _ [(false,[cL 8 (r2.1.set (((0 : Int)).toNat) (⟨v8.Up,v8.Co,v8.Has,r7.1⟩ : Pt)) Pt.row])] [] _ [] _ [(0,(CV.frzRow (Src.row r7.2)))] kr rfl rfl rfl kr kr kr kr rfl rfl rfl
def JC (n : Nat) (y3 : (List zB)) : Option ((List zB)) :=
  (some y3)
def qX (n : Nat) : Nat → (List zB) → Int → (List zB) → Option (((List zB)) ⊕ ((List zB)))
  | 0,_,_,_ => none
  | mo4 + 1,x0,y1,y2 => (bif (decide (y1 < (x0.length : Int))) then ((idx x0 y1).bind fun v5 => (bif v5.Sc then (bif (decide (y2.length + [v5].length ≤ 268435456)) then (qX n mo4 x0 (IntKind.wrap .i64 (y1 + 1)) (y2 ++ [v5])) else none) else (bif (decide (v5.Age < 4)) then (bif (decide (y2.length + [(⟨v5.Tag,v5.Mac,v5.Port,(IntKind.wrap .i64 (v5.Age + 1)),v5.Sc⟩ : zB)].length ≤ 268435456)) then (qX n mo4 x0 (IntKind.wrap .i64 (y1 + 1)) (y2 ++ [(⟨v5.Tag,v5.Mac,v5.Port,(IntKind.wrap .i64 (v5.Age + 1)),false⟩ : zB)])) else none) else (qX n mo4 x0 (IntKind.wrap .i64 (y1 + 1)) y2)))) else (some (Sum.inl y2)))
def QC (n : Nat) (x0 : (List zB)) : Option ((List zB)) :=
  ((qX n n x0 0 ([] : List zB)).bind fun o => match o with | .inl y3 => (JC n y3) | .inr r => some r)
theorem zG9 (n : Nat) (x0 : (List zB)) (r : (List zB)) (H : QC n x0 = some r) : zK Try.prog 180 [.val false [.sl false 5 (CV.frzEs (x0.map zB.row))]] [.val false [.sl true 5 (r.map zB.row)]] [] := by
 refine cW Try.func180 (fun g d => sl [g 0,g 1,sl [g 2] (.block 0 (.loop (sl [sl [g 3] (cn 10 .skip (.exit 0)),.block 1 (sl [g 5,sl [g 6] (cn 18 (sl [g 7] (.exit 1)) .skip),g 8] (cn 25 (sl [g 9] (g 10)) .skip))] (g 4)))),g 11] .ret) [.tmp 2] fun cx => ?_
 unfold QC at H
 refine gA 1 1 0 ?_
 refine rA 1 ?_
 refine LAt.moveU (T := lk tab) (ty := 36) (x := (.tmp 6)) (d := 3) (g := none) false [cL 5 ([] : List zB) zB.row] kr kr kr kr kr ?_
 refine dA 9 0 ?_
 refine tS ?_
 refine gA 1 25 0 ?_
 obtain ⟨o4,eo4,Ho4⟩ := bs H
 clear H
 refine Tr.mid (ι := (List zB)) (fun v => ⟨35,0,[sC 3 (cL 5 v zB.row)],[]⟩) (fun v => JC n v = some r) ?_ ?_
 ·refine tB ?_
  refine Tr.loop (ι := Nat × (Int × (List zB))) (fun v => ⟨35,0,[sI 4 v.2.1,sC 3 (cL 5 v.2.2 zB.row),sC 0 (cF 5 x0 zB.row)],[]⟩) (fun v => qX n v.1 x0 v.2.1 v.2.2 = some o4) (fun v => v.1) (n,(0,([] : List zB))) eo4 (St.sub_of [4,3,0] [] kr) ?_
  rintro ⟨mo4,y1,y2⟩ H
  have H : qX n mo4 x0 y1 y2 = some o4 := H
  obtain _ | mo4 := mo4
  ·exact nN H
  rw [qX] at H
  refine tS ?_
  refine rA 2 ?_
  refine kF x0 zB.row ?_
  refine uA 1 1049 0 ?_
  obtain ⟨h1,H⟩ | ⟨h1,H⟩ := bC H
  ·refine nA h1 ?_
   refine Tr.exit ?_
   refine aJ ?_
   obtain rfl := si H
   have H := Ho4
   dsimp only at H
   exact jA y2 H [3] []
  refine tA h1 ?_
  refine tK ?_
  refine tS ?_
  refine tB ?_
  refine rA 2 ?_
  obtain ⟨v5,ev5,H⟩ := bs H
  refine iA zB.row ev5 ?_
  refine uA 3 57 32 ?_
  refine tS ?_
  refine gA 2 262201 32 ?_
  refine sT ⟨35,0,[sB 18 v5.Sc,sA 5 5 5 0,sI 4 y1,sC 3 (cL 5 y2 zB.row),sC 0 (cF 5 x0 zB.row)],[(5,(zB.row v5))]⟩ ?_
  cases h2 : v5.Sc
  ·have H := zL h2 H
   refine nB_ ?_
   refine tK ?_
   refine gA 3 33554489 32 ?_
   obtain ⟨h3,H⟩ | ⟨h3,H⟩ := bC H
   ·refine nA h3 ?_
    refine tK ?_
    refine eA 3 25 0 ?_
    exact jB mo4 ((IntKind.wrap .i64 (y1 + 1)),y2) H [4,3,0] []
   refine tA h3 ?_
   refine gA 5 57 32 ?_
   refine Tr.at ?_
   refine lA 3 ?_
   obtain ⟨hg6,H⟩ := gs H
   refine LAt.appMU tOk (t := 36) (ty := 36) (e := 60) (x := (.tmp 30)) (y := (.tmp 32)) (d := 33) (g := none) (tI 60) zB.row y2 [(⟨v5.Tag,v5.Mac,v5.Port,(IntKind.wrap .i64 (v5.Age + 1)),v5.Sc⟩ : zB)] kr kr kr kr kr kr kr kr kr kr hg6 ?_
   refine LAt.moveU (T := lk tab) (ty := 36) (x := (.tmp 33)) (d := 3) (g := none) false [cL 5 (y2 ++ [(⟨v5.Tag,v5.Mac,v5.Port,(IntKind.wrap .i64 (v5.Age + 1)),v5.Sc⟩ : zB)]) zB.row] kr kr kr kr kr ?_
   refine dA 25 0 ?_
   refine eA 3 25 0 ?_
   refine sC' 25 0 ⟨35,0,[sI 4 (IntKind.wrap .i64 (y1 + 1)),sC 3 (cL 5 (y2 ++ [(⟨v5.Tag,v5.Mac,v5.Port,(IntKind.wrap .i64 (v5.Age + 1)),v5.Sc⟩ : zB)]) zB.row),sC 0 (cF 5 x0 zB.row)],[]⟩ ?_
   rw [h2]
   exact jB mo4 ((IntKind.wrap .i64 (y1 + 1)),(y2 ++ [(⟨v5.Tag,v5.Mac,v5.Port,(IntKind.wrap .i64 (v5.Age + 1)),false⟩ : zB)])) H [4,3,0] []
  have H := zM h2 H
  refine tB_ ?_
  refine rA 3 ?_
  obtain ⟨hg7,H⟩ := gs H
  refine LAt.appMU tOk (t := 36) (ty := 36) (e := 60) (x := (.tmp 19)) (y := (.tmp 21)) (d := 22) (g := none) (tI 60) zB.row y2 [v5] kr kr kr kr kr kr kr kr kr kr hg7 ?_
  refine LAt.moveU (T := lk tab) (ty := 36) (x := (.tmp 22)) (d := 3) (g := none) false [cL 5 (y2 ++ [v5]) zB.row] kr kr kr kr kr ?_
  refine dA 25 0 ?_
  refine Tr.exit ?_
  refine aJ ?_
  refine eA 3 25 0 ?_
  exact jB mo4 ((IntKind.wrap .i64 (y1 + 1)),(y2 ++ [v5])) H [4,3,0] []
 rintro y3 H
 have H : (JC n y3) = some r := H
 unfold JC at H
 refine gA 2 12 0 ?_
 exact te (fJ [(false,[cL 5 y3 zB.row])] H)
def JG (n : Nat) (y7 : (List zB)) (y8 : (List Int)) (y9 : Int) (y10 : Int) : Option ((List zB) × Src) :=
  (some (y7,(⟨y8,y9,y10⟩ : Src)))
def q7 (n : Nat) : Nat → Int → (List zB) → (List Int) → Int → Int → Option (((List zB) × (List Int) × Int × Int) ⊕ ((List zB) × Src))
  | 0,_,_,_,_,_ => none
  | mo11 + 1,y2,y3,y4,y5,y6 => (bif (decide (y2 > 0)) then ((zJ n (⟨y4,y5,y6⟩ : Src) 6).bind fun r12 => (bif (r12.1 == 0) then ((zJ n r12.2 3).bind fun r19 => ((QX n r19.2).bind fun r20 => ((zJ n r20.2 4).bind fun r21 => ((QI n y3 (IntKind.wrap .i64 (1 + r19.1)) r20.1 r21.1).bind fun r22 => (q7 n mo11 (IntKind.wrap .i64 (y2 - 1)) r22.1 r21.2.b r21.2.i r21.2.h))))) else (bif (r12.1 == 1) then ((QC n y3).bind fun r18 => (q7 n mo11 (IntKind.wrap .i64 (y2 - 1)) r18 r12.2.b r12.2.i r12.2.h)) else ((zJ n r12.2 3).bind fun r13 => ((QX n r13.2).bind fun r14 => ((zJ n r14.2 3).bind fun r15 => ((zJ n r15.2 4).bind fun r16 => ((YZ n y3 (IntKind.wrap .i64 (1 + r13.1)) (IntKind.wrap .i64 (r14.1 + r15.1)) r16.1).bind fun r17 => (q7 n mo11 (IntKind.wrap .i64 (y2 - 1)) r17 r16.2.b r16.2.i r16.2.h))))))))) else (some (Sum.inl (y3,y4,y5,y6))))
def Y2 (n : Nat) (x0 : Src) : Option ((List zB) × Src) :=
  ((zJ n x0 10).bind fun r1 => ((q7 n n r1.1 ([] : List zB) r1.2.b r1.2.i r1.2.h).bind fun o => match o with | .inl (y7,y8,y9,y10) => (JG n y7 y8 y9 y10) | .inr r => some r))
noncomputable abbrev zAt (k : Nat) := Rg Try.f158 k
theorem zHD (n : Nat) (x0 : Src) (r : (List zB) × Src) (H : Y2 n x0 = some r) : zK Try.prog 158 [.ptr (CV.frzRow (Src.row x0))] [.val false [.sl true 5 (r.1.map zB.row)]] [(0,(CV.frzRow (Src.row r.2)))] := by
 refine zK.of_body tOk Try.func158 rfl (c := (.seq (zAt 0) (.seq (zAt 1) (.seq (.seq (zAt 2) (.block 0 (.loop (.seq (.seq (zAt 3) (.cond (.tmp 9) .skip (.exit 0))) (.seq (.block 1 (.seq (zAt 5) (.block 2 (.seq (zAt 7) (.cond (.tmp 26) (zAt 8) (.seq (zAt 9) (.cond (.tmp 40) (zAt 10) (zAt 6)))))))) (zAt 4)))))) (.seq (zAt 11) .ret))))) kr (Nat.le_of_ble_eq_true kr) 1 (rs := [.tmp 2]) rfl [] .nil [(false,[.sl true 5 (r.1.map zB.row)])] [] [(0,(CV.frzRow (Src.row r.2)))] fun cx => ?_
 show Tr _ _ _ ⟨45,1,[sA 0 0 3 0],[(0,(CV.frzRow (Src.row x0)))]⟩ _
 unfold Y2 at H
 refine gA 1 1 1 ?_
 refine rA 1 ?_
 refine LAt.moveU (T := lk tab) (ty := 36) (x := (.tmp 5)) (d := 3) (g := none) false [cL 5 ([] : List zB) zB.row] kr kr kr kr kr ?_
 refine dA 9 1 ?_
 refine tS ?_
 refine rA 1 ?_
 obtain ⟨r1,er1,H⟩ := bs H
 refine LAt.callL tOk [.lend,.rd] (f := 49) (av := #[.tmp 6,.const (.int .i64 10)]) (ats := #[92,3]) (d := (some 7)) (ty := 3) (g := none) kr kr kr [] (zO n x0 10 r1 er1) kr (.inl rfl) ?_
 refine uA 1 25 1 ?_
 obtain ⟨o11,eo11,Ho11⟩ := bs H
 clear H
 refine Tr.mid (ι := (List zB) × (List Int) × Int × Int) (fun v => ⟨45,1,[sC 3 (cL 5 v.1 zB.row),sA 0 0 3 0],[(0,[cF 1 v.2.1 zF,cI v.2.2.1,cI v.2.2.2])]⟩) (fun v => JG n v.1 v.2.1 v.2.2.1 v.2.2.2 = some r) ?_ ?_
 ·refine tB ?_
  refine Tr.loop (ι := Nat × (Int × (List zB) × (List Int) × Int × Int)) (fun v => ⟨45,1,[sI 4 v.2.1,sC 3 (cL 5 v.2.2.1 zB.row),sA 0 0 3 0],[(0,[cF 1 v.2.2.2.1 zF,cI v.2.2.2.2.1,cI v.2.2.2.2.2])]⟩) (fun v => q7 n v.1 v.2.1 v.2.2.1 v.2.2.2.1 v.2.2.2.2.1 v.2.2.2.2.2 = some o11) (fun v => v.1) (n,(r1.1,([] : List zB),r1.2.b,r1.2.i,r1.2.h)) eo11 (St.sub_of [4,3,0] [0] kr) ?_
  rintro ⟨mo11,y2,y3,y4,y5,y6⟩ H
  have H : q7 n mo11 y2 y3 y4 y5 y6 = some o11 := H
  obtain _ | mo11 := mo11
  ·exact nN H
  rw [q7] at H
  refine tS ?_
  refine gA 2 537 1 ?_
  obtain ⟨h1,H⟩ | ⟨h1,H⟩ := bC H
  ·refine nA h1 ?_
   refine Tr.exit ?_
   refine aJ ?_
   obtain rfl := si H
   have H := Ho11
   dsimp only at H
   exact jA (y3,y4,y5,y6) H [3,0] [0]
  refine tA h1 ?_
  refine tK ?_
  refine tS ?_
  refine tB ?_
  refine rA 1 ?_
  obtain ⟨r12,er12,H⟩ := bs H
  refine LAt.callL tOk [.lend,.rd] (f := 49) (av := #[.tmp 12,.const (.int .i64 6)]) (ats := #[92,3]) (d := (some 13)) (ty := 3) (g := none) kr kr kr [] (zO n (⟨y4,y5,y6⟩ : Src) 6 r12 er12) kr (.inl rfl) ?_
  refine dA 8217 1 ?_
  refine tB ?_
  refine gA 2 67117081 1 ?_
  obtain ⟨h2,H⟩ | ⟨h2,H⟩ := bC H
  ·refine nA h2 ?_
   refine gA 2 1099511627801 1 ?_
   obtain ⟨h3,H⟩ | ⟨h3,H⟩ := bC H
   ·refine nA h3 ?_
    refine Tr.at ?_
    refine lA 2 ?_
    obtain ⟨r13,er13,H⟩ := bs H
    refine LAt.callL tOk [.lend,.rd] (f := 49) (av := #[.tmp 15,.const (.int .i64 3)]) (ats := #[92,3]) (d := (some 16)) (ty := 3) (g := none) kr kr kr [] (zO n r12.2 3 r13 er13) kr (.inl rfl) ?_
    refine lA 2 ?_
    obtain ⟨r14,er14,H⟩ := bs H
    refine LAt.callL tOk [.lend] (f := 99) (av := #[.tmp 18]) (ats := #[92]) (d := (some 19)) (ty := 3) (g := none) kr kr kr [] (zBG n r13.2 r14 er14) kr (.inl rfl) ?_
    refine lA 1 ?_
    obtain ⟨r15,er15,H⟩ := bs H
    refine LAt.callL tOk [.lend,.rd] (f := 49) (av := #[.tmp 20,.const (.int .i64 3)]) (ats := #[92,3]) (d := (some 21)) (ty := 3) (g := none) kr kr kr [] (zO n r14.2 3 r15 er15) kr (.inl rfl) ?_
    refine lA 2 ?_
    obtain ⟨r16,er16,H⟩ := bs H
    refine LAt.callL tOk [.lend,.rd] (f := 49) (av := #[.tmp 23,.const (.int .i64 4)]) (ats := #[92,3]) (d := (some 24)) (ty := 3) (g := none) kr kr kr [] (zO n r15.2 4 r16 er16) kr (.inl rfl) ?_
    obtain ⟨r17,er17,H⟩ := bs H
    refine vB [.rd,.rd,.rd,.rd] [.slot 3] (zEx n y3 (IntKind.wrap .i64 (1 + r13.1)) (IntKind.wrap .i64 (r14.1 + r15.1)) r16.1 r17 er17) (.inr (zZ (zI (Qd (Zj zB.row_mine _)) zk) zq)) ?_
    refine LAt.moveU (T := lk tab) (ty := 36) (x := (.tmp 25)) (d := 3) (g := none) false [cL 5 r17 zB.row] kr kr kr kr kr ?_
    refine dA 25 1 ?_
    refine eA 3 25 1 ?_
    exact jB mo11 ((IntKind.wrap .i64 (y2 - 1)),r17,r16.2.b,r16.2.i,r16.2.h) H [4,3,0] [0]
   refine tA h3 ?_
   refine Tr.at ?_
   refine lA 1 ?_
   obtain ⟨r18,er18,H⟩ := bs H
   refine vB [.rd] [.slot 3] (zG9 n y3 r18 er18) (.inr (zZ (zI (Qd (Zj zB.row_mine _)) zk) zq)) ?_
   refine LAt.moveU (T := lk tab) (ty := 36) (x := (.tmp 43)) (d := 3) (g := none) false [cL 5 r18 zB.row] kr kr kr kr kr ?_
   refine dA 25 1 ?_
   refine eA 3 25 1 ?_
   exact jB mo11 ((IntKind.wrap .i64 (y2 - 1)),r18,r12.2.b,r12.2.i,r12.2.h) H [4,3,0] [0]
  refine tA h2 ?_
  refine Tr.at ?_
  refine lA 2 ?_
  obtain ⟨r19,er19,H⟩ := bs H
  refine LAt.callL tOk [.lend,.rd] (f := 49) (av := #[.tmp 30,.const (.int .i64 3)]) (ats := #[92,3]) (d := (some 31)) (ty := 3) (g := none) kr kr kr [] (zO n r12.2 3 r19 er19) kr (.inl rfl) ?_
  refine lA 2 ?_
  obtain ⟨r20,er20,H⟩ := bs H
  refine LAt.callL tOk [.lend] (f := 99) (av := #[.tmp 33]) (ats := #[92]) (d := (some 34)) (ty := 3) (g := none) kr kr kr [] (zBG n r19.2 r20 er20) kr (.inl rfl) ?_
  refine lA 1 ?_
  obtain ⟨r21,er21,H⟩ := bs H
  refine LAt.callL tOk [.lend,.rd] (f := 49) (av := #[.tmp 35,.const (.int .i64 4)]) (ats := #[92,3]) (d := (some 36)) (ty := 3) (g := none) kr kr kr [] (zO n r20.2 4 r21 er21) kr (.inl rfl) ?_
  obtain ⟨r22,er22,H⟩ := bs H
  refine vB [.rd,.rd,.rd,.rd] [.slot 3] (zCI n y3 (IntKind.wrap .i64 (1 + r19.1)) r20.1 r21.1 r22 er22) (.inr (zZ (zI (Qd (Zj zB.row_mine _)) zk) (zZ (zI zP zk) zq))) ?_
  refine LAt.movT tOk (ty := 148) (t := 37) (d := 28) (g := none) [(false,[cL 5 r22.1 zB.row]),(false,[cB r22.2])] _ kr (.inl rfl) kr kr kr kr rfl ?_
  refine lA 2 ?_
  refine LAt.moveU (T := lk tab) (ty := 36) (x := (.tmp 38)) (d := 3) (g := none) false [cL 5 r22.1 zB.row] kr kr kr kr kr ?_
  refine dA 25 1 ?_
  refine eA 3 25 1 ?_
  exact jB mo11 ((IntKind.wrap .i64 (y2 - 1)),r22.1,r21.2.b,r21.2.i,r21.2.h) H [4,3,0] [0]
 rintro ⟨y7,y8,y9,y10⟩ H
 have H : (JG n y7 y8 y9 y10) = some r := H
 unfold JG at H
 refine gA 2 13 1 ?_
 refine te ?_
 obtain rfl := si H
 exact Fin.ofY _ [(false,[cL 5 y7 zB.row])] [] _ [] _ [(0,[cF 1 y8 zF,cI y9,cI y10])] kr rfl rfl rfl kr kr kr kr rfl rfl rfl
end Go.Proofs.Ytajadnlejdpceaa.Tw
