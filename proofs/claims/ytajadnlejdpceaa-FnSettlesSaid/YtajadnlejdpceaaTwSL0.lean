import Derived.Test.YtajadnlejdpceaaProg
import Derived.Test.YtajadnlejdpceaaTlRule
import Derived.Test.YtajadnlejdpceaaTlU12
import Derived.WalkKit
set_option linter.unusedVariables false
set_option linter.unusedSimpArgs false
set_option maxRecDepth 100000
set_option maxHeartbeats 1000000
namespace Go.Proofs.Ytajadnlejdpceaa.Tw
open Go Go.TL Go.Proofs
def tab : List (Nat × TI) := [(2,⟨.int .i64,1,8,[.lit (.int .i64 0)]⟩),
  (3,⟨.int .i64,1,8,[.lit (.int .i64 0)]⟩),
  (4,⟨.bool,1,1,[.lit (.bool false)]⟩),
  (5,⟨.int .u8,1,1,[.lit (.int .u8 0)]⟩),
  (6,⟨.int .u8,1,1,[.lit (.int .u8 0)]⟩),
  (7,⟨.st [(0,1,2),(1,1,3),(2,1,4),(3,1,6)],4,24,[.lit (.int .i64 0),.lit (.int .i64 0),.lit (.bool false),.lit (.int .u8 0)]⟩),
  (8,⟨.st [(0,1,2),(1,1,3),(2,1,4),(3,1,6)],4,24,[.lit (.int .i64 0),.lit (.int .i64 0),.lit (.bool false),.lit (.int .u8 0)]⟩),
  (9,⟨.str,1,16,[.lit (.string ⟨#[]⟩)]⟩),
  (11,⟨.str,1,16,[.lit (.string ⟨#[]⟩)]⟩),
  (33,⟨.sl 5,1,24,[.sl true 1 []]⟩),
  (35,⟨.sl 55,1,24,[.sl true 8 []]⟩),
  (36,⟨.sl 60,1,24,[.sl true 5 []]⟩),
  (37,⟨.sl 114,1,24,[.sl true 3 []]⟩),
  (38,⟨.sl 3,1,24,[.sl true 1 []]⟩),
  (40,⟨.st [(0,1,37),(1,1,38)],2,48,[.sl true 3 [],.sl true 1 []]⟩),
  (42,⟨.st [(0,1,3),(1,1,9),(2,1,35),(3,1,36),(4,2,40),(6,1,3),(7,1,3),(8,1,3),(9,1,3),(10,1,3)],11,160,[.lit (.int .i64 0),.lit (.string ⟨#[]⟩),.sl true 8 [],.sl true 5 [],.sl true 3 [],.sl true 1 [],.lit (.int .i64 0),.lit (.int .i64 0),.lit (.int .i64 0),.lit (.int .i64 0),.lit (.int .i64 0)]⟩),
  (46,⟨.st [(0,1,3),(1,1,3),(2,1,3),(3,1,3),(4,1,3)],5,40,[.lit (.int .i64 0),.lit (.int .i64 0),.lit (.int .i64 0),.lit (.int .i64 0),.lit (.int .i64 0)]⟩),
  (53,⟨.sl 42,1,24,[.sl true 11 []]⟩),
  (55,⟨.st [(0,1,4),(1,1,3),(2,1,4),(3,5,46)],8,64,[.lit (.bool false),.lit (.int .i64 0),.lit (.bool false),.lit (.int .i64 0),.lit (.int .i64 0),.lit (.int .i64 0),.lit (.int .i64 0),.lit (.int .i64 0)]⟩),
  (60,⟨.st [(0,1,3),(1,1,3),(2,1,3),(3,1,3),(4,1,4)],5,40,[.lit (.int .i64 0),.lit (.int .i64 0),.lit (.int .i64 0),.lit (.int .i64 0),.lit (.bool false)]⟩),
  (73,⟨.sl 119,1,24,[.sl true 4 []]⟩),
  (74,⟨.sl 177,1,24,[.sl true 7 []]⟩),
  (76,⟨.st [(0,1,53),(1,1,73),(2,1,74)],3,72,[.sl true 11 [],.sl true 4 [],.sl true 7 []]⟩),
  (77,⟨.sl 172,1,24,[.sl true 2 []]⟩),
  (103,⟨.int .u64,1,8,[.lit (.int .u64 0)]⟩),
  (114,⟨.st [(0,1,3),(1,1,3),(2,1,3)],3,24,[.lit (.int .i64 0),.lit (.int .i64 0),.lit (.int .i64 0)]⟩),
  (119,⟨.st [(0,1,3),(1,1,3),(2,1,3),(3,1,3)],4,32,[.lit (.int .i64 0),.lit (.int .i64 0),.lit (.int .i64 0),.lit (.int .i64 0)]⟩),
  (139,⟨.st [(0,1,33),(1,1,3),(2,1,3)],3,40,[.sl true 1 [],.lit (.int .i64 0),.lit (.int .i64 0)]⟩),
  (172,⟨.st [(0,1,3),(1,1,3)],2,16,[.lit (.int .i64 0),.lit (.int .i64 0)]⟩),
  (177,⟨.st [(0,1,3),(1,1,4),(2,5,46)],7,56,[.lit (.int .i64 0),.lit (.bool false),.lit (.int .i64 0),.lit (.int .i64 0),.lit (.int .i64 0),.lit (.int .i64 0),.lit (.int .i64 0)]⟩)]
def tI (t : Nat) : TI := (lk tab t).getD ⟨.bool,1,1,[]⟩
theorem mixed : Try.prog.follows .mixedOrders = true := by kernel_rfl
theorem tOk : TOk Try.prog (lk tab) := zNQ (by kernel_rfl)
instance : TC Try.prog (lk tab) := ⟨tOk⟩
structure Src where
  b : (List Int)
  i : Int
  h : Int
def Src.row (v : Src) : List CV := [.sl true 1 (v.b.map zy),.lit (.int .i64 v.i),.lit (.int .i64 v.h)]
def Src.wf (v : Src) : Prop := YQ zI1 v.b ∧ qK v.i ∧ qK v.h ∧ True
theorem Src.enc : Enc Src [.sl 1 [.int .u8],.int .i64,.int .i64] Src.row Src.wf := fun cs h => by
  obtain ⟨c0,r0,rfl,k0,h⟩ := zN h
  obtain ⟨c1,r1,rfl,k1,h⟩ := zN h
  obtain ⟨c2,r2,rfl,k2,h⟩ := zN h
  obtain rfl := QR h
  obtain ⟨x0,rfl,w0⟩ := Enc.sl zKH k0
  obtain ⟨x1,rfl,w1⟩ := zh k1
  obtain ⟨x2,rfl,w2⟩ := zh k2
  exact ⟨⟨x0,x1,x2⟩,rfl,⟨w0,w1,w2,trivial⟩⟩
theorem Src.row_mine (v : Src) : CV.mineRow (Src.row v) := zK (YG (QU zI0 _)) (zK zR (zK zR (qW)))
structure Vec where
  Root : Int
  Co : Int
  Hops : Int
  Bridge : Int
  Port : Int
def Vec.row (v : Vec) : List CV := [.lit (.int .i64 v.Root),.lit (.int .i64 v.Co),.lit (.int .i64 v.Hops),.lit (.int .i64 v.Bridge),.lit (.int .i64 v.Port)]
def Vec.wf (v : Vec) : Prop := qK v.Root ∧ qK v.Co ∧ qK v.Hops ∧ qK v.Bridge ∧ qK v.Port ∧ True
theorem Vec.enc : Enc Vec [.int .i64,.int .i64,.int .i64,.int .i64,.int .i64] Vec.row Vec.wf := fun cs h => by
  obtain ⟨c0,r0,rfl,k0,h⟩ := zN h
  obtain ⟨c1,r1,rfl,k1,h⟩ := zN h
  obtain ⟨c2,r2,rfl,k2,h⟩ := zN h
  obtain ⟨c3,r3,rfl,k3,h⟩ := zN h
  obtain ⟨c4,r4,rfl,k4,h⟩ := zN h
  obtain rfl := QR h
  obtain ⟨x0,rfl,w0⟩ := zh k0
  obtain ⟨x1,rfl,w1⟩ := zh k1
  obtain ⟨x2,rfl,w2⟩ := zh k2
  obtain ⟨x3,rfl,w3⟩ := zh k3
  obtain ⟨x4,rfl,w4⟩ := zh k4
  exact ⟨⟨x0,x1,x2,x3,x4⟩,rfl,⟨w0,w1,w2,w3,w4,trivial⟩⟩
theorem Vec.row_mine (v : Vec) : CV.mineRow (Vec.row v) := zK zR (zK zR (zK zR (zK zR (zK zR (qW)))))
structure Pt where
  Up : Bool
  Co : Int
  Has : Bool
  Hd : Vec
def Pt.row (v : Pt) : List CV := [.lit (.bool v.Up),.lit (.int .i64 v.Co),.lit (.bool v.Has),.lit (.int .i64 v.Hd.Root),.lit (.int .i64 v.Hd.Co),.lit (.int .i64 v.Hd.Hops),.lit (.int .i64 v.Hd.Bridge),.lit (.int .i64 v.Hd.Port)]
def Pt.wf (v : Pt) : Prop := qK v.Co ∧ qK v.Hd.Root ∧ qK v.Hd.Co ∧ qK v.Hd.Hops ∧ qK v.Hd.Bridge ∧ qK v.Hd.Port ∧ True
theorem Pt.enc : Enc Pt [.bool,.int .i64,.bool,.int .i64,.int .i64,.int .i64,.int .i64,.int .i64] Pt.row Pt.wf := fun cs h => by
  obtain ⟨c0,r0,rfl,k0,h⟩ := zN h
  obtain ⟨c1,r1,rfl,k1,h⟩ := zN h
  obtain ⟨c2,r2,rfl,k2,h⟩ := zN h
  obtain ⟨c3,r3,rfl,k3,h⟩ := zN h
  obtain ⟨c4,r4,rfl,k4,h⟩ := zN h
  obtain ⟨c5,r5,rfl,k5,h⟩ := zN h
  obtain ⟨c6,r6,rfl,k6,h⟩ := zN h
  obtain ⟨c7,r7,rfl,k7,h⟩ := zN h
  obtain rfl := QR h
  obtain ⟨x0,rfl⟩ := zCU k0
  obtain ⟨x1,rfl,w1⟩ := zh k1
  obtain ⟨x2,rfl⟩ := zCU k2
  obtain ⟨x3,rfl,w3⟩ := zh k3
  obtain ⟨x4,rfl,w4⟩ := zh k4
  obtain ⟨x5,rfl,w5⟩ := zh k5
  obtain ⟨x6,rfl,w6⟩ := zh k6
  obtain ⟨x7,rfl,w7⟩ := zh k7
  exact ⟨⟨x0,x1,x2,⟨x3,x4,x5,x6,x7⟩⟩,rfl,⟨w1,w3,w4,w5,w6,w7,trivial⟩⟩
theorem Pt.row_mine (v : Pt) : CV.mineRow (Pt.row v) := zK zR (zK zR (zK zR (zK zR (zK zR (zK zR (zK zR (zK zR (qW))))))))
structure zB where
  Tag : Int
  Mac : Int
  Port : Int
  Age : Int
  Sc : Bool
def zB.row (v : zB) : List CV := [.lit (.int .i64 v.Tag),.lit (.int .i64 v.Mac),.lit (.int .i64 v.Port),.lit (.int .i64 v.Age),.lit (.bool v.Sc)]
def zB.wf (v : zB) : Prop := qK v.Tag ∧ qK v.Mac ∧ qK v.Port ∧ qK v.Age ∧ True
theorem zB.enc : Enc zB [.int .i64,.int .i64,.int .i64,.int .i64,.bool] zB.row zB.wf := fun cs h => by
  obtain ⟨c0,r0,rfl,k0,h⟩ := zN h
  obtain ⟨c1,r1,rfl,k1,h⟩ := zN h
  obtain ⟨c2,r2,rfl,k2,h⟩ := zN h
  obtain ⟨c3,r3,rfl,k3,h⟩ := zN h
  obtain ⟨c4,r4,rfl,k4,h⟩ := zN h
  obtain rfl := QR h
  obtain ⟨x0,rfl,w0⟩ := zh k0
  obtain ⟨x1,rfl,w1⟩ := zh k1
  obtain ⟨x2,rfl,w2⟩ := zh k2
  obtain ⟨x3,rfl,w3⟩ := zh k3
  obtain ⟨x4,rfl⟩ := zCU k4
  exact ⟨⟨x0,x1,x2,x3,x4⟩,rfl,⟨w0,w1,w2,w3,trivial⟩⟩
theorem zB.row_mine (v : zB) : CV.mineRow (zB.row v) := zK zR (zK zR (zK zR (zK zR (zK zR (qW)))))
structure zF where
  Id : Int
  Members : Int
  Bare : Int
def zF.row (v : zF) : List CV := [.lit (.int .i64 v.Id),.lit (.int .i64 v.Members),.lit (.int .i64 v.Bare)]
def zF.wf (v : zF) : Prop := qK v.Id ∧ qK v.Members ∧ qK v.Bare ∧ True
theorem zF.enc : Enc zF [.int .i64,.int .i64,.int .i64] zF.row zF.wf := fun cs h => by
  obtain ⟨c0,r0,rfl,k0,h⟩ := zN h
  obtain ⟨c1,r1,rfl,k1,h⟩ := zN h
  obtain ⟨c2,r2,rfl,k2,h⟩ := zN h
  obtain rfl := QR h
  obtain ⟨x0,rfl,w0⟩ := zh k0
  obtain ⟨x1,rfl,w1⟩ := zh k1
  obtain ⟨x2,rfl,w2⟩ := zh k2
  exact ⟨⟨x0,x1,x2⟩,rfl,⟨w0,w1,w2,trivial⟩⟩
theorem zF.row_mine (v : zF) : CV.mineRow (zF.row v) := zK zR (zK zR (zK zR (qW)))
structure zJ where
  Rows : (List zF)
  Pv : (List Int)
def zJ.row (v : zJ) : List CV := [.sl true 3 (v.Rows.map zF.row),.sl true 1 (v.Pv.map intRow)]
def zJ.wf (v : zJ) : Prop := YQ zF.wf v.Rows ∧ YQ qK v.Pv ∧ True
theorem zJ.enc : Enc zJ [.sl 3 [.int .i64,.int .i64,.int .i64],.sl 1 [.int .i64]] zJ.row zJ.wf := fun cs h => by
  obtain ⟨c0,r0,rfl,k0,h⟩ := zN h
  obtain ⟨c1,r1,rfl,k1,h⟩ := zN h
  obtain rfl := QR h
  obtain ⟨x0,rfl,w0⟩ := Enc.sl zF.enc k0
  obtain ⟨x1,rfl,w1⟩ := Enc.sl zLG k1
  exact ⟨⟨x0,x1⟩,rfl,⟨w0,w1,trivial⟩⟩
theorem zJ.row_mine (v : zJ) : CV.mineRow (zJ.row v) := zK (YG (QU zF.row_mine _)) (zK (YG (QU zCF _)) (qW))
structure zA where
  Id : Int
  Name : ByteArray
  Ps : (List Pt)
  F : (List zB)
  V : zJ
  Tk : Int
  Pa : Int
  Wo : Int
  Dr : Int
  Ve : Int
def zA.row (v : zA) : List CV := [.lit (.int .i64 v.Id),.lit (.string v.Name),.sl true 8 (v.Ps.map Pt.row),.sl true 5 (v.F.map zB.row),.sl true 3 (v.V.Rows.map zF.row),.sl true 1 (v.V.Pv.map intRow),.lit (.int .i64 v.Tk),.lit (.int .i64 v.Pa),.lit (.int .i64 v.Wo),.lit (.int .i64 v.Dr),.lit (.int .i64 v.Ve)]
def zA.wf (v : zA) : Prop := qK v.Id ∧ v.Name.size ≤ maxLen ∧ YQ Pt.wf v.Ps ∧ YQ zB.wf v.F ∧ YQ zF.wf v.V.Rows ∧ YQ qK v.V.Pv ∧ qK v.Tk ∧ qK v.Pa ∧ qK v.Wo ∧ qK v.Dr ∧ qK v.Ve ∧ True
theorem zA.enc : Enc zA [.int .i64,.str,.sl 8 [.bool,.int .i64,.bool,.int .i64,.int .i64,.int .i64,.int .i64,.int .i64],.sl 5 [.int .i64,.int .i64,.int .i64,.int .i64,.bool],.sl 3 [.int .i64,.int .i64,.int .i64],.sl 1 [.int .i64],.int .i64,.int .i64,.int .i64,.int .i64,.int .i64] zA.row zA.wf := fun cs h => by
  obtain ⟨c0,r0,rfl,k0,h⟩ := zN h
  obtain ⟨c1,r1,rfl,k1,h⟩ := zN h
  obtain ⟨c2,r2,rfl,k2,h⟩ := zN h
  obtain ⟨c3,r3,rfl,k3,h⟩ := zN h
  obtain ⟨c4,r4,rfl,k4,h⟩ := zN h
  obtain ⟨c5,r5,rfl,k5,h⟩ := zN h
  obtain ⟨c6,r6,rfl,k6,h⟩ := zN h
  obtain ⟨c7,r7,rfl,k7,h⟩ := zN h
  obtain ⟨c8,r8,rfl,k8,h⟩ := zN h
  obtain ⟨c9,r9,rfl,k9,h⟩ := zN h
  obtain ⟨c10,r10,rfl,k10,h⟩ := zN h
  obtain rfl := QR h
  obtain ⟨x0,rfl,w0⟩ := zh k0
  obtain ⟨x1,rfl,w1⟩ := zLt k1
  obtain ⟨x2,rfl,w2⟩ := Enc.sl Pt.enc k2
  obtain ⟨x3,rfl,w3⟩ := Enc.sl zB.enc k3
  obtain ⟨x4,rfl,w4⟩ := Enc.sl zF.enc k4
  obtain ⟨x5,rfl,w5⟩ := Enc.sl zLG k5
  obtain ⟨x6,rfl,w6⟩ := zh k6
  obtain ⟨x7,rfl,w7⟩ := zh k7
  obtain ⟨x8,rfl,w8⟩ := zh k8
  obtain ⟨x9,rfl,w9⟩ := zh k9
  obtain ⟨x10,rfl,w10⟩ := zh k10
  exact ⟨⟨x0,x1,x2,x3,⟨x4,x5⟩,x6,x7,x8,x9,x10⟩,rfl,⟨w0,w1,w2,w3,w4,w5,w6,w7,w8,w9,w10,trivial⟩⟩
theorem zA.row_mine (v : zA) : CV.mineRow (zA.row v) := zK zR (zK zR (zK (YG (QU Pt.row_mine _)) (zK (YG (QU zB.row_mine _)) (zK (YG (QU zF.row_mine _)) (zK (YG (QU zCF _)) (zK zR (zK zR (zK zR (zK zR (zK zR (qW)))))))))))
structure Link where
  A : Int
  P : Int
  B : Int
  Q : Int
def Link.row (v : Link) : List CV := [.lit (.int .i64 v.A),.lit (.int .i64 v.P),.lit (.int .i64 v.B),.lit (.int .i64 v.Q)]
def Link.wf (v : Link) : Prop := qK v.A ∧ qK v.P ∧ qK v.B ∧ qK v.Q ∧ True
theorem Link.enc : Enc Link [.int .i64,.int .i64,.int .i64,.int .i64] Link.row Link.wf := fun cs h => by
  obtain ⟨c0,r0,rfl,k0,h⟩ := zN h
  obtain ⟨c1,r1,rfl,k1,h⟩ := zN h
  obtain ⟨c2,r2,rfl,k2,h⟩ := zN h
  obtain ⟨c3,r3,rfl,k3,h⟩ := zN h
  obtain rfl := QR h
  obtain ⟨x0,rfl,w0⟩ := zh k0
  obtain ⟨x1,rfl,w1⟩ := zh k1
  obtain ⟨x2,rfl,w2⟩ := zh k2
  obtain ⟨x3,rfl,w3⟩ := zh k3
  exact ⟨⟨x0,x1,x2,x3⟩,rfl,⟨w0,w1,w2,w3,trivial⟩⟩
theorem Link.row_mine (v : Link) : CV.mineRow (Link.row v) := zK zR (zK zR (zK zR (zK zR (qW))))
structure Say where
  Link : Int
  Back : Bool
  V : Vec
def Say.row (v : Say) : List CV := [.lit (.int .i64 v.Link),.lit (.bool v.Back),.lit (.int .i64 v.V.Root),.lit (.int .i64 v.V.Co),.lit (.int .i64 v.V.Hops),.lit (.int .i64 v.V.Bridge),.lit (.int .i64 v.V.Port)]
def Say.wf (v : Say) : Prop := qK v.Link ∧ qK v.V.Root ∧ qK v.V.Co ∧ qK v.V.Hops ∧ qK v.V.Bridge ∧ qK v.V.Port ∧ True
theorem Say.enc : Enc Say [.int .i64,.bool,.int .i64,.int .i64,.int .i64,.int .i64,.int .i64] Say.row Say.wf := fun cs h => by
  obtain ⟨c0,r0,rfl,k0,h⟩ := zN h
  obtain ⟨c1,r1,rfl,k1,h⟩ := zN h
  obtain ⟨c2,r2,rfl,k2,h⟩ := zN h
  obtain ⟨c3,r3,rfl,k3,h⟩ := zN h
  obtain ⟨c4,r4,rfl,k4,h⟩ := zN h
  obtain ⟨c5,r5,rfl,k5,h⟩ := zN h
  obtain ⟨c6,r6,rfl,k6,h⟩ := zN h
  obtain rfl := QR h
  obtain ⟨x0,rfl,w0⟩ := zh k0
  obtain ⟨x1,rfl⟩ := zCU k1
  obtain ⟨x2,rfl,w2⟩ := zh k2
  obtain ⟨x3,rfl,w3⟩ := zh k3
  obtain ⟨x4,rfl,w4⟩ := zh k4
  obtain ⟨x5,rfl,w5⟩ := zh k5
  obtain ⟨x6,rfl,w6⟩ := zh k6
  exact ⟨⟨x0,x1,⟨x2,x3,x4,x5,x6⟩⟩,rfl,⟨w0,w2,w3,w4,w5,w6,trivial⟩⟩
theorem Say.row_mine (v : Say) : CV.mineRow (Say.row v) := zK zR (zK zR (zK zR (zK zR (zK zR (zK zR (zK zR (qW)))))))
structure Net where
  Bs : (List zA)
  Ls : (List Link)
  Said : (List Say)
def Net.row (v : Net) : List CV := [.sl true 11 (v.Bs.map zA.row),.sl true 4 (v.Ls.map Link.row),.sl true 7 (v.Said.map Say.row)]
def Net.wf (v : Net) : Prop := YQ zA.wf v.Bs ∧ YQ Link.wf v.Ls ∧ YQ Say.wf v.Said ∧ True
theorem Net.enc : Enc Net [.sl 11 [.int .i64,.str,.sl 8 [.bool,.int .i64,.bool,.int .i64,.int .i64,.int .i64,.int .i64,.int .i64],.sl 5 [.int .i64,.int .i64,.int .i64,.int .i64,.bool],.sl 3 [.int .i64,.int .i64,.int .i64],.sl 1 [.int .i64],.int .i64,.int .i64,.int .i64,.int .i64,.int .i64],.sl 4 [.int .i64,.int .i64,.int .i64,.int .i64],.sl 7 [.int .i64,.bool,.int .i64,.int .i64,.int .i64,.int .i64,.int .i64]] Net.row Net.wf := fun cs h => by
  obtain ⟨c0,r0,rfl,k0,h⟩ := zN h
  obtain ⟨c1,r1,rfl,k1,h⟩ := zN h
  obtain ⟨c2,r2,rfl,k2,h⟩ := zN h
  obtain rfl := QR h
  obtain ⟨x0,rfl,w0⟩ := Enc.sl zA.enc k0
  obtain ⟨x1,rfl,w1⟩ := Enc.sl Link.enc k1
  obtain ⟨x2,rfl,w2⟩ := Enc.sl Say.enc k2
  exact ⟨⟨x0,x1,x2⟩,rfl,⟨w0,w1,w2,trivial⟩⟩
theorem Net.row_mine (v : Net) : CV.mineRow (Net.row v) := zK (YG (QU zA.row_mine _)) (zK (YG (QU Link.row_mine _)) (zK (YG (QU Say.row_mine _)) (qW)))
structure Event where
  Ki : Int
  At : Int
def Event.row (v : Event) : List CV := [.lit (.int .i64 v.Ki),.lit (.int .i64 v.At)]
def Event.wf (v : Event) : Prop := qK v.Ki ∧ qK v.At ∧ True
theorem Event.enc : Enc Event [.int .i64,.int .i64] Event.row Event.wf := fun cs h => by
  obtain ⟨c0,r0,rfl,k0,h⟩ := zN h
  obtain ⟨c1,r1,rfl,k1,h⟩ := zN h
  obtain rfl := QR h
  obtain ⟨x0,rfl,w0⟩ := zh k0
  obtain ⟨x1,rfl,w1⟩ := zh k1
  exact ⟨⟨x0,x1⟩,rfl,⟨w0,w1,trivial⟩⟩
theorem Event.row_mine (v : Event) : CV.mineRow (Event.row v) := zK zR (zK zR (qW))
def zDo (n : Nat) (x0 : (List Int)) : Option (Bool) :=
  (some (decide ((x0.length : Int) > 1048576)))
theorem zLv (n : Nat) (x0 : (List Int)) (r : Bool) (H : zDo n x0 = some r) : zI Try.prog 13 [.val false [.sl false 1 (CV.frzEs (x0.map zy))]] [.val false [.lit (.bool r)]] [] := by
 refine cW Try.func13 (fun g d => sl [g 0,g 1] .ret) [.tmp 2] fun cx => ?_
 unfold zDo at H
 refine gA 1 1 0 ?_
 refine rA 1 ?_
 refine kF x0 zy ?_
 refine uA 2 4 0 ?_
 exact te (fJ [(false,[cB (decide ((x0.length : Int) > 1048576))])] H)
def zBE (n : Nat) (x0 : (List Int)) (y3 : Int) : Option (Src) :=
  (some (⟨x0,0,y3⟩ : Src))
def Qw (n : Nat) : Nat → (List Int) → Int → Int → Option ((Int) ⊕ (Src))
  | 0,_,_,_ => none
  | mo4 + 1,x0,y1,y2 => (bif (decide (y1 < (x0.length : Int))) then (bif (decide (y1 < 4000)) then ((idx x0 y1).bind fun v5 => (Qw n mo4 x0 (IntKind.wrap .i64 (y1 + 1)) (IntKind.wrap .i64 (BitVec.ofInt (IntKind.bits .i64) (IntKind.wrap .i64 ((IntKind.wrap .i64 ((IntKind.wrap .i64 (y2 * 137)) + (IntKind.wrap .i64 v5))) + 11)) &&& BitVec.ofInt (IntKind.bits .i64) 1073741823).toNat))) else (some (Sum.inl y2))) else (some (Sum.inl y2)))
def zAx (n : Nat) (x0 : (List Int)) : Option (Src) :=
  ((Qw n n x0 0 (IntKind.wrap .i64 (762762 + (x0.length : Int)))).bind fun o => match o with | .inl y3 => (zBE n x0 y3) | .inr r => some r)
noncomputable abbrev G47 (k : Nat) := Rg Try.f47 k
theorem zKy (n : Nat) (x0 : (List Int)) (r : Src) (H : zAx n x0 = some r) : zI Try.prog 47 [.val false [.sl false 1 (CV.frzEs (x0.map zy))]] [.ptr (CV.frzRow (Src.row r))] [] := by
 refine zI.of_body_ptr tOk Try.func47 rfl (c := (.seq (G47 0) (.seq (G47 1) (.seq (.seq (G47 2) (.block 0 (.loop (.seq (.seq (G47 3) (.cond (.tmp 15) .skip (.exit 0))) (.seq (.block 1 (G47 5)) (G47 4)))))) (.seq (G47 6) .ret))))) kr (Nat.le_of_ble_eq_true kr) 2 31 rfl (CV.frzRow (Src.row r)) fun cx => ?_
 show Tr _ _ _ ⟨32,0,[sC 0 (cF 1 x0 zy)],[]⟩ _
 unfold zAx at H
 refine gA 1 1 0 ?_
 refine rA 1 ?_
 refine kF x0 zy ?_
 refine uA 2 9 0 ?_
 refine tS ?_
 refine gA 1 25 0 ?_
 obtain ⟨o4,eo4,Ho4⟩ := bs H
 clear H
 refine Tr.mid (ι := Int) (fun v => ⟨32,0,[sI 3 v,sC 0 (cF 1 x0 zy)],[]⟩) (fun v => zBE n x0 v = some r) ?_ ?_
 ·refine tB ?_
  refine Tr.loop (ι := Nat × (Int × Int)) (fun v => ⟨32,0,[sI 4 v.2.1,sI 3 v.2.2,sC 0 (cF 1 x0 zy)],[]⟩) (fun v => Qw n v.1 x0 v.2.1 v.2.2 = some o4) (fun v => v.1) (n,(0,(IntKind.wrap .i64 (762762 + (x0.length : Int))))) eo4 (St.sub_of [4,3,0] [] kr) ?_
  rintro ⟨mo4,y1,y2⟩ H
  have H : Qw n mo4 x0 y1 y2 = some o4 := H
  obtain _ | mo4 := mo4
  ·exact nN H
  rw [Qw] at H
  refine tS ?_
  refine rA 2 ?_
  refine kF x0 zy ?_
  refine lA 2 ?_
  refine sL 4121 0 ⟨32,0,[sB 12 (decide (y1 < (x0.length : Int))),sI 4 y1,sI 3 y2,sC 0 (cF 1 x0 zy)],[]⟩ ?_
  cases h1 : (decide (y1 < (x0.length : Int)))
  ·have H := zG h1 H
   refine uA 3 32793 0 ?_
   refine nB_ ?_
   refine Tr.exit ?_
   refine aJ ?_
   obtain rfl := si H
   have H := Ho4
   dsimp only at H
   exact jA y2 H [3,0] []
  have H := zH h1 H
  refine uA 3 32793 0 ?_
  obtain ⟨h2,H⟩ | ⟨h2,H⟩ := bC H
  ·refine nA h2 ?_
   refine Tr.exit ?_
   refine aJ ?_
   obtain rfl := si H
   have H := Ho4
   dsimp only at H
   exact jA y2 H [3,0] []
  refine tA h2 ?_
  refine tK ?_
  refine tS ?_
  refine tB ?_
  refine Tr.at ?_
  refine lA 4 ?_
  obtain ⟨v5,ev5,H⟩ := bs H
  refine iA zy ev5 ?_
  refine uA 6 25 0 ?_
  refine eA 3 25 0 ?_
  exact jB mo4 ((IntKind.wrap .i64 (y1 + 1)),(IntKind.wrap .i64 (BitVec.ofInt (IntKind.bits .i64) (IntKind.wrap .i64 ((IntKind.wrap .i64 ((IntKind.wrap .i64 (y2 * 137)) + (IntKind.wrap .i64 v5))) + 11)) &&& BitVec.ofInt (IntKind.bits .i64) 1073741823).toNat)) H [4,3,0] []
 rintro y3 H
 have H : (zBE n x0 y3) = some r := H
 unfold zBE at H
 refine gA 5 4 2147483648 ?_
 refine te ?_
 obtain rfl := si H
 exact And.intro kr kr
def zAQ (n : Nat) (x0 : (List Int)) (x1 : Int) : Option (Int) :=
  (bif (decide ((12 : Int) ≠ 0)) then (bif (decide ((IntKind.wrap .i64 (3 + (IntKind.wrap .i64 (Int.tdiv (x0.length : Int) 12)))) > x1)) then (some x1) else (some (IntKind.wrap .i64 (3 + (IntKind.wrap .i64 (Int.tdiv (x0.length : Int) 12)))))) else none)
theorem zJ4 (n : Nat) (x0 : (List Int)) (x1 : Int) (r : Int) (H : zAQ n x0 x1 = some r) : zI Try.prog 70 [.val false [.sl false 1 (CV.frzEs (x0.map zy))],.val false [.lit (.int .i64 x1)]] [.val false [.lit (.int .i64 r)]] [] := by
 refine cW Try.func70 (fun g d => sl [g 0,g 1,sl [g 2] (cn 12 (sl [g 3] .ret) .skip),g 4] .ret) [.tmp 4] fun cx => ?_
 unfold zAQ at H
 refine gA 1 3 0 ?_
 refine rA 1 ?_
 refine kF x0 zy ?_
 obtain ⟨hg1,H⟩ := gs H
 refine LAt.binC tOk (op := .quo) (t := 3) (ty := 3) (ty' := 3) (x := (.tmp 7)) (y := (.const (.int .i64 12))) (d := 8) (g := none) (.int .i64 (x0.length : Int)) (.int .i64 12) (.int .i64 (IntKind.wrap .i64 (Int.tdiv (x0.length : Int) 12))) _ kr kr kr kr kr (φ := (IntKind.i64 = IntKind.i64 ∧ (12 : Int) ≠ 0)) kr (⟨rfl,of_decide_eq_true hg1⟩) rfl ?_
 refine uA 2 34 0 ?_
 refine tS ?_
 refine gA 3 4130 0 ?_
 obtain ⟨h1,H⟩ | ⟨h1,H⟩ := bC H
 ·refine nA h1 ?_
  refine tK ?_
  refine gA 2 16 0 ?_
  exact te (fJ [(false,[cI (IntKind.wrap .i64 (3 + (IntKind.wrap .i64 (Int.tdiv (x0.length : Int) 12))))])] H)
 refine tA h1 ?_
 refine gA 2 16 0 ?_
 exact te (fJ [(false,[cI x1])] H)
def YB (n : Nat) (x0 : Src) : Option (Int × Src) :=
  (bif (decide ((0 : Int) ≤ 33)) then (bif (decide ((0 : Int) ≤ 47)) then (bif (decide (x0.i < (x0.b.length : Int))) then ((idx x0.b x0.i).bind fun v3 => (some ((IntKind.wrap .i64 (BitVec.ofInt (IntKind.bits .i64) (IntKind.wrap .i64 ((IntKind.wrap .i64 (BitVec.ofInt (IntKind.bits .i64) (IntKind.wrap .i64 (BitVec.ofInt (IntKind.bits .i64) (Int.fdiv (IntKind.wrap .i64 ((IntKind.wrap .i64 (x0.h * 6364136223846793005)) + 1442695040888963407)) (2 ^ min ((33 : Int)).toNat (IntKind.bits .i64))) ^^^ BitVec.ofInt (IntKind.bits .i64) (Int.fdiv (IntKind.wrap .i64 ((IntKind.wrap .i64 (x0.h * 6364136223846793005)) + 1442695040888963407)) (2 ^ min ((47 : Int)).toNat (IntKind.bits .i64)))).toNat) &&& BitVec.ofInt (IntKind.bits .i64) 255).toNat) + (IntKind.wrap .i64 v3))) &&& BitVec.ofInt (IntKind.bits .i64) 255).toNat),(⟨x0.b,(IntKind.wrap .i64 (x0.i + 1)),(IntKind.wrap .i64 ((IntKind.wrap .i64 (x0.h * 6364136223846793005)) + 1442695040888963407))⟩ : Src)))) else (some ((IntKind.wrap .i64 (BitVec.ofInt (IntKind.bits .i64) (IntKind.wrap .i64 (BitVec.ofInt (IntKind.bits .i64) (Int.fdiv (IntKind.wrap .i64 ((IntKind.wrap .i64 (x0.h * 6364136223846793005)) + 1442695040888963407)) (2 ^ min ((33 : Int)).toNat (IntKind.bits .i64))) ^^^ BitVec.ofInt (IntKind.bits .i64) (Int.fdiv (IntKind.wrap .i64 ((IntKind.wrap .i64 (x0.h * 6364136223846793005)) + 1442695040888963407)) (2 ^ min ((47 : Int)).toNat (IntKind.bits .i64)))).toNat) &&& BitVec.ofInt (IntKind.bits .i64) 255).toNat),(⟨x0.b,x0.i,(IntKind.wrap .i64 ((IntKind.wrap .i64 (x0.h * 6364136223846793005)) + 1442695040888963407))⟩ : Src)))) else none) else none)
def zMr : Tab := ⟨13,[0,1,2,4,8,0,32,64,128,256,528,1024,4095],[0,1,2,4,8,0,32,64,128,256,528,1024,2048],[0,1,3,7,15,0,32,96,224,480,1023,2047,4095]⟩
noncomputable abbrev zKU (k : Nat) := Rg Try.f102 k
noncomputable abbrev zLh (k : Nat) := Rd Try.f102 k
theorem zCK : zk (rg Try.f102 2) zMr = true := kr
def zMs : Tab := ⟨15,[0,0,2,4,8,0,32,64,128,272,512,1024,2049,4096,16383],[0,0,2,4,8,0,32,64,128,272,512,1024,2049,4096,8193],[0,0,2,6,14,0,32,96,224,510,1022,2046,4095,8191,16383]⟩
theorem zGy : zk (rg Try.f102 4) zMs = true := kr
theorem zCH (n : Nat) (x0 : Src) (r : Int × Src) (H : YB n x0 = some r) : zI Try.prog 102 [.ptr (CV.frzRow (Src.row x0))] [.val false [.lit (.int .i64 r.1)]] [(0,(CV.frzRow (Src.row r.2)))] := by
 refine zI.of_body tOk Try.func102 rfl (c := (.seq (zKU 0) (.seq (zKU 1) (.seq (zLh 2) (.seq (.seq (zLh 3) (.cond (.tmp 34) (.seq (zLh 4) (zKU 5)) .skip)) (.seq (zKU 6) .ret)))))) kr (Nat.le_of_ble_eq_true kr) 1 (rs := [.tmp 2]) rfl [] .nil [(false,[.lit (.int .i64 r.1)])] [] [(0,(CV.frzRow (Src.row r.2)))] fun cx => ?_
 show Tr _ _ _ ⟨58,1,[sA 0 0 3 0],[(0,(CV.frzRow (Src.row x0)))]⟩ _
 unfold YB at H
 refine gA 1 1 1 ?_
 refine gA 10 1 1 ?_
 obtain ⟨hg1,H⟩ := gs H
 obtain ⟨hg2,H⟩ := gs H
 refine Tr.draws mixed 13 kr ⟨58,1,[sI 3 (IntKind.wrap .i64 (BitVec.ofInt (IntKind.bits .i64) (IntKind.wrap .i64 (BitVec.ofInt (IntKind.bits .i64) (Int.fdiv (IntKind.wrap .i64 ((IntKind.wrap .i64 (x0.h * 0x5851f42d4c957f2d)) + 0x14057b7ef767814f)) (2 ^ min ((33 : Int)).toNat (IntKind.bits .i64))) ^^^ BitVec.ofInt (IntKind.bits .i64) (Int.fdiv (IntKind.wrap .i64 ((IntKind.wrap .i64 (x0.h * 0x5851f42d4c957f2d)) + 0x14057b7ef767814f)) (2 ^ min ((47 : Int)).toNat (IntKind.bits .i64)))).toNat) &&& BitVec.ofInt (IntKind.bits .i64) 255).toNat),sA 0 0 3 0],[(0,[cF 1 x0.b zy,cI x0.i,cI (IntKind.wrap .i64 ((IntKind.wrap .i64 (x0.h * 0x5851f42d4c957f2d)) + 0x14057b7ef767814f))])]⟩ (fun cx => ?_) ?_
 ·refine mA zCK [(0,[]),(1,[]),(2,[]),(3,[4]),(5,[]),(6,[]),(7,[]),(8,[9])] 5 [⟨[9],3,20,21⟩,⟨[4],3,15,16⟩] fun cx => ?_
  refine mB2 tOk zCK 4 9 kr (And.intro kr ?_) (And.intro kr ?_)
  ·refine LAt.binC tOk (op := .shr) (t := 3) (ty := 103) (ty' := 3) (x := (.tmp 16)) (y := (.const (.int .u64 33))) (d := 17) (g := none) (.int .i64 (IntKind.wrap .i64 ((IntKind.wrap .i64 (x0.h * 0x5851f42d4c957f2d)) + 0x14057b7ef767814f))) (.int .u64 33) (.int .i64 (Int.fdiv (IntKind.wrap .i64 ((IntKind.wrap .i64 (x0.h * 0x5851f42d4c957f2d)) + 0x14057b7ef767814f)) (2 ^ min ((33 : Int)).toNat (IntKind.bits .i64)))) _ kr kr kr kr kr (φ := (0 : Int) ≤ 33) kr (of_decide_eq_true hg1) rfl ?_
   refine fA ?_
   refine mC zCK 9 ?_
   refine LAt.binC tOk (op := .shr) (t := 3) (ty := 103) (ty' := 3) (x := (.tmp 21)) (y := (.const (.int .u64 47))) (d := 22) (g := none) (.int .i64 (IntKind.wrap .i64 ((IntKind.wrap .i64 (x0.h * 0x5851f42d4c957f2d)) + 0x14057b7ef767814f))) (.int .u64 47) (.int .i64 (Int.fdiv (IntKind.wrap .i64 ((IntKind.wrap .i64 (x0.h * 0x5851f42d4c957f2d)) + 0x14057b7ef767814f)) (2 ^ min ((47 : Int)).toNat (IntKind.bits .i64)))) _ kr kr kr kr kr (φ := (0 : Int) ≤ 47) kr (of_decide_eq_true hg2) rfl ?_
   refine fA ?_
   refine mA zCK [(10,[]),(11,[]),(12,[])] 0 [⟨[9],3,20,21⟩,⟨[4],3,15,16⟩] fun cx => ?_
   exact mE zCK [3,0] [0]
  ·refine LAt.binC tOk (op := .shr) (t := 3) (ty := 103) (ty' := 3) (x := (.tmp 21)) (y := (.const (.int .u64 47))) (d := 22) (g := none) (.int .i64 (IntKind.wrap .i64 ((IntKind.wrap .i64 (x0.h * 0x5851f42d4c957f2d)) + 0x14057b7ef767814f))) (.int .u64 47) (.int .i64 (Int.fdiv (IntKind.wrap .i64 ((IntKind.wrap .i64 (x0.h * 0x5851f42d4c957f2d)) + 0x14057b7ef767814f)) (2 ^ min ((47 : Int)).toNat (IntKind.bits .i64)))) _ kr kr kr kr kr (φ := (0 : Int) ≤ 47) kr (of_decide_eq_true hg2) rfl ?_
   refine fA ?_
   refine mC zCK 4 ?_
   refine LAt.binC tOk (op := .shr) (t := 3) (ty := 103) (ty' := 3) (x := (.tmp 16)) (y := (.const (.int .u64 33))) (d := 17) (g := none) (.int .i64 (IntKind.wrap .i64 ((IntKind.wrap .i64 (x0.h * 0x5851f42d4c957f2d)) + 0x14057b7ef767814f))) (.int .u64 33) (.int .i64 (Int.fdiv (IntKind.wrap .i64 ((IntKind.wrap .i64 (x0.h * 0x5851f42d4c957f2d)) + 0x14057b7ef767814f)) (2 ^ min ((33 : Int)).toNat (IntKind.bits .i64)))) _ kr kr kr kr kr (φ := (0 : Int) ≤ 33) kr (of_decide_eq_true hg1) rfl ?_
   refine fA ?_
   refine mA zCK [(10,[]),(11,[]),(12,[])] 0 [⟨[9],3,20,21⟩,⟨[4],3,15,16⟩] fun cx => ?_
   exact mE zCK [3,0] [0]
 refine tS ?_
 refine Tr.draws mixed 10 kr ⟨58,1,[sB 34 (decide (x0.i < (x0.b.length : Int))),sI 3 (IntKind.wrap .i64 (BitVec.ofInt (IntKind.bits .i64) (IntKind.wrap .i64 (BitVec.ofInt (IntKind.bits .i64) (Int.fdiv (IntKind.wrap .i64 ((IntKind.wrap .i64 (x0.h * 0x5851f42d4c957f2d)) + 0x14057b7ef767814f)) (2 ^ min ((33 : Int)).toNat (IntKind.bits .i64))) ^^^ BitVec.ofInt (IntKind.bits .i64) (Int.fdiv (IntKind.wrap .i64 ((IntKind.wrap .i64 (x0.h * 0x5851f42d4c957f2d)) + 0x14057b7ef767814f)) (2 ^ min ((47 : Int)).toNat (IntKind.bits .i64)))).toNat) &&& BitVec.ofInt (IntKind.bits .i64) 255).toNat),sA 0 0 3 0],[(0,[cF 1 x0.b zy,cI x0.i,cI (IntKind.wrap .i64 ((IntKind.wrap .i64 (x0.h * 0x5851f42d4c957f2d)) + 0x14057b7ef767814f))])]⟩ (fun cx => ?_) ?_
 ·refine aA [(0,[]),(1,[]),(2,[]),(3,[]),(4,[]),(5,[]),(6,[]),(7,[])] 2 [⟨[],33,31,32⟩,⟨[],3,27,28⟩] fun cx => ?_
  refine aL tOk 8 33 3 5 32 33 none ⟨(.box 0),[(0,0)],0,false,1,(CV.frzEs (x0.b.map zy))⟩ (x0.b).length _ kr kr kr kr kr kr kr (zFq _ _) rfl (fun cx => ?_)
  refine aA [(9,[])] 0 [⟨[],33,31,32⟩,⟨[],3,27,28⟩] fun cx => ?_
  exact eE [34,3,0] [0]
 refine sT ⟨58,1,[sB 34 (decide (x0.i < (x0.b.length : Int))),sI 3 (IntKind.wrap .i64 (BitVec.ofInt (IntKind.bits .i64) (IntKind.wrap .i64 (BitVec.ofInt (IntKind.bits .i64) (Int.fdiv (IntKind.wrap .i64 ((IntKind.wrap .i64 (x0.h * 0x5851f42d4c957f2d)) + 0x14057b7ef767814f)) (2 ^ min ((33 : Int)).toNat (IntKind.bits .i64))) ^^^ BitVec.ofInt (IntKind.bits .i64) (Int.fdiv (IntKind.wrap .i64 ((IntKind.wrap .i64 (x0.h * 0x5851f42d4c957f2d)) + 0x14057b7ef767814f)) (2 ^ min ((47 : Int)).toNat (IntKind.bits .i64)))).toNat) &&& BitVec.ofInt (IntKind.bits .i64) 255).toNat),sA 0 0 3 0],[(0,[cF 1 x0.b zy,cI x0.i,cI (IntKind.wrap .i64 ((IntKind.wrap .i64 (x0.h * 0x5851f42d4c957f2d)) + 0x14057b7ef767814f))])]⟩ ?_
 cases h1 : (decide (x0.i < (x0.b.length : Int)))
 ·have H := zG h1 H
  refine nB_ ?_
  refine tK ?_
  refine gA 2 5 1 ?_
  refine te ?_
  obtain rfl := si H
  exact Fin.ofY _ [(false,[cI (IntKind.wrap .i64 (BitVec.ofInt (IntKind.bits .i64) (IntKind.wrap .i64 (BitVec.ofInt (IntKind.bits .i64) (Int.fdiv (IntKind.wrap .i64 ((IntKind.wrap .i64 (x0.h * 0x5851f42d4c957f2d)) + 0x14057b7ef767814f)) (2 ^ min ((33 : Int)).toNat (IntKind.bits .i64))) ^^^ BitVec.ofInt (IntKind.bits .i64) (Int.fdiv (IntKind.wrap .i64 ((IntKind.wrap .i64 (x0.h * 0x5851f42d4c957f2d)) + 0x14057b7ef767814f)) (2 ^ min ((47 : Int)).toNat (IntKind.bits .i64)))).toNat) &&& BitVec.ofInt (IntKind.bits .i64) 255).toNat)])] [] _ [] _ [(0,[cF 1 x0.b zy,cI x0.i,cI (IntKind.wrap .i64 ((IntKind.wrap .i64 (x0.h * 0x5851f42d4c957f2d)) + 0x14057b7ef767814f))])] kr rfl rfl rfl kr kr kr kr rfl rfl rfl
 have H := zH h1 H
 refine tB_ ?_
 obtain ⟨v3,ev3,H⟩ := bs H
 refine Tr.draws mixed 15 kr ⟨58,1,[sI 3 (IntKind.wrap .i64 (BitVec.ofInt (IntKind.bits .i64) (IntKind.wrap .i64 ((IntKind.wrap .i64 (BitVec.ofInt (IntKind.bits .i64) (IntKind.wrap .i64 (BitVec.ofInt (IntKind.bits .i64) (Int.fdiv (IntKind.wrap .i64 ((IntKind.wrap .i64 (x0.h * 0x5851f42d4c957f2d)) + 0x14057b7ef767814f)) (2 ^ min ((33 : Int)).toNat (IntKind.bits .i64))) ^^^ BitVec.ofInt (IntKind.bits .i64) (Int.fdiv (IntKind.wrap .i64 ((IntKind.wrap .i64 (x0.h * 0x5851f42d4c957f2d)) + 0x14057b7ef767814f)) (2 ^ min ((47 : Int)).toNat (IntKind.bits .i64)))).toNat) &&& BitVec.ofInt (IntKind.bits .i64) 255).toNat) + (IntKind.wrap .i64 v3))) &&& BitVec.ofInt (IntKind.bits .i64) 255).toNat),sA 0 0 3 0],[(0,[cF 1 x0.b zy,cI x0.i,cI (IntKind.wrap .i64 ((IntKind.wrap .i64 (x0.h * 0x5851f42d4c957f2d)) + 0x14057b7ef767814f))])]⟩ (fun cx => ?_) ?_
 ·refine mA zGy [(0,[]),(1,[]),(2,[]),(3,[]),(4,[]),(5,[]),(6,[]),(7,[]),(8,[])] 6 [⟨[],3,42,43⟩,⟨[],33,38,39⟩] fun cx => ?_
  refine iN zGy 9 zy ev3 fun cx => ?_
  refine mA zGy [(10,[]),(11,[]),(12,[]),(13,[]),(14,[])] 0 [⟨[],3,42,43⟩,⟨[],33,38,39⟩] fun cx => ?_
  exact mE zGy [3,0] [0]
 refine eA 9 9 1 ?_
 refine gA 2 5 1 ?_
 refine te ?_
 obtain rfl := si H
 exact Fin.ofY _ [(false,[cI (IntKind.wrap .i64 (BitVec.ofInt (IntKind.bits .i64) (IntKind.wrap .i64 ((IntKind.wrap .i64 (BitVec.ofInt (IntKind.bits .i64) (IntKind.wrap .i64 (BitVec.ofInt (IntKind.bits .i64) (Int.fdiv (IntKind.wrap .i64 ((IntKind.wrap .i64 (x0.h * 0x5851f42d4c957f2d)) + 0x14057b7ef767814f)) (2 ^ min ((33 : Int)).toNat (IntKind.bits .i64))) ^^^ BitVec.ofInt (IntKind.bits .i64) (Int.fdiv (IntKind.wrap .i64 ((IntKind.wrap .i64 (x0.h * 0x5851f42d4c957f2d)) + 0x14057b7ef767814f)) (2 ^ min ((47 : Int)).toNat (IntKind.bits .i64)))).toNat) &&& BitVec.ofInt (IntKind.bits .i64) 255).toNat) + (IntKind.wrap .i64 v3))) &&& BitVec.ofInt (IntKind.bits .i64) 255).toNat)])] [] _ [] _ [(0,[cF 1 x0.b zy,cI (IntKind.wrap .i64 (x0.i + 1)),cI (IntKind.wrap .i64 ((IntKind.wrap .i64 (x0.h * 0x5851f42d4c957f2d)) + 0x14057b7ef767814f))])] kr rfl rfl rfl kr kr kr kr rfl rfl rfl
def zo (n : Nat) (x0 : Src) (x1 : Int) : Option (Int × Src) :=
  (bif (decide (x1 ≤ 0)) then (some (0,x0)) else (bif (decide (x1 ≤ 256)) then ((YB n x0).bind fun r5 => (bif (decide ((x1 : Int) ≠ 0)) then (some ((Int.tmod r5.1 x1),r5.2)) else none)) else ((YB n x0).bind fun r1 => ((YB n r1.2).bind fun r2 => ((YB n r2.2).bind fun r3 => (bif (decide ((x1 : Int) ≠ 0)) then (some ((Int.tmod (IntKind.wrap .i64 ((IntKind.wrap .i64 ((IntKind.wrap .i64 (r1.1 * 65536)) + (IntKind.wrap .i64 (r2.1 * 256)))) + r3.1)) x1),r3.2)) else none))))))
noncomputable abbrev G49 (k : Nat) := Rg Try.f49 k
theorem qt (n : Nat) (x0 : Src) (x1 : Int) (r : Int × Src) (H : zo n x0 x1 = some r) : zI Try.prog 49 [.ptr (CV.frzRow (Src.row x0)),.val false [.lit (.int .i64 x1)]] [.val false [.lit (.int .i64 r.1)]] [(0,(CV.frzRow (Src.row r.2)))] := by
 refine zI.of_body tOk Try.func49 rfl (c := (.seq (G49 0) (.seq (.seq (G49 1) (.cond (.tmp 9) (.seq (G49 2) .ret) .skip)) (.seq (.seq (G49 3) (.cond (.tmp 11) (.seq (G49 4) .ret) .skip)) (.seq (G49 5) (.seq (G49 6) (.seq (G49 7) (.seq (G49 8) .ret)))))))) kr (Nat.le_of_ble_eq_true kr) 1 (rs := [.tmp 4]) rfl [] .nil [(false,[.lit (.int .i64 r.1)])] [] [(0,(CV.frzRow (Src.row r.2)))] fun cx => ?_
 show Tr _ _ _ ⟨31,1,[sA 0 0 3 0,sI 1 x1],[(0,(CV.frzRow (Src.row x0)))]⟩ _
 unfold zo at H
 refine gA 1 3 1 ?_
 refine tS ?_
 refine gA 2 515 1 ?_
 obtain ⟨h1,H⟩ | ⟨h1,H⟩ := bC H
 ·refine nA h1 ?_
  refine tK ?_
  refine tS ?_
  refine gA 2 2051 1 ?_
  obtain ⟨h2,H⟩ | ⟨h2,H⟩ := bC H
  ·refine nA h2 ?_
   refine tK ?_
   refine rA 1 ?_
   obtain ⟨r1,er1,H⟩ := bs H
   refine LAt.callL tOk [.lend] (f := 102) (av := #[.tmp 16]) (ats := #[92]) (d := (some 17)) (ty := 3) (g := none) kr kr kr [] (zCH n x0 r1 er1) kr (.inl rfl) ?_
   refine uA 1 35 1 ?_
   refine rA 1 ?_
   obtain ⟨r2,er2,H⟩ := bs H
   refine LAt.callL tOk [.lend] (f := 102) (av := #[.tmp 18]) (ats := #[92]) (d := (some 19)) (ty := 3) (g := none) kr kr kr [] (zCH n r1.2 r2 er2) kr (.inl rfl) ?_
   refine uA 1 99 1 ?_
   refine rA 1 ?_
   obtain ⟨r3,er3,H⟩ := bs H
   refine LAt.callL tOk [.lend] (f := 102) (av := #[.tmp 20]) (ats := #[92]) (d := (some 21)) (ty := 3) (g := none) kr kr kr [] (zCH n r2.2 r3 er3) kr (.inl rfl) ?_
   refine uA 1 227 1 ?_
   refine rA 8 ?_
   obtain ⟨hg4,H⟩ := gs H
   refine LAt.binC tOk (op := .rem) (t := 3) (ty := 3) (ty' := 3) (x := (.tmp 28)) (y := (.tmp 29)) (d := 30) (g := none) (.int .i64 (IntKind.wrap .i64 ((IntKind.wrap .i64 ((IntKind.wrap .i64 (r1.1 * 65536)) + (IntKind.wrap .i64 (r2.1 * 256)))) + r3.1))) (.int .i64 x1) (.int .i64 (Int.tmod (IntKind.wrap .i64 ((IntKind.wrap .i64 ((IntKind.wrap .i64 (r1.1 * 65536)) + (IntKind.wrap .i64 (r2.1 * 256)))) + r3.1)) x1)) _ kr kr kr kr kr (φ := (IntKind.i64 = IntKind.i64 ∧ (x1 : Int) ≠ 0)) kr (⟨rfl,of_decide_eq_true hg4⟩) rfl ?_
   refine uA 1 17 1 ?_
   refine te ?_
   obtain rfl := si H
   exact Fin.ofY _ [(false,[cI (Int.tmod (IntKind.wrap .i64 ((IntKind.wrap .i64 ((IntKind.wrap .i64 (r1.1 * 65536)) + (IntKind.wrap .i64 (r2.1 * 256)))) + r3.1)) x1)])] [] _ [] _ [(0,(CV.frzRow (Src.row r3.2)))] kr rfl rfl rfl kr kr kr kr rfl rfl rfl
  refine tA h2 ?_
  refine rA 1 ?_
  obtain ⟨r5,er5,H⟩ := bs H
  refine LAt.callL tOk [.lend] (f := 102) (av := #[.tmp 12]) (ats := #[92]) (d := (some 13)) (ty := 3) (g := none) kr kr kr [] (zCH n x0 r5 er5) kr (.inl rfl) ?_
  refine lA 1 ?_
  obtain ⟨hg6,H⟩ := gs H
  refine LAt.binC tOk (op := .rem) (t := 3) (ty := 3) (ty' := 3) (x := (.tmp 13)) (y := (.tmp 14)) (d := 15) (g := none) (.int .i64 r5.1) (.int .i64 x1) (.int .i64 (Int.tmod r5.1 x1)) _ kr kr kr kr kr (φ := (IntKind.i64 = IntKind.i64 ∧ (x1 : Int) ≠ 0)) kr (⟨rfl,of_decide_eq_true hg6⟩) rfl ?_
  refine uA 1 17 1 ?_
  refine te ?_
  obtain rfl := si H
  exact Fin.ofY _ [(false,[cI (Int.tmod r5.1 x1)])] [] _ [] _ [(0,(CV.frzRow (Src.row r5.2)))] kr rfl rfl rfl kr kr kr kr rfl rfl rfl
 refine tA h1 ?_
 refine gA 1 17 1 ?_
 refine te ?_
 obtain rfl := si H
 exact Fin.ofY _ [(false,[cI 0])] [] _ [] _ [(0,(CV.frzRow (Src.row x0)))] kr rfl rfl rfl kr kr kr kr rfl rfl rfl
def zAi (n : Nat) (r1 : Int × Src) (y4 : (List Int)) : Option ((List Int) × Src) :=
  (some (y4,r1.2))
def Qi (n : Nat) : Nat → Int × Src → Int → Int → (List Int) → Option (((List Int)) ⊕ ((List Int) × Src))
  | 0,_,_,_,_ => none
  | mo5 + 1,r1,x1,y2,y3 => (bif (decide (y2 < x1)) then (bif (decide ((7 : Int) ≠ 0)) then (bif (decide (y3.length + [(IntKind.wrap .i64 (1 + (Int.tmod (IntKind.wrap .i64 (r1.1 + (IntKind.wrap .i64 (y2 * 3)))) 7)))].length ≤ 268435456)) then (Qi n mo5 r1 x1 (IntKind.wrap .i64 (y2 + 1)) (y3 ++ [(IntKind.wrap .i64 (1 + (Int.tmod (IntKind.wrap .i64 (r1.1 + (IntKind.wrap .i64 (y2 * 3)))) 7)))])) else none) else none) else (some (Sum.inl y3)))
def zAP (n : Nat) (x0 : Src) (x1 : Int) : Option ((List Int) × Src) :=
  ((zo n x0 7).bind fun r1 => ((Qi n n r1 x1 0 ([] : List Int)).bind fun o => match o with | .inl y4 => (zAi n r1 y4) | .inr r => some r))
noncomputable abbrev zE9 (k : Nat) := Rg Try.f123 k
theorem zJ3 (n : Nat) (x0 : Src) (x1 : Int) (r : (List Int) × Src) (H : zAP n x0 x1 = some r) : zI Try.prog 123 [.ptr (CV.frzRow (Src.row x0)),.val false [.lit (.int .i64 x1)]] [.val false [.sl true 1 (r.1.map intRow)]] [(0,(CV.frzRow (Src.row r.2)))] := by
 refine zI.of_body tOk Try.func123 rfl (c := (.seq (zE9 0) (.seq (zE9 1) (.seq (zE9 2) (.seq (.seq (zE9 3) (.block 0 (.loop (.seq (.seq (zE9 4) (.cond (.tmp 13) .skip (.exit 0))) (.seq (.block 1 (zE9 6)) (zE9 5)))))) (.seq (zE9 7) .ret)))))) kr (Nat.le_of_ble_eq_true kr) 1 (rs := [.tmp 4]) rfl [] .nil [(false,[.sl true 1 (r.1.map intRow)])] [] [(0,(CV.frzRow (Src.row r.2)))] fun cx => ?_
 show Tr _ _ _ ⟨26,1,[sA 0 0 3 0,sI 1 x1],[(0,(CV.frzRow (Src.row x0)))]⟩ _
 unfold zAP at H
 refine gA 1 3 1 ?_
 refine rA 1 ?_
 refine LAt.moveU (T := lk tab) (ty := 38) (x := (.tmp 8)) (d := 5) (g := none) false [cL 1 ([] : List Int) intRow] kr kr kr kr kr ?_
 refine dA 35 1 ?_
 refine rA 1 ?_
 obtain ⟨r1,er1,H⟩ := bs H
 refine LAt.callL tOk [.lend,.rd] (f := 49) (av := #[.tmp 9,.const (.int .i64 7)]) (ats := #[92,3]) (d := (some 10)) (ty := 3) (g := none) kr kr kr [] (qt n x0 7 r1 er1) kr (.inl rfl) ?_
 refine uA 1 99 1 ?_
 refine tS ?_
 refine gA 1 227 1 ?_
 obtain ⟨o5,eo5,Ho5⟩ := bs H
 clear H
 refine Tr.mid (ι := (List Int)) (fun v => ⟨26,1,[sC 5 (cL 1 v intRow),sA 0 0 3 0],[(0,(CV.frzRow (Src.row r1.2)))]⟩) (fun v => zAi n r1 v = some r) ?_ ?_
 ·refine tB ?_
  refine Tr.loop (ι := Nat × (Int × (List Int))) (fun v => ⟨26,1,[sI 7 v.2.1,sI 6 r1.1,sC 5 (cL 1 v.2.2 intRow),sA 0 0 3 0,sI 1 x1],[(0,(CV.frzRow (Src.row r1.2)))]⟩) (fun v => Qi n v.1 r1 x1 v.2.1 v.2.2 = some o5) (fun v => v.1) (n,(0,([] : List Int))) eo5 (St.sub_of [7,6,5,0,1] [0] kr) ?_
  rintro ⟨mo5,y2,y3⟩ H
  have H : Qi n mo5 r1 x1 y2 y3 = some o5 := H
  obtain _ | mo5 := mo5
  ·exact nN H
  rw [Qi] at H
  refine tS ?_
  refine gA 3 8419 1 ?_
  obtain ⟨h1,H⟩ | ⟨h1,H⟩ := bC H
  ·refine nA h1 ?_
   refine Tr.exit ?_
   refine aJ ?_
   obtain rfl := si H
   have H := Ho5
   dsimp only at H
   exact jA y3 H [5,0] [0]
  refine tA h1 ?_
  refine tK ?_
  refine tS ?_
  refine tB ?_
  refine Tr.at ?_
  refine lA 5 ?_
  obtain ⟨hg6,H⟩ := gs H
  refine LAt.binC tOk (op := .rem) (t := 3) (ty := 3) (ty' := 3) (x := (.tmp 20)) (y := (.const (.int .i64 7))) (d := 21) (g := none) (.int .i64 (IntKind.wrap .i64 (r1.1 + (IntKind.wrap .i64 (y2 * 3))))) (.int .i64 7) (.int .i64 (Int.tmod (IntKind.wrap .i64 (r1.1 + (IntKind.wrap .i64 (y2 * 3)))) 7)) _ kr kr kr kr kr (φ := (IntKind.i64 = IntKind.i64 ∧ (7 : Int) ≠ 0)) kr (⟨rfl,of_decide_eq_true hg6⟩) rfl ?_
  refine lA 2 ?_
  obtain ⟨hg7,H⟩ := gs H
  refine LAt.appMU tOk (t := 38) (ty := 38) (e := 3) (x := (.tmp 16)) (y := (.tmp 23)) (d := 24) (g := none) (tI 3) intRow y3 [(IntKind.wrap .i64 (1 + (Int.tmod (IntKind.wrap .i64 (r1.1 + (IntKind.wrap .i64 (y2 * 3)))) 7)))] kr kr kr kr kr kr kr kr kr kr hg7 ?_
  refine LAt.moveU (T := lk tab) (ty := 38) (x := (.tmp 24)) (d := 5) (g := none) false [cL 1 (y3 ++ [(IntKind.wrap .i64 (1 + (Int.tmod (IntKind.wrap .i64 (r1.1 + (IntKind.wrap .i64 (y2 * 3)))) 7)))]) intRow] kr kr kr kr kr ?_
  refine dA 227 1 ?_
  refine eA 3 227 1 ?_
  exact jB mo5 ((IntKind.wrap .i64 (y2 + 1)),(y3 ++ [(IntKind.wrap .i64 (1 + (Int.tmod (IntKind.wrap .i64 (r1.1 + (IntKind.wrap .i64 (y2 * 3)))) 7)))])) H [7,6,5,0,1] [0]
 rintro y4 H
 have H : (zAi n r1 y4) = some r := H
 unfold zAi at H
 refine gA 2 49 1 ?_
 refine te ?_
 obtain rfl := si H
 exact Fin.ofY _ [(false,[cL 1 y4 intRow])] [] _ [] _ [(0,(CV.frzRow (Src.row r1.2)))] kr rfl rfl rfl kr kr kr kr rfl rfl rfl
def JU (n : Nat) (x0 : Src) (x1 : Int) : Option (Bool × Src) :=
  ((zo n x0 x1).bind fun r1 => (some ((r1.1 == 0),r1.2)))
noncomputable abbrev zMo (k : Nat) := Rg Try.f100 k
theorem zGX (n : Nat) (x0 : Src) (x1 : Int) (r : Bool × Src) (H : JU n x0 x1 = some r) : zI Try.prog 100 [.ptr (CV.frzRow (Src.row x0)),.val false [.lit (.int .i64 x1)]] [.val false [.lit (.bool r.1)]] [(0,(CV.frzRow (Src.row r.2)))] := by
 refine zI.of_body tOk Try.func100 rfl (c := (.seq (zMo 0) (.seq (zMo 1) .ret))) kr (Nat.le_of_ble_eq_true kr) 1 (rs := [.tmp 4]) rfl [] .nil [(false,[.lit (.bool r.1)])] [] [(0,(CV.frzRow (Src.row r.2)))] fun cx => ?_
 show Tr _ _ _ ⟨9,1,[sA 0 0 3 0,sI 1 x1],[(0,(CV.frzRow (Src.row x0)))]⟩ _
 unfold JU at H
 refine gA 1 3 1 ?_
 refine rA 2 ?_
 obtain ⟨r1,er1,H⟩ := bs H
 refine LAt.callL tOk [.lend,.rd] (f := 49) (av := #[.tmp 5,.tmp 6]) (ats := #[92,3]) (d := (some 7)) (ty := 3) (g := none) kr kr kr [] (qt n x0 x1 r1 er1) kr (.inl rfl) ?_
 refine uA 2 17 1 ?_
 refine te ?_
 obtain rfl := si H
 exact Fin.ofY _ [(false,[cB (r1.1 == 0)])] [] _ [] _ [(0,(CV.frzRow (Src.row r1.2)))] kr rfl rfl rfl kr kr kr kr rfl rfl rfl
def J6 (n : Nat) (y3 : Int) : Option (Int) :=
  (some y3)
def Qo (n : Nat) (k : (Int × Int → Option ((Int) ⊕ (Int)))) (v5 : Link) (x1 : Int) (x2 : Int) (y1 : Int) (y6 : Int) : Option ((Int) ⊕ (Int)) :=
  (bif (v5.B == x1) then (bif (v5.Q == x2) then (k ((IntKind.wrap .i64 (y1 + 1)),(IntKind.wrap .i64 (y6 + 1)))) else (k ((IntKind.wrap .i64 (y1 + 1)),y6))) else (k ((IntKind.wrap .i64 (y1 + 1)),y6)))
def qy (n : Nat) : Nat → Net → Int → Int → Int → Int → Option ((Int) ⊕ (Int))
  | 0,_,_,_,_,_ => none
  | mo4 + 1,x0,x1,x2,y1,y2 => (bif (decide (y1 < (x0.Ls.length : Int))) then ((idx x0.Ls y1).bind fun v5 => (bif (v5.A == x1) then (bif (v5.P == x2) then (Qo n (fun v => qy n mo4 x0 x1 x2 v.1 v.2) v5 x1 x2 y1 (IntKind.wrap .i64 (y2 + 1))) else (Qo n (fun v => qy n mo4 x0 x1 x2 v.1 v.2) v5 x1 x2 y1 y2)) else (Qo n (fun v => qy n mo4 x0 x1 x2 v.1 v.2) v5 x1 x2 y1 y2))) else (some (Sum.inl y2)))
def Zt (n : Nat) (x0 : Net) (x1 : Int) (x2 : Int) : Option (Int) :=
  ((qy n n x0 x1 x2 0 0).bind fun o => match o with | .inl y3 => (J6 n y3) | .inr r => some r)
theorem JR (n : Nat) (x0 : Net) (x1 : Int) (x2 : Int) (r : Int) (H : Zt n x0 x1 x2 = some r) : zI Try.prog 167 [.val true (CV.frzRow (Net.row x0)),.val false [.lit (.int .i64 x1)],.val false [.lit (.int .i64 x2)]] [.val false [.lit (.int .i64 r)]] [] := by
 refine cW Try.func167 (fun g d => sl [g 0,g 1,sl [g 2] (.block 0 (.loop (sl [sl [g 3] (cn 14 .skip (.exit 0)),.block 1 (sl [g 5,sl [g 6] (cn 31 (g 7) .skip),g 8] (cn 43 (g 9) .skip))] (g 4)))),g 10] .ret) [.tmp 6] fun cx => ?_
 unfold Zt at H
 refine gA 2 14 8 ?_
 refine gA 1 142 8 ?_
 refine tS ?_
 refine gA 1 398 8 ?_
 obtain ⟨o4,eo4,Ho4⟩ := bs H
 clear H
 refine Tr.mid (ι := Int) (fun v => ⟨47,0,[sI 7 v],[]⟩) (fun v => J6 n v = some r) ?_ ?_
 ·refine tB ?_
  refine Tr.loop (ι := Nat × (Int × Int)) (fun v => ⟨47,0,[sI 8 v.2.1,sI 7 v.2.2,sA 3 3 3 0,sI 1 x1,sI 2 x2],[(3,(CV.frzRow (Net.row x0)))]⟩) (fun v => qy n v.1 x0 x1 x2 v.2.1 v.2.2 = some o4) (fun v => v.1) (n,(0,0)) eo4 (St.sub_of [8,7,3,1,2] [3] kr) ?_
  rintro ⟨mo4,y1,y2⟩ H
  have H : qy n mo4 x0 x1 x2 y1 y2 = some o4 := H
  obtain _ | mo4 := mo4
  ·exact nN H
  rw [qy] at H
  refine tS ?_
  refine rA 3 ?_
  refine kF x0.Ls Link.row ?_
  refine uA 1 16782 8 ?_
  obtain ⟨h1,H⟩ | ⟨h1,H⟩ := bC H
  ·refine nA h1 ?_
   refine Tr.exit ?_
   refine aJ ?_
   obtain rfl := si H
   have H := Ho4
   dsimp only at H
   exact jA y2 H [7] []
  refine tA h1 ?_
  refine tK ?_
  refine tS ?_
  refine tB ?_
  refine rA 3 ?_
  obtain ⟨v5,ev5,H⟩ := bs H
  refine iA Link.row ev5 ?_
  refine uA 3 910 520 ?_
  refine tS ?_
  refine Tr.mid (ι := Int) (fun v => ⟨47,0,[sA 9 9 4 0,sI 8 y1,sI 7 v,sA 3 3 3 0,sI 1 x1,sI 2 x2],[(9,(Link.row v5)),(3,(CV.frzRow (Net.row x0)))]⟩) (fun v => Qo n (fun v => qy n mo4 x0 x1 x2 v.1 v.2) v5 x1 x2 y1 v = some o4) ?_ ?_
  ·refine rA 5 ?_
   refine sL 67109774 520 ⟨47,0,[sB 26 (v5.A == x1),sA 9 9 4 0,sI 8 y1,sI 7 y2,sA 3 3 3 0,sI 1 x1,sI 2 x2],[(9,(Link.row v5)),(3,(CV.frzRow (Net.row x0)))]⟩ ?_
   cases h4 : (v5.A == x1)
   ·have H := zG h4 H
    refine uA 5 2147484558 520 ?_
    refine nB_ ?_
    refine tK ?_
    exact jA y2 H [9,8,7,3,1,2] [9,3]
   have H := zH h4 H
   refine uA 5 2147484558 520 ?_
   obtain ⟨h5,H⟩ | ⟨h5,H⟩ := bC H
   ·refine nA h5 ?_
    refine tK ?_
    exact jA y2 H [9,8,7,3,1,2] [9,3]
   refine tA h5 ?_
   refine eA 3 910 520 ?_
   exact jA (IntKind.wrap .i64 (y2 + 1)) H [9,8,7,3,1,2] [9,3]
  rintro y6 H
  have H : (Qo n (fun v => qy n mo4 x0 x1 x2 v.1 v.2) v5 x1 x2 y1 y6) = some o4 := H
  unfold Qo at H
  refine rA 5 ?_
  refine sL 274877907854 520 ⟨47,0,[sB 38 (v5.B == x1),sA 9 9 4 0,sI 8 y1,sI 7 y6,sA 3 3 3 0,sI 1 x1,sI 2 x2],[(9,(Link.row v5)),(3,(CV.frzRow (Net.row x0)))]⟩ ?_
  cases h2 : (v5.B == x1)
  ·have H := zG h2 H
   refine uA 5 8796093022606 8 ?_
   refine nB_ ?_
   refine tK ?_
   refine eA 3 398 8 ?_
   exact jB mo4 ((IntKind.wrap .i64 (y1 + 1)),y6) H [8,7,3,1,2] [3]
  have H := zH h2 H
  refine uA 5 8796093022606 8 ?_
  obtain ⟨h3,H⟩ | ⟨h3,H⟩ := bC H
  ·refine nA h3 ?_
   refine tK ?_
   refine eA 3 398 8 ?_
   exact jB mo4 ((IntKind.wrap .i64 (y1 + 1)),y6) H [8,7,3,1,2] [3]
  refine tA h3 ?_
  refine eA 3 398 8 ?_
  refine eA 3 398 8 ?_
  exact jB mo4 ((IntKind.wrap .i64 (y1 + 1)),(IntKind.wrap .i64 (y6 + 1))) H [8,7,3,1,2] [3]
 rintro y3 H
 have H : (J6 n y3) = some r := H
 unfold J6 at H
 refine gA 2 64 0 ?_
 exact te (fJ [(false,[cI y3])] H)
def Ji (n : Nat) (y6 : (List Int)) (y7 : Int) (y8 : Int) (y9 : (List Link)) : Option ((List Link) × Src) :=
  (some (y9,(⟨y6,y7,y8⟩ : Src)))
def Zm (n : Nat) (k : (Int × (List Int) × Int × Int × (List Link) → Option (((List Int) × Int × Int × (List Link)) ⊕ ((List Link) × Src)))) (r21 : Int × Src) (y1 : Int) (y15 : Int) (y16 : Int) (y23 : Int) (y25 : Int) (y5 : (List Link)) (y26 : Bool) : Option (((List Int) × Int × Int × (List Link)) ⊕ ((List Link) × Src)) :=
  (bif y26 then (bif (decide (y5.length + [(⟨y16,y23,y15,y25⟩ : Link)].length ≤ 268435456)) then (k ((IntKind.wrap .i64 (y1 + 1)),r21.2.b,r21.2.i,r21.2.h,(y5 ++ [(⟨y16,y23,y15,y25⟩ : Link)]))) else none) else (k ((IntKind.wrap .i64 (y1 + 1)),r21.2.b,r21.2.i,r21.2.h,y5)))
def Yk (n : Nat) (k : (Int × (List Int) × Int × Int × (List Link) → Option (((List Int) × Int × Int × (List Link)) ⊕ ((List Link) × Src)))) (r21 : Int × Src) (y1 : Int) (y15 : Int) (y16 : Int) (y23 : Int) (y5 : (List Link)) (y25 : Int) : Option (((List Int) × Int × Int × (List Link)) ⊕ ((List Link) × Src)) :=
  (bif (y16 != y15) then ((Zt n (⟨([] : List zA),y5,([] : List Say)⟩ : Net) y16 y23).bind fun r28 => (bif (r28 == 0) then ((Zt n (⟨([] : List zA),y5,([] : List Say)⟩ : Net) y15 y25).bind fun r29 => (bif (r29 == 0) then (Zm n k r21 y1 y15 y16 y23 y25 y5 (decide ((y5.length : Int) < 9))) else (Zm n k r21 y1 y15 y16 y23 y25 y5 false))) else (Zm n k r21 y1 y15 y16 y23 y25 y5 false))) else (Zm n k r21 y1 y15 y16 y23 y25 y5 false))
def QX (n : Nat) : Nat → Int → Int → (List Link) → Int → Option ((Int) ⊕ ((List Link) × Src))
  | 0,_,_,_,_ => none
  | mo30 + 1,x2,y15,y5,y24 => ((Zt n (⟨([] : List zA),y5,([] : List Say)⟩ : Net) y15 y24).bind fun r31 => (bif (decide (r31 > 0)) then (bif (decide ((IntKind.wrap .i64 (y24 + 1)) < x2)) then (QX n mo30 x2 y15 y5 (IntKind.wrap .i64 (y24 + 1))) else (some (Sum.inl y24))) else (some (Sum.inl y24))))
def Yj (n : Nat) (k : (Int × (List Int) × Int × Int × (List Link) → Option (((List Int) × Int × Int × (List Link)) ⊕ ((List Link) × Src)))) (r21 : Int × Src) (x2 : Int) (y1 : Int) (y15 : Int) (y16 : Int) (y5 : (List Link)) (y23 : Int) : Option (((List Int) × Int × Int × (List Link)) ⊕ ((List Link) × Src)) :=
  ((QX n n x2 y15 y5 r21.1).bind fun o => match o with | .inl y25 => (Yk n k r21 y1 y15 y16 y23 y5 y25) | .inr r => some (Sum.inr r))
def QY (n : Nat) : Nat → Int → Int → (List Link) → Int → Option ((Int) ⊕ ((List Link) × Src))
  | 0,_,_,_,_ => none
  | mo32 + 1,x2,y16,y5,y22 => ((Zt n (⟨([] : List zA),y5,([] : List Say)⟩ : Net) y16 y22).bind fun r33 => (bif (decide (r33 > 0)) then (bif (decide ((IntKind.wrap .i64 (y22 + 1)) < x2)) then (QY n mo32 x2 y16 y5 (IntKind.wrap .i64 (y22 + 1))) else (some (Sum.inl y22))) else (some (Sum.inl y22))))
def ZP (n : Nat) (k : (Int × (List Int) × Int × Int × (List Link) → Option (((List Int) × Int × Int × (List Link)) ⊕ ((List Link) × Src)))) (x2 : Int) (y1 : Int) (y5 : (List Link)) (y15 : Int) (y16 : Int) (y17 : (List Int)) (y18 : Int) (y19 : Int) : Option (((List Int) × Int × Int × (List Link)) ⊕ ((List Link) × Src)) :=
  ((zo n (⟨y17,y18,y19⟩ : Src) x2).bind fun r20 => ((zo n r20.2 x2).bind fun r21 => ((QY n n x2 y16 y5 r20.1).bind fun o => match o with | .inl y23 => (Yj n k r21 x2 y1 y15 y16 y5 y23) | .inr r => some (Sum.inr r))))
def zd (n : Nat) : Nat → Int → Int → Int → (List Int) → Int → Int → (List Link) → Option (((List Int) × Int × Int × (List Link)) ⊕ ((List Link) × Src))
  | 0,_,_,_,_,_,_,_ => none
  | mo10 + 1,x1,x2,y1,y2,y3,y4,y5 => ((zo n (⟨y2,y3,y4⟩ : Src) 4).bind fun r11 => (bif (decide (y1 < (IntKind.wrap .i64 (x1 + r11.1)))) then ((zo n r11.2 x1).bind fun r12 => ((zo n r12.2 2).bind fun r13 => (bif (decide ((x1 : Int) ≠ 0)) then (bif (decide (y1 < (IntKind.wrap .i64 (x1 - 1)))) then ((JU n r13.2 5).bind fun r34 => (bif (!r34.1) then (ZP n (fun v => zd n mo10 x1 x2 v.1 v.2.1 v.2.2.1 v.2.2.2.1 v.2.2.2.2) x2 y1 y5 (IntKind.wrap .i64 (y1 + 1)) y1 r34.2.b r34.2.i r34.2.h) else (ZP n (fun v => zd n mo10 x1 x2 v.1 v.2.1 v.2.2.1 v.2.2.2.1 v.2.2.2.2) x2 y1 y5 (Int.tmod (IntKind.wrap .i64 ((IntKind.wrap .i64 (r12.1 + 1)) + r13.1)) x1) r12.1 r34.2.b r34.2.i r34.2.h))) else (ZP n (fun v => zd n mo10 x1 x2 v.1 v.2.1 v.2.2.1 v.2.2.2.1 v.2.2.2.2) x2 y1 y5 (Int.tmod (IntKind.wrap .i64 ((IntKind.wrap .i64 (r12.1 + 1)) + r13.1)) x1) r12.1 r13.2.b r13.2.i r13.2.h)) else none))) else (some (Sum.inl (r11.2.b,r11.2.i,r11.2.h,y5)))))
def JQ (n : Nat) (x0 : Src) (x1 : Int) (x2 : Int) : Option ((List Link) × Src) :=
  ((zd n n x1 x2 0 x0.b x0.i x0.h ([] : List Link)).bind fun o => match o with | .inl (y6,y7,y8,y9) => (Ji n y6 y7 y8 y9) | .inr r => some r)
noncomputable abbrev JX (k : Nat) := Rg Try.f124 k
theorem zIn (n : Nat) (x0 : Src) (x1 : Int) (x2 : Int) (r : (List Link) × Src) (H : JQ n x0 x1 x2 = some r) : zI Try.prog 124 [.ptr (CV.frzRow (Src.row x0)),.val false [.lit (.int .i64 x1)],.val false [.lit (.int .i64 x2)]] [.val false [.sl true 4 (r.1.map Link.row)]] [(0,(CV.frzRow (Src.row r.2)))] := by
 refine zI.of_body tOk Try.func124 rfl (c := (.seq (JX 0) (.seq (JX 1) (.seq (.seq (JX 2) (.block 0 (.loop (.seq (.seq (JX 3) (.cond (.tmp 19) .skip (.exit 0))) (.seq (.block 1 (.seq (JX 5) (.seq (JX 6) (.seq (.seq (JX 7) (.cond (.tmp 40) (.seq (JX 8) (JX 9)) .skip)) (.seq (JX 10) (.seq (JX 11) (.seq (.block 2 (.loop (.seq (.seq (JX 12) (.cond (.tmp 60) .skip (.exit 2))) (.block 3 (JX 13))))) (.seq (.block 4 (.loop (.seq (.seq (JX 14) (.cond (.tmp 73) .skip (.exit 4))) (.block 5 (JX 15))))) (.seq (JX 16) (.cond (.tmp 98) (JX 17) .skip)))))))))) (JX 4)))))) (.seq (JX 18) .ret))))) kr (Nat.le_of_ble_eq_true kr) 1 (rs := [.tmp 6]) rfl [] .nil [(false,[.sl true 4 (r.1.map Link.row)])] [] [(0,(CV.frzRow (Src.row r.2)))] fun cx => ?_
 show Tr _ _ _ ⟨111,1,[sA 0 0 3 0,sI 1 x1,sI 2 x2],[(0,(CV.frzRow (Src.row x0)))]⟩ _
 unfold JQ at H
 refine gA 1 7 1 ?_
 refine gA 3 135 129 ?_
 refine tS ?_
 refine gA 1 391 129 ?_
 obtain ⟨o10,eo10,Ho10⟩ := bs H
 clear H
 refine Tr.mid (ι := (List Int) × Int × Int × (List Link)) (fun v => ⟨111,1,[sA 7 7 3 0,sA 0 0 3 0],[(0,[cF 1 v.1 zy,cI v.2.1,cI v.2.2.1]),(7,[cL 11 ([] : List zA) zA.row,cL 4 v.2.2.2 Link.row,cL 7 ([] : List Say) Say.row])]⟩) (fun v => Ji n v.1 v.2.1 v.2.2.1 v.2.2.2 = some r) ?_ ?_
 ·refine tB ?_
  refine Tr.loop (ι := Nat × (Int × (List Int) × Int × Int × (List Link))) (fun v => ⟨111,1,[sI 8 v.2.1,sA 7 7 3 0,sA 0 0 3 0,sI 1 x1,sI 2 x2],[(7,[cL 11 ([] : List zA) zA.row,cL 4 v.2.2.2.2.2 Link.row,cL 7 ([] : List Say) Say.row]),(0,[cF 1 v.2.2.1 zy,cI v.2.2.2.1,cI v.2.2.2.2.1])]⟩) (fun v => zd n v.1 x1 x2 v.2.1 v.2.2.1 v.2.2.2.1 v.2.2.2.2.1 v.2.2.2.2.2 = some o10) (fun v => v.1) (n,(0,x0.b,x0.i,x0.h,([] : List Link))) eo10 (St.sub_of [8,7,0,1,2] [7,0] kr) ?_
  rintro ⟨mo10,y1,y2,y3,y4,y5⟩ H
  have H : zd n mo10 x1 x2 y1 y2 y3 y4 y5 = some o10 := H
  obtain _ | mo10 := mo10
  ·exact nN H
  rw [zd] at H
  refine tS ?_
  refine rA 3 ?_
  obtain ⟨r11,er11,H⟩ := bs H
  refine LAt.callL tOk [.lend,.rd] (f := 49) (av := #[.tmp 16,.const (.int .i64 4)]) (ats := #[92,3]) (d := (some 17)) (ty := 3) (g := none) kr kr kr [] (qt n (⟨y2,y3,y4⟩ : Src) 4 r11 er11) kr (.inl rfl) ?_
  refine uA 2 524679 129 ?_
  obtain ⟨h1,H⟩ | ⟨h1,H⟩ := bC H
  ·refine nA h1 ?_
   refine Tr.exit ?_
   refine aJ ?_
   obtain rfl := si H
   have H := Ho10
   dsimp only at H
   exact jA (r11.2.b,r11.2.i,r11.2.h,y5) H [7,0] [0,7]
  refine tA h1 ?_
  refine tK ?_
  refine tS ?_
  refine tB ?_
  refine rA 2 ?_
  obtain ⟨r12,er12,H⟩ := bs H
  refine LAt.callL tOk [.lend,.rd] (f := 49) (av := #[.tmp 22,.tmp 23]) (ats := #[92,3]) (d := (some 24)) (ty := 3) (g := none) kr kr kr [] (qt n r11.2 x1 r12 er12) kr (.inl rfl) ?_
  refine uA 1 903 129 ?_
  refine rA 3 ?_
  obtain ⟨r13,er13,H⟩ := bs H
  refine LAt.callL tOk [.lend,.rd] (f := 49) (av := #[.tmp 27,.const (.int .i64 2)]) (ats := #[92,3]) (d := (some 28)) (ty := 3) (g := none) kr kr kr [] (qt n r12.2 2 r13 er13) kr (.inl rfl) ?_
  refine lA 2 ?_
  obtain ⟨hg14,H⟩ := gs H
  refine LAt.binC tOk (op := .rem) (t := 3) (ty := 3) (ty' := 3) (x := (.tmp 29)) (y := (.tmp 30)) (d := 31) (g := none) (.int .i64 (IntKind.wrap .i64 ((IntKind.wrap .i64 (r12.1 + 1)) + r13.1))) (.int .i64 x1) (.int .i64 (Int.tmod (IntKind.wrap .i64 ((IntKind.wrap .i64 (r12.1 + 1)) + r13.1)) x1)) _ kr kr kr kr kr (φ := (IntKind.i64 = IntKind.i64 ∧ (x1 : Int) ≠ 0)) kr (⟨rfl,of_decide_eq_true hg14⟩) rfl ?_
  refine uA 1 1927 129 ?_
  refine tS ?_
  refine Tr.mid (ι := Int × Int × (List Int) × Int × Int) (fun v => ⟨111,1,[sI 10 v.1,sI 9 v.2.1,sI 8 y1,sA 7 7 3 0,sA 0 0 3 0,sI 1 x1,sI 2 x2],[(0,[cF 1 v.2.2.1 zy,cI v.2.2.2.1,cI v.2.2.2.2]),(7,[cL 11 ([] : List zA) zA.row,cL 4 y5 Link.row,cL 7 ([] : List Say) Say.row])]⟩) (fun v => ZP n (fun v => zd n mo10 x1 x2 v.1 v.2.1 v.2.2.1 v.2.2.2.1 v.2.2.2.2) x2 y1 y5 v.1 v.2.1 v.2.2.1 v.2.2.2.1 v.2.2.2.2 = some o10) ?_ ?_
  ·refine rA 5 ?_
   refine sL 68719478663 129 ⟨111,1,[sB 36 (decide (y1 < (IntKind.wrap .i64 (x1 - 1)))),sI 10 (Int.tmod (IntKind.wrap .i64 ((IntKind.wrap .i64 (r12.1 + 1)) + r13.1)) x1),sI 9 r12.1,sI 8 y1,sA 7 7 3 0,sA 0 0 3 0,sI 1 x1,sI 2 x2],[(0,(CV.frzRow (Src.row r13.2))),(7,[cL 11 ([] : List zA) zA.row,cL 4 y5 Link.row,cL 7 ([] : List Say) Say.row])]⟩ ?_
   cases h10 : (decide (y1 < (IntKind.wrap .i64 (x1 - 1))))
   ·have H := zG h10 H
    refine uA 4 1099511629703 129 ?_
    refine nB_ ?_
    refine tK ?_
    exact jA ((Int.tmod (IntKind.wrap .i64 ((IntKind.wrap .i64 (r12.1 + 1)) + r13.1)) x1),r12.1,r13.2.b,r13.2.i,r13.2.h) H [10,9,8,7,0,1,2] [0,7]
   have H := zH h10 H
   refine lA 1 ?_
   obtain ⟨r34,er34,H⟩ := bs H
   refine LAt.callL tOk [.lend,.rd] (f := 100) (av := #[.tmp 37,.const (.int .i64 5)]) (ats := #[92,3]) (d := (some 38)) (ty := 4) (g := (some (4,true))) kr kr kr [] (zGX n r13.2 5 r34 er34) kr (.inl rfl) ?_
   refine uA 2 1099511629703 129 ?_
   obtain ⟨h11,H⟩ | ⟨h11,H⟩ := bC H
   ·refine nA h11 ?_
    refine tK ?_
    exact jA ((Int.tmod (IntKind.wrap .i64 ((IntKind.wrap .i64 (r12.1 + 1)) + r13.1)) x1),r12.1,r34.2.b,r34.2.i,r34.2.h) H [10,9,8,7,0,1,2] [0,7]
   refine tA h11 ?_
   refine gA 2 903 129 ?_
   refine eA 3 1927 129 ?_
   exact jA ((IntKind.wrap .i64 (y1 + 1)),y1,r34.2.b,r34.2.i,r34.2.h) H [10,9,8,7,0,1,2] [0,7]
  rintro ⟨y15,y16,y17,y18,y19⟩ H
  have H : (ZP n (fun v => zd n mo10 x1 x2 v.1 v.2.1 v.2.2.1 v.2.2.2.1 v.2.2.2.2) x2 y1 y5 y15 y16 y17 y18 y19) = some o10 := H
  unfold ZP at H
  refine rA 2 ?_
  obtain ⟨r20,er20,H⟩ := bs H
  refine LAt.callL tOk [.lend,.rd] (f := 49) (av := #[.tmp 44,.tmp 45]) (ats := #[92,3]) (d := (some 46)) (ty := 3) (g := none) kr kr kr [] (qt n (⟨y17,y18,y19⟩ : Src) x2 r20 er20) kr (.inl rfl) ?_
  refine uA 1 3975 129 ?_
  refine rA 2 ?_
  obtain ⟨r21,er21,H⟩ := bs H
  refine LAt.callL tOk [.lend,.rd] (f := 49) (av := #[.tmp 47,.tmp 48]) (ats := #[92,3]) (d := (some 49)) (ty := 3) (g := none) kr kr kr [] (qt n r20.2 x2 r21 er21) kr (.inl rfl) ?_
  refine uA 1 8071 129 ?_
  refine tS ?_
  obtain ⟨o32,eo32,Ho32⟩ := bs H
  clear H
  refine Tr.mid (ι := Int) (fun v => ⟨111,1,[sI 12 r21.1,sI 11 v,sI 10 y15,sI 9 y16,sI 8 y1,sA 7 7 3 0,sA 0 0 3 0,sI 1 x1,sI 2 x2],[(0,(CV.frzRow (Src.row r21.2))),(7,[cL 11 ([] : List zA) zA.row,cL 4 y5 Link.row,cL 7 ([] : List Say) Say.row])]⟩) (fun v => Yj n (fun v => zd n mo10 x1 x2 v.1 v.2.1 v.2.2.1 v.2.2.2.1 v.2.2.2.2) r21 x2 y1 y15 y16 y5 v = some o10) ?_ ?_
  ·refine tB ?_
   refine Tr.loop (ι := Nat × (Int)) (fun v => ⟨111,1,[sI 12 r21.1,sI 11 v.2,sI 10 y15,sI 9 y16,sI 8 y1,sA 7 7 3 0,sA 0 0 3 0,sI 1 x1,sI 2 x2],[(0,(CV.frzRow (Src.row r21.2))),(7,[cL 11 ([] : List zA) zA.row,cL 4 y5 Link.row,cL 7 ([] : List Say) Say.row])]⟩) (fun v => QY n v.1 x2 y16 y5 v.2 = some o32) (fun v => v.1) (n,r20.1) eo32 (St.sub_of [12,11,10,9,8,7,0,1,2] [0,7] kr) ?_
   rintro ⟨mo32,y22⟩ H
   have H : QY n mo32 x2 y16 y5 y22 = some o32 := H
   obtain _ | mo32 := mo32
   ·exact nN H
   rw [QY] at H
   refine tS ?_
   refine rA 3 ?_
   obtain ⟨r33,er33,H⟩ := bs H
   refine vB [.rd,.rd,.rd] [.box 7] (JR n (⟨([] : List zA),y5,([] : List Say)⟩ : Net) y16 y22 r33 er33) (.inr (qV (zK zR qW) qh)) ?_
   refine lA 2 ?_
   refine sL 0x80000000001f87 129 ⟨111,1,[sB 55 (decide (r33 > 0)),sI 12 r21.1,sI 11 y22,sI 10 y15,sI 9 y16,sI 8 y1,sA 7 7 3 0,sA 0 0 3 0,sI 1 x1,sI 2 x2],[(0,(CV.frzRow (Src.row r21.2))),(7,[cL 11 ([] : List zA) zA.row,cL 4 y5 Link.row,cL 7 ([] : List Say) Say.row])]⟩ ?_
   cases h8 : (decide (r33 > 0))
   ·have H := zG h8 H
    refine uA 5 0x1000000000001f87 129 ?_
    refine nB_ ?_
    refine Tr.exit ?_
    refine aJ ?_
    obtain rfl := si H
    have H := Ho32
    dsimp only at H
    exact jA y22 H [12,11,10,9,8,7,0,1,2] [0,7]
   have H := zH h8 H
   refine uA 5 0x1000000000001f87 129 ?_
   obtain ⟨h9,H⟩ | ⟨h9,H⟩ := bC H
   ·refine nA h9 ?_
    refine Tr.exit ?_
    refine aJ ?_
    obtain rfl := si H
    have H := Ho32
    dsimp only at H
    exact jA y22 H [12,11,10,9,8,7,0,1,2] [0,7]
   refine tA h9 ?_
   refine tK ?_
   refine tB ?_
   refine eA 3 8071 129 ?_
   exact jB mo32 (IntKind.wrap .i64 (y22 + 1)) H [12,11,10,9,8,7,0,1,2] [0,7]
  rintro y23 H
  have H : (Yj n (fun v => zd n mo10 x1 x2 v.1 v.2.1 v.2.2.1 v.2.2.2.1 v.2.2.2.2) r21 x2 y1 y15 y16 y5 y23) = some o10 := H
  unfold Yj at H
  refine tS ?_
  obtain ⟨o30,eo30,Ho30⟩ := bs H
  clear H
  refine Tr.mid (ι := Int) (fun v => ⟨111,1,[sI 12 v,sI 11 y23,sI 10 y15,sI 9 y16,sI 8 y1,sA 7 7 3 0,sA 0 0 3 0,sI 1 x1,sI 2 x2],[(0,(CV.frzRow (Src.row r21.2))),(7,[cL 11 ([] : List zA) zA.row,cL 4 y5 Link.row,cL 7 ([] : List Say) Say.row])]⟩) (fun v => Yk n (fun v => zd n mo10 x1 x2 v.1 v.2.1 v.2.2.1 v.2.2.2.1 v.2.2.2.2) r21 y1 y15 y16 y23 y5 v = some o10) ?_ ?_
  ·refine tB ?_
   refine Tr.loop (ι := Nat × (Int)) (fun v => ⟨111,1,[sI 12 v.2,sI 11 y23,sI 10 y15,sI 9 y16,sI 8 y1,sA 7 7 3 0,sA 0 0 3 0,sI 1 x1,sI 2 x2],[(0,(CV.frzRow (Src.row r21.2))),(7,[cL 11 ([] : List zA) zA.row,cL 4 y5 Link.row,cL 7 ([] : List Say) Say.row])]⟩) (fun v => QX n v.1 x2 y15 y5 v.2 = some o30) (fun v => v.1) (n,r21.1) eo30 (St.sub_of [12,11,10,9,8,7,0,1,2] [0,7] kr) ?_
   rintro ⟨mo30,y24⟩ H
   have H : QX n mo30 x2 y15 y5 y24 = some o30 := H
   obtain _ | mo30 := mo30
   ·exact nN H
   rw [QX] at H
   refine tS ?_
   refine rA 3 ?_
   obtain ⟨r31,er31,H⟩ := bs H
   refine vB [.rd,.rd,.rd] [.box 7] (JR n (⟨([] : List zA),y5,([] : List Say)⟩ : Net) y15 y24 r31 er31) (.inr (qV (zK zR qW) qh)) ?_
   refine lA 2 ?_
   refine sL 0x100000000000001f87 129 ⟨111,1,[sB 68 (decide (r31 > 0)),sI 12 y24,sI 11 y23,sI 10 y15,sI 9 y16,sI 8 y1,sA 7 7 3 0,sA 0 0 3 0,sI 1 x1,sI 2 x2],[(0,(CV.frzRow (Src.row r21.2))),(7,[cL 11 ([] : List zA) zA.row,cL 4 y5 Link.row,cL 7 ([] : List Say) Say.row])]⟩ ?_
   cases h6 : (decide (r31 > 0))
   ·have H := zG h6 H
    refine uA 5 0x2000000000000001f87 129 ?_
    refine nB_ ?_
    refine Tr.exit ?_
    refine aJ ?_
    obtain rfl := si H
    have H := Ho30
    dsimp only at H
    exact jA y24 H [12,11,10,9,8,7,0,1,2] [0,7]
   have H := zH h6 H
   refine uA 5 0x2000000000000001f87 129 ?_
   obtain ⟨h7,H⟩ | ⟨h7,H⟩ := bC H
   ·refine nA h7 ?_
    refine Tr.exit ?_
    refine aJ ?_
    obtain rfl := si H
    have H := Ho30
    dsimp only at H
    exact jA y24 H [12,11,10,9,8,7,0,1,2] [0,7]
   refine tA h7 ?_
   refine tK ?_
   refine tB ?_
   refine eA 3 8071 129 ?_
   exact jB mo30 (IntKind.wrap .i64 (y24 + 1)) H [12,11,10,9,8,7,0,1,2] [0,7]
  rintro y25 H
  have H : (Yk n (fun v => zd n mo10 x1 x2 v.1 v.2.1 v.2.2.1 v.2.2.2.1 v.2.2.2.2) r21 y1 y15 y16 y23 y5 y25) = some o10 := H
  unfold Yk at H
  refine tS ?_
  refine Tr.mid (ι := Bool) (fun v => ⟨111,1,[sB 98 v,sI 12 y25,sI 11 y23,sI 10 y15,sI 9 y16,sI 8 y1,sA 7 7 3 0,sA 0 0 3 0,sI 1 x1,sI 2 x2],[(0,(CV.frzRow (Src.row r21.2))),(7,[cL 11 ([] : List zA) zA.row,cL 4 y5 Link.row,cL 7 ([] : List Say) Say.row])]⟩) (fun v => Zm n (fun v => zd n mo10 x1 x2 v.1 v.2.1 v.2.2.1 v.2.2.2.1 v.2.2.2.2) r21 y1 y15 y16 y23 y25 y5 v = some o10) ?_ ?_
  ·refine Tr.at ?_
   refine lA 4 ?_
   refine sL 0x80000000000000001f87 129 ⟨111,1,[sB 79 (y16 != y15),sI 12 y25,sI 11 y23,sI 10 y15,sI 9 y16,sI 8 y1,sA 7 7 3 0,sA 0 0 3 0,sI 1 x1,sI 2 x2],[(0,(CV.frzRow (Src.row r21.2))),(7,[cL 11 ([] : List zA) zA.row,cL 4 y5 Link.row,cL 7 ([] : List Say) Say.row])]⟩ ?_
   cases h3 : (y16 != y15)
   ·have H := zG h3 H
    refine uA 19 0x4000000000000000000001f87 129 ?_
    exact jA false H [98,12,11,10,9,8,7,0,1,2] [0,7]
   have H := zH h3 H
   refine lA 3 ?_
   obtain ⟨r28,er28,H⟩ := bs H
   refine vB [.rd,.rd,.rd] [.box 7] (JR n (⟨([] : List zA),y5,([] : List Say)⟩ : Net) y16 y23 r28 er28) (.inr (qV (zK zR qW) qh)) ?_
   refine lA 3 ?_
   refine sL 0x4000000000000000001f87 129 ⟨111,1,[sB 86 (r28 == 0),sI 12 y25,sI 11 y23,sI 10 y15,sI 9 y16,sI 8 y1,sA 7 7 3 0,sA 0 0 3 0,sI 1 x1,sI 2 x2],[(0,(CV.frzRow (Src.row r21.2))),(7,[cL 11 ([] : List zA) zA.row,cL 4 y5 Link.row,cL 7 ([] : List Say) Say.row])]⟩ ?_
   cases h4 : (r28 == 0)
   ·have H := zG h4 H
    refine uA 12 0x4000000000000000000001f87 129 ?_
    exact jA false H [98,12,11,10,9,8,7,0,1,2] [0,7]
   have H := zH h4 H
   refine lA 3 ?_
   obtain ⟨r29,er29,H⟩ := bs H
   refine vB [.rd,.rd,.rd] [.box 7] (JR n (⟨([] : List zA),y5,([] : List Say)⟩ : Net) y15 y25 r29 er29) (.inr (qV (zK zR qW) qh)) ?_
   refine lA 3 ?_
   refine sL 0x200000000000000000001f87 129 ⟨111,1,[sB 93 (r29 == 0),sI 12 y25,sI 11 y23,sI 10 y15,sI 9 y16,sI 8 y1,sA 7 7 3 0,sA 0 0 3 0,sI 1 x1,sI 2 x2],[(0,(CV.frzRow (Src.row r21.2))),(7,[cL 11 ([] : List zA) zA.row,cL 4 y5 Link.row,cL 7 ([] : List Say) Say.row])]⟩ ?_
   cases h5 : (r29 == 0)
   ·have H := zG h5 H
    refine uA 5 0x4000000000000000000001f87 129 ?_
    exact jA false H [98,12,11,10,9,8,7,0,1,2] [0,7]
   have H := zH h5 H
   refine lA 2 ?_
   refine kO y5 Link.row ?_
   refine uA 2 0x4000000000000000000001f87 129 ?_
   exact jA (decide ((y5.length : Int) < 9)) H [98,12,11,10,9,8,7,0,1,2] [0,7]
  rintro y26 H
  have H : (Zm n (fun v => zd n mo10 x1 x2 v.1 v.2.1 v.2.2.1 v.2.2.2.1 v.2.2.2.2) r21 y1 y15 y16 y23 y25 y5 y26) = some o10 := H
  unfold Zm at H
  cases h2 : y26
  ·have H := zG h2 H
   refine nB_ ?_
   refine tK ?_
   refine eA 3 391 129 ?_
   exact jB mo10 ((IntKind.wrap .i64 (y1 + 1)),r21.2.b,r21.2.i,r21.2.h,y5) H [8,7,0,1,2] [7,0]
  have H := zH h2 H
  refine tB_ ?_
  refine Tr.at ?_
  refine lA 8 ?_
  obtain ⟨hg27,H⟩ := gs H
  refine LAt.appMU tOk (t := 73) (ty := 73) (e := 119) (x := (.tmp 100)) (y := (.tmp 106)) (d := 107) (g := none) (tI 119) Link.row y5 [(⟨y16,y23,y15,y25⟩ : Link)] kr kr kr kr kr kr kr kr kr kr hg27 ?_
  refine uA 2 391 129 ?_
  refine eA 3 391 129 ?_
  exact jB mo10 ((IntKind.wrap .i64 (y1 + 1)),r21.2.b,r21.2.i,r21.2.h,(y5 ++ [(⟨y16,y23,y15,y25⟩ : Link)])) H [8,7,0,1,2] [7,0]
 rintro ⟨y6,y7,y8,y9⟩ H
 have H : (Ji n y6 y7 y8 y9) = some r := H
 unfold Ji at H
 refine gA 3 65 129 ?_
 refine te ?_
 obtain rfl := si H
 exact Fin.ofY _ [(false,[cL 4 y9 Link.row])] [] _ [] _ [(0,[cF 1 y6 zy,cI y7,cI y8])] kr rfl rfl rfl kr kr kr kr rfl rfl rfl
def zP (n : Nat) (x0 : Int) (x1 : Int) (x2 : Int) : Option (Bool) :=
  (bif (decide (x0 ≥ x1)) then (some (decide (x0 ≤ x2))) else (some false))
theorem zQ (n : Nat) (x0 : Int) (x1 : Int) (x2 : Int) (r : Bool) (H : zP n x0 x1 x2 = some r) : zI Try.prog 41 [.val false [.lit (.int .i64 x0)],.val false [.lit (.int .i64 x1)],.val false [.lit (.int .i64 x2)]] [.val false [.lit (.bool r)]] [] := by
 refine cW Try.func41 (fun g d => sl [g 0,g 1] .ret) [.tmp 6] fun cx => ?_
 unfold zP at H
 refine gA 1 7 0 ?_
 refine rA 4 ?_
 refine sL 1029 0 ⟨15,0,[sB 10 (decide (x0 ≥ x1)),sI 0 x0,sI 2 x2],[]⟩ ?_
 cases h1 : (decide (x0 ≥ x1))
 ·have H := zG h1 H
  refine uA 5 64 0 ?_
  exact te (fF H)
 have H := zH h1 H
 refine uA 5 64 0 ?_
 exact te (fJ [(false,[cB (decide (x0 ≤ x2))])] H)
def J3 (n : Nat) (x0 : Int) (y5 : (List Int)) : Option (zJ) :=
  (some (⟨[(⟨1,(IntKind.wrap .i64 ((IntKind.wrap .i64 (1 * 2 ^ min (((IntKind.wrap .u64 x0) : Int)).toNat (IntKind.bits .i64))) - 1)),(IntKind.wrap .i64 ((IntKind.wrap .i64 (1 * 2 ^ min (((IntKind.wrap .u64 x0) : Int)).toNat (IntKind.bits .i64))) - 1))⟩ : zF)],y5⟩ : zJ))
def Y1 (n : Nat) : Nat → Int → Int → (List Int) → Option (((List Int)) ⊕ (zJ))
  | 0,_,_,_ => none
  | mo6 + 1,x0,y3,y4 => (bif (decide (y3 < x0)) then (bif (decide (y4.length + [1].length ≤ 268435456)) then (Y1 n mo6 x0 (IntKind.wrap .i64 (y3 + 1)) (y4 ++ [1])) else none) else (some (Sum.inl y4)))
def zBD (n : Nat) (x0 : Int) : Option (zJ) :=
  ((zP n x0 1 6).bind fun r1 => (bif (!r1) then (some (⟨([] : List zF),([] : List Int)⟩ : zJ)) else (bif (decide ((0 : Int) ≤ (IntKind.wrap .u64 x0))) then ((Y1 n n x0 0 ([] : List Int)).bind fun o => match o with | .inl y5 => (J3 n x0 y5) | .inr r => some r) else none)))
theorem zJY (n : Nat) (x0 : Int) (r : zJ) (H : zBD n x0 = some r) : zI Try.prog 148 [.val false [.lit (.int .i64 x0)]] [.val true (zJ.row r)] [] := by
 refine cW Try.func148 (fun g d => sl [g 0,sl [g 1] (cn 8 (sl [g 2] .ret) .skip),g 3,g 4,sl [g 5] (.block 0 (.loop (sl [sl [g 6] (cn 21 .skip (.exit 0)),.block 1 (g 8)] (g 7)))),g 9] .ret) [.cell 2 40] fun cx => ?_
 unfold zBD at H
 refine gA 1 5 4 ?_
 refine tS ?_
 refine rA 1 ?_
 obtain ⟨r1,er1,H⟩ := bs H
 refine vA [.rd,.rd,.rd] (zQ n x0 1 6 r1 er1) ?_
 refine uA 1 261 4 ?_
 obtain ⟨h1,H⟩ | ⟨h1,H⟩ := bC H
 ·refine nA h1 ?_
  refine tK ?_
  refine rA 2 ?_
  obtain ⟨hg2,H⟩ := gs H
  refine LAt.binC tOk (op := .shl) (t := 3) (ty := 103) (ty' := 3) (x := (.const (.int .i64 1))) (y := (.tmp 11)) (d := 12) (g := none) (.int .i64 1) (.int .u64 (IntKind.wrap .u64 x0)) (.int .i64 (IntKind.wrap .i64 (1 * 2 ^ min (((IntKind.wrap .u64 x0) : Int)).toNat (IntKind.bits .i64)))) _ kr kr kr kr kr (φ := (0 : Int) ≤ (IntKind.wrap .u64 x0)) kr (of_decide_eq_true hg2) rfl ?_
  refine uA 2 13 4 ?_
  refine gA 7 21 20 ?_
  refine tS ?_
  refine gA 1 53 20 ?_
  obtain ⟨o6,eo6,Ho6⟩ := bs H
  clear H
  refine Tr.mid (ι := (List Int)) (fun v => ⟨30,0,[sA 4 4 2 0,sA 2 2 2 0],[(4,[cL 3 [(⟨1,(IntKind.wrap .i64 ((IntKind.wrap .i64 (1 * 2 ^ min (((IntKind.wrap .u64 x0) : Int)).toNat (IntKind.bits .i64))) - 1)),(IntKind.wrap .i64 ((IntKind.wrap .i64 (1 * 2 ^ min (((IntKind.wrap .u64 x0) : Int)).toNat (IntKind.bits .i64))) - 1))⟩ : zF)] zF.row,cL 1 v intRow]),(2,[cL 3 ([] : List zF) zF.row,cL 1 ([] : List Int) intRow])]⟩) (fun v => J3 n x0 v = some r) ?_ ?_
  ·refine tB ?_
   refine Tr.loop (ι := Nat × (Int × (List Int))) (fun v => ⟨30,0,[sI 5 v.2.1,sA 4 4 2 0,sA 2 2 2 0,sI 0 x0],[(4,[cL 3 [(⟨1,(IntKind.wrap .i64 ((IntKind.wrap .i64 (1 * 2 ^ min (((IntKind.wrap .u64 x0) : Int)).toNat (IntKind.bits .i64))) - 1)),(IntKind.wrap .i64 ((IntKind.wrap .i64 (1 * 2 ^ min (((IntKind.wrap .u64 x0) : Int)).toNat (IntKind.bits .i64))) - 1))⟩ : zF)] zF.row,cL 1 v.2.2 intRow]),(2,[cL 3 ([] : List zF) zF.row,cL 1 ([] : List Int) intRow])]⟩) (fun v => Y1 n v.1 x0 v.2.1 v.2.2 = some o6) (fun v => v.1) (n,(0,([] : List Int))) eo6 (St.sub_of [5,4,2,0] [4,2] kr) ?_
   rintro ⟨mo6,y3,y4⟩ H
   have H : Y1 n mo6 x0 y3 y4 = some o6 := H
   obtain _ | mo6 := mo6
   ·exact nN H
   rw [Y1] at H
   refine tS ?_
   refine gA 3 2097205 20 ?_
   obtain ⟨h2,H⟩ | ⟨h2,H⟩ := bC H
   ·refine nA h2 ?_
    refine Tr.exit ?_
    refine aJ ?_
    obtain rfl := si H
    have H := Ho6
    dsimp only at H
    exact jA y4 H [4,2] [4,2]
   refine tA h2 ?_
   refine tK ?_
   refine tS ?_
   refine tB ?_
   refine Tr.at ?_
   refine lA 3 ?_
   obtain ⟨hg7,H⟩ := gs H
   refine LAt.appMU tOk (t := 38) (ty := 38) (e := 3) (x := (.tmp 25)) (y := (.tmp 26)) (d := 27) (g := none) (tI 3) intRow y4 [1] kr kr kr kr kr kr kr kr kr kr hg7 ?_
   refine uA 2 53 20 ?_
   refine eA 3 53 20 ?_
   exact jB mo6 ((IntKind.wrap .i64 (y3 + 1)),(y4 ++ [1])) H [5,4,2,0] [4,2]
  rintro y5 H
  have H : (J3 n x0 y5) = some r := H
  unfold J3 at H
  refine gA 2 4 4 ?_
  exact te (fJ [(true,[cL 3 [(⟨1,(IntKind.wrap .i64 ((IntKind.wrap .i64 (1 * 2 ^ min (((IntKind.wrap .u64 x0) : Int)).toNat (IntKind.bits .i64))) - 1)),(IntKind.wrap .i64 ((IntKind.wrap .i64 (1 * 2 ^ min (((IntKind.wrap .u64 x0) : Int)).toNat (IntKind.bits .i64))) - 1))⟩ : zF)] zF.row,cL 1 y5 intRow])] H)
 refine tA h1 ?_
 refine gA 2 4 4 ?_
 exact te (fJ [(true,[cL 3 ([] : List zF) zF.row,cL 1 ([] : List Int) intRow])] H)
def Y9 (n : Nat) (r3 : zJ) (x0 : Int) (y6 : (List Pt)) : Option (zA) :=
  (some (⟨x0,(⟨#[]⟩ : ByteArray),y6,([] : List zB),r3,0,0,0,0,0⟩ : zA))
def Qq (n : Nat) : Nat → Int → Int → (List Pt) → Option (((List Pt)) ⊕ (zA))
  | 0,_,_,_ => none
  | mo7 + 1,x1,y4,y5 => (bif (decide (y4 < x1)) then (bif (decide (y5.length + [(⟨false,1,false,(⟨0,0,0,0,0⟩ : Vec)⟩ : Pt)].length ≤ 268435456)) then (Qq n mo7 x1 (IntKind.wrap .i64 (y4 + 1)) (y5 ++ [(⟨false,1,false,(⟨0,0,0,0,0⟩ : Vec)⟩ : Pt)])) else none) else (some (Sum.inl y5)))
def Zg (n : Nat) (x0 : Int) (x1 : Int) : Option (zA) :=
  ((zP n x0 1 99).bind fun r1 => (bif (!r1) then (some (⟨0,(⟨#[]⟩ : ByteArray),([] : List Pt),([] : List zB),(⟨([] : List zF),([] : List Int)⟩ : zJ),0,0,0,0,0⟩ : zA)) else ((zP n x1 1 6).bind fun r2 => (bif (!r2) then (some (⟨0,(⟨#[]⟩ : ByteArray),([] : List Pt),([] : List zB),(⟨([] : List zF),([] : List Int)⟩ : zJ),0,0,0,0,0⟩ : zA)) else ((zBD n x1).bind fun r3 => ((Qq n n x1 0 ([] : List Pt)).bind fun o => match o with | .inl y6 => (Y9 n r3 x0 y6) | .inr r => some r))))))
theorem zH3 (n : Nat) (x0 : Int) (x1 : Int) (r : zA) (H : Zg n x0 x1 = some r) : zI Try.prog 94 [.val false [.lit (.int .i64 x0)],.val false [.lit (.int .i64 x1)]] [.val true (zA.row r)] [] := by
 refine cW Try.func94 (fun g d => sl [g 0,sl [g 1] (cn 14 (sl [g 2] .ret) .skip),g 3,sl [g 4] (.block 0 (.loop (sl [sl [g 5] (cn 22 .skip (.exit 0)),.block 1 (g 7)] (g 6)))),g 8] .ret) [.cell 4 42] fun cx => ?_
 unfold Zg at H
 refine gA 1 19 16 ?_
 refine tS ?_
 refine rA 1 ?_
 obtain ⟨r1,er1,H⟩ := bs H
 refine vA [.rd,.rd,.rd] (zQ n x0 1 99 r1 er1) ?_
 refine lA 2 ?_
 refine sL 1043 16 ⟨32,0,[sB 10 (!r1),sA 4 4 11 0,sI 0 x0,sI 1 x1],[(4,[cI 0,cS (⟨#[]⟩ : ByteArray),cL 8 ([] : List Pt) Pt.row,cL 5 ([] : List zB) zB.row,cL 3 ([] : List zF) zF.row,cL 1 ([] : List Int) intRow,cI 0,cI 0,cI 0,cI 0,cI 0])]⟩ ?_
 cases h1 : (!r1)
 ·have H := zG h1 H
  refine lA 1 ?_
  obtain ⟨r2,er2,H⟩ := bs H
  refine vA [.rd,.rd,.rd] (zQ n x1 1 6 r2 er2) ?_
  refine uA 2 16403 16 ?_
  obtain ⟨h2,H⟩ | ⟨h2,H⟩ := bC H
  ·refine nA h2 ?_
   refine tK ?_
   refine rA 2 ?_
   obtain ⟨r3,er3,H⟩ := bs H
   refine vA [.rd] (zJY n x1 r3 er3) ?_
   refine uA 3 50 48 ?_
   refine tS ?_
   refine gA 1 114 48 ?_
   obtain ⟨o7,eo7,Ho7⟩ := bs H
   clear H
   refine Tr.mid (ι := (List Pt)) (fun v => ⟨32,0,[sA 5 5 11 0,sA 4 4 11 0],[(5,[cI x0,cS (⟨#[]⟩ : ByteArray),cL 8 v Pt.row,cL 5 ([] : List zB) zB.row,cL 3 r3.Rows zF.row,cL 1 r3.Pv intRow,cI 0,cI 0,cI 0,cI 0,cI 0]),(4,[cI 0,cS (⟨#[]⟩ : ByteArray),cL 8 ([] : List Pt) Pt.row,cL 5 ([] : List zB) zB.row,cL 3 ([] : List zF) zF.row,cL 1 ([] : List Int) intRow,cI 0,cI 0,cI 0,cI 0,cI 0])]⟩) (fun v => Y9 n r3 x0 v = some r) ?_ ?_
   ·refine tB ?_
    refine Tr.loop (ι := Nat × (Int × (List Pt))) (fun v => ⟨32,0,[sI 6 v.2.1,sA 5 5 11 0,sA 4 4 11 0,sI 1 x1],[(5,[cI x0,cS (⟨#[]⟩ : ByteArray),cL 8 v.2.2 Pt.row,cL 5 ([] : List zB) zB.row,cL 3 r3.Rows zF.row,cL 1 r3.Pv intRow,cI 0,cI 0,cI 0,cI 0,cI 0]),(4,[cI 0,cS (⟨#[]⟩ : ByteArray),cL 8 ([] : List Pt) Pt.row,cL 5 ([] : List zB) zB.row,cL 3 ([] : List zF) zF.row,cL 1 ([] : List Int) intRow,cI 0,cI 0,cI 0,cI 0,cI 0])]⟩) (fun v => Qq n v.1 x1 v.2.1 v.2.2 = some o7) (fun v => v.1) (n,(0,([] : List Pt))) eo7 (St.sub_of [6,5,4,1] [5,4] kr) ?_
    rintro ⟨mo7,y4,y5⟩ H
    have H : Qq n mo7 x1 y4 y5 = some o7 := H
    obtain _ | mo7 := mo7
    ·exact nN H
    rw [Qq] at H
    refine tS ?_
    refine gA 3 4194418 48 ?_
    obtain ⟨h3,H⟩ | ⟨h3,H⟩ := bC H
    ·refine nA h3 ?_
     refine Tr.exit ?_
     refine aJ ?_
     obtain rfl := si H
     have H := Ho7
     dsimp only at H
     exact jA y5 H [5,4] [5,4]
    refine tA h3 ?_
    refine tK ?_
    refine tS ?_
    refine tB ?_
    refine Tr.at ?_
    refine lA 4 ?_
    obtain ⟨hg8,H⟩ := gs H
    refine LAt.appMU tOk (t := 35) (ty := 35) (e := 55) (x := (.tmp 26)) (y := (.tmp 28)) (d := 29) (g := none) (tI 55) Pt.row y5 [(⟨false,1,false,(⟨0,0,0,0,0⟩ : Vec)⟩ : Pt)] kr kr kr kr kr kr kr kr kr kr hg8 ?_
    refine uA 2 114 48 ?_
    refine eA 3 114 48 ?_
    exact jB mo7 ((IntKind.wrap .i64 (y4 + 1)),(y5 ++ [(⟨false,1,false,(⟨0,0,0,0,0⟩ : Vec)⟩ : Pt)])) H [6,5,4,1] [5,4]
   rintro y6 H
   have H : (Y9 n r3 x0 y6) = some r := H
   unfold Y9 at H
   refine gA 2 16 16 ?_
   exact te (fJ [(true,[cI x0,cS (⟨#[]⟩ : ByteArray),cL 8 y6 Pt.row,cL 5 ([] : List zB) zB.row,cL 3 r3.Rows zF.row,cL 1 r3.Pv intRow,cI 0,cI 0,cI 0,cI 0,cI 0])] H)
  refine tA h2 ?_
  refine gA 2 16 16 ?_
  exact te (fJ [(true,[cI 0,cS (⟨#[]⟩ : ByteArray),cL 8 ([] : List Pt) Pt.row,cL 5 ([] : List zB) zB.row,cL 3 ([] : List zF) zF.row,cL 1 ([] : List Int) intRow,cI 0,cI 0,cI 0,cI 0,cI 0])] H)
 have H := zH h1 H
 refine uA 4 16403 16 ?_
 refine tB_ ?_
 refine gA 2 16 16 ?_
 exact te (fJ [(true,[cI 0,cS (⟨#[]⟩ : ByteArray),cL 8 ([] : List Pt) Pt.row,cL 5 ([] : List zB) zB.row,cL 3 ([] : List zF) zF.row,cL 1 ([] : List Int) intRow,cI 0,cI 0,cI 0,cI 0,cI 0])] H)
def zl (n : Nat) (x0 : Vec) : Option (Bool) :=
  ((zP n x0.Root 1 99).bind fun r1 => (bif r1 then ((zP n x0.Co 0 100000).bind fun r2 => (bif r2 then ((zP n x0.Hops 0 10).bind fun r3 => (bif r3 then ((zP n x0.Bridge 1 99).bind fun r4 => (bif r4 then ((zP n x0.Port 0 7).bind fun r5 => (some r5)) else (some false))) else (some false))) else (some false))) else (some false)))
theorem zBj (n : Nat) (x0 : Vec) (r : Bool) (H : zl n x0 = some r) : zI Try.prog 187 [.val true (CV.frzRow (Vec.row x0))] [.val false [.lit (.bool r)]] [] := by
 refine cW Try.func187 (fun g d => sl [g 0,g 1] .ret) [.tmp 2] fun cx => ?_
 unfold zl at H
 refine gA 2 2 2 ?_
 refine rA 2 ?_
 obtain ⟨r1,er1,H⟩ := bs H
 refine vA [.rd,.rd,.rd] (zQ n x0.Root 1 99 r1 er1) ?_
 refine lA 1 ?_
 refine sL 66 2 ⟨26,0,[sB 6 r1,sA 1 1 5 0],[(1,(Vec.row x0))]⟩ ?_
 cases h1 : r1
 ·have H := zG h1 H
  refine uA 20 4 0 ?_
  exact te (fF H)
 have H := zH h1 H
 refine lA 2 ?_
 obtain ⟨r2,er2,H⟩ := bs H
 refine vA [.rd,.rd,.rd] (zQ n x0.Co 0 100000 r2 er2) ?_
 refine lA 2 ?_
 refine sL 2050 2 ⟨26,0,[sB 11 r2,sA 1 1 5 0],[(1,(Vec.row x0))]⟩ ?_
 cases h2 : r2
 ·have H := zG h2 H
  refine uA 15 4 0 ?_
  exact te (fF H)
 have H := zH h2 H
 refine lA 2 ?_
 obtain ⟨r3,er3,H⟩ := bs H
 refine vA [.rd,.rd,.rd] (zQ n x0.Hops 0 10 r3 er3) ?_
 refine lA 2 ?_
 refine sL 65538 2 ⟨26,0,[sB 16 r3,sA 1 1 5 0],[(1,(Vec.row x0))]⟩ ?_
 cases h3 : r3
 ·have H := zG h3 H
  refine uA 10 4 0 ?_
  exact te (fF H)
 have H := zH h3 H
 refine lA 2 ?_
 obtain ⟨r4,er4,H⟩ := bs H
 refine vA [.rd,.rd,.rd] (zQ n x0.Bridge 1 99 r4 er4) ?_
 refine lA 2 ?_
 refine sL 2097154 2 ⟨26,0,[sB 21 r4,sA 1 1 5 0],[(1,(Vec.row x0))]⟩ ?_
 cases h4 : r4
 ·have H := zG h4 H
  refine uA 5 4 0 ?_
  exact te (fF H)
 have H := zH h4 H
 refine lA 2 ?_
 obtain ⟨r5,er5,H⟩ := bs H
 refine vA [.rd,.rd,.rd] (zQ n x0.Port 0 7 r5 er5) ?_
 refine uA 2 4 0 ?_
 exact te (fJ [(false,[cB r5])] H)
def zx (n : Nat) (x0 : Pt) : Option (Bool) :=
  ((zP n x0.Co 1 1000).bind fun r1 => (bif (!r1) then (some false) else (bif (!x0.Up) then (bif x0.Has then (some false) else (some ((x0.Hd.Root == 0) && ((x0.Hd.Co == 0) && ((x0.Hd.Hops == 0) && ((x0.Hd.Bridge == 0) && ((x0.Hd.Port == 0) && true))))))) else (bif (!x0.Has) then (some ((x0.Hd.Root == 0) && ((x0.Hd.Co == 0) && ((x0.Hd.Hops == 0) && ((x0.Hd.Bridge == 0) && ((x0.Hd.Port == 0) && true)))))) else ((zl n x0.Hd).bind fun r2 => (some r2))))))
theorem zLb (n : Nat) (x0 : Pt) (r : Bool) (H : zx n x0 = some r) : zI Try.prog 181 [.val true (CV.frzRow (Pt.row x0))] [.val false [.lit (.bool r)]] [] := by
 refine cW Try.func181 (fun g d => sl [g 0,sl [g 1] (cn 15 (sl [g 2] .ret) .skip),sl [g 3] (cn 18 (sl [g 4] .ret) .skip),g 5] .ret) [.tmp 2] fun cx => ?_
 unfold zx at H
 refine gA 2 2 2 ?_
 refine tS ?_
 refine rA 2 ?_
 obtain ⟨r1,er1,H⟩ := bs H
 refine vA [.rd,.rd,.rd] (zQ n x0.Co 1 1000 r1 er1) ?_
 refine lA 2 ?_
 refine sL 130 2 ⟨26,0,[sB 7 (!r1),sA 1 1 8 0],[(1,(Pt.row x0))]⟩ ?_
 cases h1 : (!r1)
 ·have H := zG h1 H
  refine lA 4 ?_
  refine sL 2178 2 ⟨26,0,[sB 11 (!x0.Up),sB 7 false,sA 1 1 8 0],[(1,(Pt.row x0))]⟩ ?_
  cases h2 : (!x0.Up)
  ·have H := zG h2 H
   refine uA 4 32770 2 ?_
   refine nB_ ?_
   refine tK ?_
   refine tS ?_
   refine gA 3 262146 2 ?_
   obtain ⟨h3,H⟩ | ⟨h3,H⟩ := bC H
   ·refine nA h3 ?_
    refine tK ?_
    refine rA 2 ?_
    obtain ⟨r2,er2,H⟩ := bs H
    refine vA [.rd] (zBj n x0.Hd r2 er2) ?_
    refine uA 1 4 0 ?_
    exact te (fJ [(false,[cB r2])] H)
   refine tA h3 ?_
   refine rA 3 ?_
   refine LAt.eqSG false (t := 46) (ty := 46) (ty' := 4) (x := (.tmp 20)) (y := (.tmp 21)) (d := 22) (g := none) ((x0.Hd.Root == 0) && ((x0.Hd.Co == 0) && ((x0.Hd.Hops == 0) && ((x0.Hd.Bridge == 0) && ((x0.Hd.Port == 0) && true))))) _ kr kr kr kr rfl ?_
   refine uA 1 4 0 ?_
   exact te (fJ [(false,[cB ((x0.Hd.Root == 0) && ((x0.Hd.Co == 0) && ((x0.Hd.Hops == 0) && ((x0.Hd.Bridge == 0) && ((x0.Hd.Port == 0) && true)))))])] H)
  have H := zH h2 H
  refine uA 4 32770 2 ?_
  refine sT ⟨26,0,[sB 15 x0.Has,sA 1 1 8 0],[(1,(Pt.row x0))]⟩ ?_
  cases h4 : x0.Has
  ·have H := zG h4 H
   refine nB_ ?_
   refine tK ?_
   refine tS ?_
   refine gA 3 262146 2 ?_
   refine sT ⟨26,0,[sB 18 (!x0.Has),sA 1 1 8 0],[(1,(Pt.row x0))]⟩ ?_
   rw [h4]
   refine tB_ ?_
   refine rA 3 ?_
   refine LAt.eqSG false (t := 46) (ty := 46) (ty' := 4) (x := (.tmp 20)) (y := (.tmp 21)) (d := 22) (g := none) ((x0.Hd.Root == 0) && ((x0.Hd.Co == 0) && ((x0.Hd.Hops == 0) && ((x0.Hd.Bridge == 0) && ((x0.Hd.Port == 0) && true))))) _ kr kr kr kr rfl ?_
   refine uA 1 4 0 ?_
   exact te (fJ [(false,[cB ((x0.Hd.Root == 0) && ((x0.Hd.Co == 0) && ((x0.Hd.Hops == 0) && ((x0.Hd.Bridge == 0) && ((x0.Hd.Port == 0) && true)))))])] H)
  have H := zH h4 H
  refine tB_ ?_
  refine gA 1 4 0 ?_
  exact te (fF H)
 have H := zH h1 H
 refine uA 8 32770 2 ?_
 refine tB_ ?_
 refine gA 1 4 0 ?_
 exact te (fF H)
def Zw (n : Nat) (x0 : zB) : Option (Bool) :=
  ((zP n x0.Tag 1 99).bind fun r1 => (bif r1 then ((zP n x0.Mac 1 9999).bind fun r2 => (bif r2 then ((zP n x0.Port 0 7).bind fun r3 => (bif r3 then ((zP n x0.Age 0 4).bind fun r4 => (bif r4 then (bif (!x0.Sc) then (some true) else (some (x0.Age == 0))) else (some false))) else (some false))) else (some false))) else (some false)))
theorem zEv (n : Nat) (x0 : zB) (r : Bool) (H : Zw n x0 = some r) : zI Try.prog 155 [.val true (CV.frzRow (zB.row x0))] [.val false [.lit (.bool r)]] [] := by
 refine cW Try.func155 (fun g d => sl [g 0,g 1] .ret) [.tmp 2] fun cx => ?_
 unfold Zw at H
 refine gA 2 2 2 ?_
 refine rA 2 ?_
 obtain ⟨r1,er1,H⟩ := bs H
 refine vA [.rd,.rd,.rd] (zQ n x0.Tag 1 99 r1 er1) ?_
 refine lA 1 ?_
 refine sL 66 2 ⟨31,0,[sB 6 r1,sA 1 1 5 0],[(1,(zB.row x0))]⟩ ?_
 cases h1 : r1
 ·have H := zG h1 H
  refine uA 25 4 0 ?_
  exact te (fF H)
 have H := zH h1 H
 refine lA 2 ?_
 obtain ⟨r2,er2,H⟩ := bs H
 refine vA [.rd,.rd,.rd] (zQ n x0.Mac 1 9999 r2 er2) ?_
 refine lA 2 ?_
 refine sL 2050 2 ⟨31,0,[sB 11 r2,sA 1 1 5 0],[(1,(zB.row x0))]⟩ ?_
 cases h2 : r2
 ·have H := zG h2 H
  refine uA 20 4 0 ?_
  exact te (fF H)
 have H := zH h2 H
 refine lA 2 ?_
 obtain ⟨r3,er3,H⟩ := bs H
 refine vA [.rd,.rd,.rd] (zQ n x0.Port 0 7 r3 er3) ?_
 refine lA 2 ?_
 refine sL 65538 2 ⟨31,0,[sB 16 r3,sA 1 1 5 0],[(1,(zB.row x0))]⟩ ?_
 cases h3 : r3
 ·have H := zG h3 H
  refine uA 15 4 0 ?_
  exact te (fF H)
 have H := zH h3 H
 refine lA 2 ?_
 obtain ⟨r4,er4,H⟩ := bs H
 refine vA [.rd,.rd,.rd] (zQ n x0.Age 0 4 r4 er4) ?_
 refine lA 2 ?_
 refine sL 2097154 2 ⟨31,0,[sB 21 r4,sA 1 1 5 0],[(1,(zB.row x0))]⟩ ?_
 cases h4 : r4
 ·have H := zG h4 H
  refine uA 10 4 0 ?_
  exact te (fF H)
 have H := zH h4 H
 refine lA 4 ?_
 refine sL 35651586 2 ⟨31,0,[sB 25 (!x0.Sc),sB 21 true,sA 1 1 5 0],[(1,(zB.row x0))]⟩ ?_
 cases h5 : (!x0.Sc)
 ·have H := zG h5 H
  refine uA 6 4 0 ?_
  exact te (fJ [(false,[cB (x0.Age == 0)])] H)
 have H := zH h5 H
 refine uA 6 4 0 ?_
 exact te (fT H)
def Zv (n : Nat) (x0 : zB) (x1 : Int) (x2 : Int) : Option (Bool) :=
  (bif (x0.Tag != x1) then (some (decide (x0.Tag < x1))) else (some (decide (x0.Mac < x2))))
theorem zJe (n : Nat) (x0 : zB) (x1 : Int) (x2 : Int) (r : Bool) (H : Zv n x0 x1 x2 = some r) : zI Try.prog 179 [.val true (CV.frzRow (zB.row x0)),.val false [.lit (.int .i64 x1)],.val false [.lit (.int .i64 x2)]] [.val false [.lit (.bool r)]] [] := by
 refine cW Try.func179 (fun g d => sl [g 0,sl [g 1] (cn 10 (sl [g 2] .ret) .skip),g 3] .ret) [.tmp 6] fun cx => ?_
 unfold Zv at H
 refine gA 2 14 8 ?_
 refine tS ?_
 refine gA 4 1038 8 ?_
 obtain ⟨h1,H⟩ | ⟨h1,H⟩ := bC H
 ·refine nA h1 ?_
  refine tK ?_
  refine gA 5 64 0 ?_
  exact te (fJ [(false,[cB (decide (x0.Mac < x2))])] H)
 refine tA h1 ?_
 refine gA 5 64 0 ?_
 exact te (fJ [(false,[cB (decide (x0.Tag < x1))])] H)
def Jn (n : Nat) (x0 : (List zB)) : Option (Bool) :=
  (some (decide ((x0.length : Int) ≤ 12)))
def qd (n : Nat) : Nat → (List zB) → Int → Option ((Unit) ⊕ (Bool))
  | 0,_,_ => none
  | mo2 + 1,x0,y1 => (bif (decide (y1 < (x0.length : Int))) then ((idx x0 y1).bind fun v3 => ((Zw n v3).bind fun r4 => (bif (!r4) then (some (Sum.inr false)) else (bif (decide (y1 > 0)) then ((idx x0 (IntKind.wrap .i64 (y1 - 1))).bind fun v5 => ((idx x0 y1).bind fun v6 => ((idx x0 y1).bind fun v7 => ((Zv n v5 v6.Tag v7.Mac).bind fun r8 => (bif (!r8) then (some (Sum.inr false)) else (qd n mo2 x0 (IntKind.wrap .i64 (y1 + 1)))))))) else (qd n mo2 x0 (IntKind.wrap .i64 (y1 + 1))))))) else (some (Sum.inl ())))
def ZV (n : Nat) (x0 : (List zB)) : Option (Bool) :=
  ((qd n n x0 0).bind fun o => match o with | .inl _ => (Jn n x0) | .inr r => some r)
def zMv : Tab := ⟨29,[0,0,3,4,8,16,48,64,192,320,512,512,2560,5632,8704,512,512,98816,131584,262656,512,512,3146240,4194816,8389120,17318400,33554944,67109440,134217792],[0,0,3,4,8,16,32,64,192,320,512,512,2560,5632,8704,512,512,98816,131584,262656,512,512,3146240,4194816,8389120,17318400,33554944,67109440,134217792],[0,0,3,7,15,31,63,127,255,511,1023,1023,3071,8191,16383,1023,1023,99327,230399,492543,1023,1023,3146751,7341055,15729663,33554431,67108863,134217727,268435455]⟩
theorem qz : zk (rg Try.f154 4) zMv = true := kr
theorem zKv (n : Nat) (x0 : (List zB)) (r : Bool) (H : ZV n x0 = some r) : zI Try.prog 154 [.val false [.sl false 5 (CV.frzEs (x0.map zB.row))]] [.val false [.lit (.bool r)]] [] := by
 refine cW Try.func154 (fun g d => sl [g 0,sl [g 1] (.block 0 (.loop (sl [sl [g 2] (cn 7 .skip (.exit 0)),.block 1 (sl [d 4] (cn 38 (sl [g 5] .ret) .skip))] (g 3)))),g 6] .ret) [.tmp 2] fun cx => ?_
 unfold ZV at H
 refine gA 1 1 0 ?_
 refine tS ?_
 refine gA 1 9 0 ?_
 obtain ⟨o2,eo2,Ho2⟩ := bs H
 clear H
 refine Tr.mid (ι := Unit) (fun v => ⟨42,0,[sC 0 (cF 5 x0 zB.row)],[]⟩) (fun v => Jn n x0 = some r) ?_ ?_
 ·refine tB ?_
  refine Tr.loop (ι := Nat × (Int)) (fun v => ⟨42,0,[sI 3 v.2,sC 0 (cF 5 x0 zB.row)],[]⟩) (fun v => qd n v.1 x0 v.2 = some o2) (fun v => v.1) (n,0) eo2 (St.sub_of [3,0] [] kr) ?_
  rintro ⟨mo2,y1⟩ H
  have H : qd n mo2 x0 y1 = some o2 := H
  obtain _ | mo2 := mo2
  ·exact nN H
  rw [qd] at H
  refine tS ?_
  refine rA 2 ?_
  refine kF x0 zB.row ?_
  refine uA 1 137 0 ?_
  obtain ⟨h1,H⟩ | ⟨h1,H⟩ := bC H
  ·refine nA h1 ?_
   refine Tr.exit ?_
   refine aJ ?_
   obtain rfl := si H
   have H := Ho2
   dsimp only at H
   exact jA () H [0] []
  refine tA h1 ?_
  refine tK ?_
  refine tS ?_
  refine tB ?_
  obtain ⟨v3,ev3,H⟩ := bs H
  obtain ⟨r4,er4,H⟩ := bs H
  refine sT ⟨42,0,[sB 7 (decide (y1 < (x0.length : Int))),sI 3 y1,sC 0 (cF 5 x0 zB.row)],[]⟩ ?_
  cases h2 : (!r4)
  ·have H := zG h2 H
   refine sT ⟨42,0,[sB 7 (decide (y1 < (x0.length : Int))),sI 3 y1,sC 0 (cF 5 x0 zB.row)],[]⟩ ?_
   cases h3 : (decide (y1 > 0))
   ·have H := zG h3 H
    refine Tr.draws mixed 29 kr ⟨42,0,[sB 38 false,sI 3 y1,sC 0 (cF 5 x0 zB.row)],[]⟩ (fun cx => ?_) ?_
    ·refine mA qz [(0,[]),(1,[])] 27 [] fun cx => ?_
     refine iN qz 2 zB.row ev3 fun cx => ?_
     refine mA qz [(3,[])] 25 [] fun cx => ?_
     refine mC qz 4 ?_
     refine vA [.rd] (zEv n v3 r4 er4) ?_
     refine fA ?_
     refine mA qz [(5,[]),(6,[])] 22 [] fun cx => ?_
     refine sA_ 65545 0 ⟨42,0,[sB 16 (!r4),sI 3 y1,sC 0 (cF 5 x0 zB.row)],[]⟩ ?_
     rw [h2]
     refine mA qz [(7,[]),(8,[]),(9,[])] 19 [] fun cx => ?_
     refine sA_ 589833 0 ⟨42,0,[sB 19 (decide (y1 > 0)),sB 16 false,sI 3 y1,sC 0 (cF 5 x0 zB.row)],[]⟩ ?_
     rw [h3]
     refine mA qz [(10,[]),(11,[]),(12,[]),(13,[]),(14,[]),(15,[]),(16,[]),(17,[]),(18,[]),(19,[]),(20,[]),(21,[]),(22,[]),(23,[]),(24,[]),(25,[]),(26,[]),(27,[]),(28,[])] 0 [] fun cx => ?_
     exact mE qz [38,3,0] []
    refine nB_ ?_
    refine tK ?_
    refine eA 3 9 0 ?_
    exact jB mo2 (IntKind.wrap .i64 (y1 + 1)) H [3,0] []
   have H := zH h3 H
   obtain ⟨v5,ev5,H⟩ := bs H
   obtain ⟨v6,ev6,H⟩ := bs H
   obtain ⟨v7,ev7,H⟩ := bs H
   obtain ⟨r8,er8,H⟩ := bs H
   refine Tr.draws mixed 29 kr ⟨42,0,[sB 38 (!r8),sI 3 y1,sC 0 (cF 5 x0 zB.row)],[]⟩ (fun cx => ?_) ?_
   ·refine mA qz [(0,[]),(1,[])] 27 [] fun cx => ?_
    refine iN qz 2 zB.row ev3 fun cx => ?_
    refine mA qz [(3,[])] 25 [] fun cx => ?_
    refine mC qz 4 ?_
    refine vA [.rd] (zEv n v3 r4 er4) ?_
    refine fA ?_
    refine mA qz [(5,[]),(6,[])] 22 [] fun cx => ?_
    refine sA_ 65545 0 ⟨42,0,[sB 16 (!r4),sI 3 y1,sC 0 (cF 5 x0 zB.row)],[]⟩ ?_
    rw [h2]
    refine mA qz [(7,[]),(8,[]),(9,[])] 19 [] fun cx => ?_
    refine sA_ 589833 0 ⟨42,0,[sB 19 (decide (y1 > 0)),sB 16 false,sI 3 y1,sC 0 (cF 5 x0 zB.row)],[]⟩ ?_
    rw [h3]
    refine mA qz [(10,[]),(11,[]),(12,[])] 16 [] fun cx => ?_
    refine iN qz 13 zB.row ev5 fun cx => ?_
    refine mA qz [(14,[]),(15,[]),(16,[])] 12 [] fun cx => ?_
    refine iN qz 17 zB.row ev6 fun cx => ?_
    refine mA qz [(18,[]),(19,[]),(20,[]),(21,[])] 7 [] fun cx => ?_
    refine iN qz 22 zB.row ev7 fun cx => ?_
    refine mA qz [(23,[]),(24,[])] 4 [] fun cx => ?_
    refine mC qz 25 ?_
    refine vA [.rd,.rd,.rd] (zJe n v5 v6.Tag v7.Mac r8 er8) ?_
    refine fA ?_
    refine mA qz [(26,[]),(27,[]),(28,[])] 0 [] fun cx => ?_
    exact mE qz [38,3,0] []
   refine sT ⟨42,0,[sB 38 (!r8),sI 3 y1,sC 0 (cF 5 x0 zB.row)],[]⟩ ?_
   cases h4 : (!r8)
   ·have H := zG h4 H
    refine nB_ ?_
    refine tK ?_
    refine eA 3 9 0 ?_
    exact jB mo2 (IntKind.wrap .i64 (y1 + 1)) H [3,0] []
   have H := zH h4 H
   refine tB_ ?_
   refine gA 1 4 0 ?_
   refine te ?_
   obtain rfl := si H
   have H := Ho2
   dsimp only at H
   exact fF H
  have H := zH h2 H
  refine Tr.draws mixed 29 kr ⟨42,0,[sB 38 true,sI 3 y1,sC 0 (cF 5 x0 zB.row)],[]⟩ (fun cx => ?_) ?_
  ·refine mA qz [(0,[]),(1,[])] 27 [] fun cx => ?_
   refine iN qz 2 zB.row ev3 fun cx => ?_
   refine mA qz [(3,[])] 25 [] fun cx => ?_
   refine mC qz 4 ?_
   refine vA [.rd] (zEv n v3 r4 er4) ?_
   refine fA ?_
   refine mA qz [(5,[]),(6,[])] 22 [] fun cx => ?_
   refine sA_ 65545 0 ⟨42,0,[sB 16 (!r4),sI 3 y1,sC 0 (cF 5 x0 zB.row)],[]⟩ ?_
   rw [h2]
   refine mA qz [(7,[]),(8,[]),(9,[]),(10,[]),(11,[]),(12,[]),(13,[]),(14,[]),(15,[]),(16,[]),(17,[]),(18,[]),(19,[]),(20,[]),(21,[]),(22,[]),(23,[]),(24,[]),(25,[]),(26,[]),(27,[]),(28,[])] 0 [] fun cx => ?_
   exact mE qz [38,3,0] []
  refine tB_ ?_
  refine gA 1 4 0 ?_
  refine te ?_
  obtain rfl := si H
  have H := Ho2
  dsimp only at H
  exact fF H
 rintro _ H
 have H : (Jn n x0) = some r := H
 unfold Jn at H
 refine rA 1 ?_
 refine kF x0 zB.row ?_
 refine uA 2 4 0 ?_
 exact te (fJ [(false,[cB (decide ((x0.length : Int) ≤ 12))])] H)
def zBB (n : Nat) : Option (Int) :=
  (some (-1))
def Zs (n : Nat) : Nat → zJ → Int → Int → Option ((Unit) ⊕ (Int))
  | 0,_,_,_ => none
  | mo2 + 1,x0,x1,y1 => (bif (decide (y1 < (x0.Rows.length : Int))) then ((idx x0.Rows y1).bind fun v3 => (bif (v3.Id == x1) then (some (Sum.inr y1)) else (Zs n mo2 x0 x1 (IntKind.wrap .i64 (y1 + 1))))) else (some (Sum.inl ())))
def Y8 (n : Nat) (x0 : zJ) (x1 : Int) : Option (Int) :=
  ((Zs n n x0 x1 0).bind fun o => match o with | .inl _ => (zBB n) | .inr r => some r)
theorem zKw (n : Nat) (x0 : zJ) (x1 : Int) (r : Int) (H : Y8 n x0 x1 = some r) : zI Try.prog 178 [.val true (CV.frzRow (zJ.row x0)),.val false [.lit (.int .i64 x1)]] [.val false [.lit (.int .i64 r)]] [] := by
 refine cW Try.func178 (fun g d => sl [g 0,sl [g 1] (.block 0 (.loop (sl [sl [g 2] (cn 10 .skip (.exit 0)),.block 1 (sl [g 4] (cn 20 (sl [g 5] .ret) .skip))] (g 3)))),g 6] .ret) [.tmp 4] fun cx => ?_
 unfold Y8 at H
 refine gA 2 6 4 ?_
 refine tS ?_
 refine gA 1 38 4 ?_
 obtain ⟨o2,eo2,Ho2⟩ := bs H
 clear H
 refine Tr.mid (ι := Unit) (fun v => ⟨22,0,[],[]⟩) (fun v => zBB n = some r) ?_ ?_
 ·refine tB ?_
  refine Tr.loop (ι := Nat × (Int)) (fun v => ⟨22,0,[sI 5 v.2,sA 2 2 2 0,sI 1 x1],[(2,(CV.frzRow (zJ.row x0)))]⟩) (fun v => Zs n v.1 x0 x1 v.2 = some o2) (fun v => v.1) (n,0) eo2 (St.sub_of [5,2,1] [2] kr) ?_
  rintro ⟨mo2,y1⟩ H
  have H : Zs n mo2 x0 x1 y1 = some o2 := H
  obtain _ | mo2 := mo2
  ·exact nN H
  rw [Zs] at H
  refine tS ?_
  refine rA 3 ?_
  refine kF x0.Rows zF.row ?_
  refine uA 1 1062 4 ?_
  obtain ⟨h1,H⟩ | ⟨h1,H⟩ := bC H
  ·refine nA h1 ?_
   refine Tr.exit ?_
   refine aJ ?_
   obtain rfl := si H
   have H := Ho2
   dsimp only at H
   exact jA () H [] []
  refine tA h1 ?_
  refine tK ?_
  refine tS ?_
  refine tB ?_
  refine rA 3 ?_
  obtain ⟨v3,ev3,H⟩ := bs H
  refine iA zF.row ev3 ?_
  refine uA 4 1048614 4 ?_
  obtain ⟨h2,H⟩ | ⟨h2,H⟩ := bC H
  ·refine nA h2 ?_
   refine tK ?_
   refine eA 3 38 4 ?_
   exact jB mo2 (IntKind.wrap .i64 (y1 + 1)) H [5,2,1] [2]
  refine tA h2 ?_
  refine gA 2 16 0 ?_
  refine te ?_
  obtain rfl := si H
  have H := Ho2
  dsimp only at H
  exact fJ [(false,[cI y1])] H
 rintro _ H
 have H : (zBB n) = some r := H
 unfold zBB at H
 refine gA 1 16 0 ?_
 exact te (fJ [(false,[cI (-1)])] H)
def zAh (n : Nat) : Option (Bool) :=
  (some true)
def Z3 (n : Nat) : Nat → zJ → Int → Option ((Unit) ⊕ (Bool))
  | 0,_,_ => none
  | mo5 + 1,x0,y4 => (bif (decide (y4 < (x0.Pv.length : Int))) then ((idx x0.Pv y4).bind fun v6 => ((Y8 n x0 v6).bind fun r7 => (bif (decide (r7 < 0)) then (some (Sum.inr false)) else (Z3 n mo5 x0 (IntKind.wrap .i64 (y4 + 1)))))) else (some (Sum.inl ())))
def JN (n : Nat) (x0 : zJ) : Option (Bool) :=
  ((Z3 n n x0 0).bind fun o => match o with | .inl _ => (zAh n) | .inr r => some r)
def ZY (n : Nat) : Nat → zJ → Int → Int → Option ((Unit) ⊕ (Bool))
  | 0,_,_,_ => none
  | mo8 + 1,x0,x1,y3 => (bif (decide (y3 < (x0.Rows.length : Int))) then ((idx x0.Rows y3).bind fun v9 => ((zP n v9.Id 1 99).bind fun r10 => (bif (!r10) then (some (Sum.inr false)) else ((zP n v9.Members 0 (IntKind.wrap .i64 ((IntKind.wrap .i64 (1 * 2 ^ min (((IntKind.wrap .u64 x1) : Int)).toNat (IntKind.bits .i64))) - 1))).bind fun r11 => (bif (!r11) then (some (Sum.inr false)) else ((zP n v9.Bare 0 (IntKind.wrap .i64 ((IntKind.wrap .i64 (1 * 2 ^ min (((IntKind.wrap .u64 x1) : Int)).toNat (IntKind.bits .i64))) - 1))).bind fun r12 => (bif (!r12) then (some (Sum.inr false)) else (bif ((IntKind.wrap .i64 (BitVec.ofInt (IntKind.bits .i64) v9.Bare &&& BitVec.ofInt (IntKind.bits .i64) v9.Members).toNat) != v9.Bare) then (some (Sum.inr false)) else (bif (decide (y3 > 0)) then ((idx x0.Rows (IntKind.wrap .i64 (y3 - 1))).bind fun v13 => (bif (decide (v13.Id ≥ v9.Id)) then (some (Sum.inr false)) else (ZY n mo8 x0 x1 (IntKind.wrap .i64 (y3 + 1))))) else (ZY n mo8 x0 x1 (IntKind.wrap .i64 (y3 + 1)))))))))))) else (some (Sum.inl ())))
def qk (n : Nat) (x0 : zJ) (x1 : Int) : Option (Bool) :=
  ((zP n x1 1 6).bind fun r1 => (bif (!r1) then (some false) else (bif ((x0.Pv.length : Int) != x1) then (some false) else (bif (decide ((x0.Rows.length : Int) > 6)) then (some false) else (bif (decide ((0 : Int) ≤ (IntKind.wrap .u64 x1))) then ((ZY n n x0 x1 0).bind fun o => match o with | .inl _ => (JN n x0) | .inr r => some r) else none)))))
def zM4 : Tab := ⟨44,[0,1,2,4,12,16,48,16,208,272,528,1280,2048,6144,2048,26624,34816,67584,163840,262144,786432,262144,2359296,5505024,262144,17039360,42205184,67371008,134479872,268435456,805306368,1342177280,2147483648,6442450944,2147483648,19327352832,45097156608,70866960384,139586437120,2147483648,551903297536,1376537018368,2201439174656,4398314946560],[0,1,2,4,8,16,48,16,208,272,528,1024,2048,6144,2048,26624,34816,67584,131072,262144,786432,262144,2359296,5505024,262144,17039360,42205184,67371008,134217728,268435456,805306368,1342177280,2147483648,6442450944,2147483648,19327352832,45097156608,70866960384,139586437120,2147483648,551903297536,1376537018368,2201439174656,4398314946560],[0,1,3,7,15,31,63,31,255,511,1023,2047,4095,8191,4095,32767,65535,131071,262143,524287,1048575,524287,2621439,8388607,524287,17301503,67108863,134217727,268435455,536870911,1073741823,2147483647,4294967295,8589934591,4294967295,21474836479,68719476735,137438953471,274877906943,4294967295,554050781183,2199023255551,4398046511103,8796093022207]⟩
theorem zY : zk (rg Try.f175 8) zM4 = true := kr
theorem zH7 (n : Nat) (y3 : Int) (v9 : zF) (x1 : Int) (x0 : zJ) (h11 : (decide (y3 > 0)) = false) (cx : Cx) : AT Try.prog cx (rg Try.f175 8) [⟨[],3,65,66⟩,⟨[],3,62,63⟩,⟨[],3,60,61⟩,⟨[15],3,53,54⟩,⟨[8,15],3,46,47⟩,⟨[2,8,15],3,41,42⟩] 15 [28,27,26,25,24,23,22,21,20,19,18,17,16,15,14,13,12,11,10,9,8,7,6,5,4,3,2,1,0] ⟨100,0,[sB 69 false,sI 66 v9.Bare,sA 65 7 3 2,sI 63 v9.Members,sA 62 7 3 1,sI 61 v9.Bare,sA 60 7 3 2,sI 54 v9.Bare,sA 53 7 3 2,sI 47 v9.Members,sA 46 7 3 1,sI 42 v9.Id,sA 41 7 3 0,sA 7 7 3 0,sI 6 y3,sI 5 (IntKind.wrap .i64 ((IntKind.wrap .i64 (1 * 2 ^ min (((IntKind.wrap .u64 x1) : Int)).toNat (IntKind.bits .i64))) - 1)),sA 2 2 2 0],[(7,(zF.row v9)),(2,(CV.frzRow (zJ.row x0)))]⟩ (fun s => s = ⟨100,0,[sB 84 false,sI 6 y3,sI 5 (IntKind.wrap .i64 ((IntKind.wrap .i64 (1 * 2 ^ min (((IntKind.wrap .u64 x1) : Int)).toNat (IntKind.bits .i64))) - 1)),sA 2 2 2 0],[(2,(CV.frzRow (zJ.row x0)))]⟩) := by
 refine mA zY [(29,[]),(30,[]),(31,[])] 12 [⟨[],3,65,66⟩,⟨[],3,62,63⟩,⟨[],3,60,61⟩,⟨[15],3,53,54⟩,⟨[8,15],3,46,47⟩,⟨[2,8,15],3,41,42⟩] fun cx => ?_
 refine sA_ 0x126f060c600000000e4 132 ⟨100,0,[sB 72 (decide (y3 > 0)),sB 69 false,sI 66 v9.Bare,sA 65 7 3 2,sI 63 v9.Members,sA 62 7 3 1,sI 61 v9.Bare,sA 60 7 3 2,sI 54 v9.Bare,sA 53 7 3 2,sI 47 v9.Members,sA 46 7 3 1,sI 42 v9.Id,sA 41 7 3 0,sA 7 7 3 0,sI 6 y3,sI 5 (IntKind.wrap .i64 ((IntKind.wrap .i64 (1 * 2 ^ min (((IntKind.wrap .u64 x1) : Int)).toNat (IntKind.bits .i64))) - 1)),sA 2 2 2 0],[(7,(zF.row v9)),(2,(CV.frzRow (zJ.row x0)))]⟩ ?_
 rw [h11]
 refine mA zY [(32,[]),(33,[]),(34,[]),(35,[]),(36,[]),(37,[]),(38,[]),(39,[]),(40,[]),(41,[]),(42,[]),(43,[])] 0 [⟨[],3,65,66⟩,⟨[],3,62,63⟩,⟨[],3,60,61⟩,⟨[15],3,53,54⟩,⟨[8,15],3,46,47⟩,⟨[2,8,15],3,41,42⟩] fun cx => ?_
 exact mE zY [84,6,5,2] [2]
theorem zH8 (n : Nat) (y3 : Int) (v9 : zF) (x1 : Int) (x0 : zJ) (v13 : zF) (h11 : (decide (y3 > 0)) = true) (ev13 : (idx x0.Rows (IntKind.wrap .i64 (y3 - 1))) = some v13) (cx : Cx) : AT Try.prog cx (rg Try.f175 8) [⟨[],3,65,66⟩,⟨[],3,62,63⟩,⟨[],3,60,61⟩,⟨[15],3,53,54⟩,⟨[8,15],3,46,47⟩,⟨[2,8,15],3,41,42⟩] 15 [28,27,26,25,24,23,22,21,20,19,18,17,16,15,14,13,12,11,10,9,8,7,6,5,4,3,2,1,0] ⟨100,0,[sB 69 false,sI 66 v9.Bare,sA 65 7 3 2,sI 63 v9.Members,sA 62 7 3 1,sI 61 v9.Bare,sA 60 7 3 2,sI 54 v9.Bare,sA 53 7 3 2,sI 47 v9.Members,sA 46 7 3 1,sI 42 v9.Id,sA 41 7 3 0,sA 7 7 3 0,sI 6 y3,sI 5 (IntKind.wrap .i64 ((IntKind.wrap .i64 (1 * 2 ^ min (((IntKind.wrap .u64 x1) : Int)).toNat (IntKind.bits .i64))) - 1)),sA 2 2 2 0],[(7,(zF.row v9)),(2,(CV.frzRow (zJ.row x0)))]⟩ (fun s => s = ⟨100,0,[sB 84 (decide (v13.Id ≥ v9.Id)),sI 6 y3,sI 5 (IntKind.wrap .i64 ((IntKind.wrap .i64 (1 * 2 ^ min (((IntKind.wrap .u64 x1) : Int)).toNat (IntKind.bits .i64))) - 1)),sA 2 2 2 0],[(2,(CV.frzRow (zJ.row x0)))]⟩) := by
 refine mA zY [(29,[]),(30,[]),(31,[])] 12 [⟨[],3,65,66⟩,⟨[],3,62,63⟩,⟨[],3,60,61⟩,⟨[15],3,53,54⟩,⟨[8,15],3,46,47⟩,⟨[2,8,15],3,41,42⟩] fun cx => ?_
 refine sA_ 0x126f060c600000000e4 132 ⟨100,0,[sB 72 (decide (y3 > 0)),sB 69 false,sI 66 v9.Bare,sA 65 7 3 2,sI 63 v9.Members,sA 62 7 3 1,sI 61 v9.Bare,sA 60 7 3 2,sI 54 v9.Bare,sA 53 7 3 2,sI 47 v9.Members,sA 46 7 3 1,sI 42 v9.Id,sA 41 7 3 0,sA 7 7 3 0,sI 6 y3,sI 5 (IntKind.wrap .i64 ((IntKind.wrap .i64 (1 * 2 ^ min (((IntKind.wrap .u64 x1) : Int)).toNat (IntKind.bits .i64))) - 1)),sA 2 2 2 0],[(7,(zF.row v9)),(2,(CV.frzRow (zJ.row x0)))]⟩ ?_
 rw [h11]
 refine mA zY [(32,[]),(33,[]),(34,[]),(35,[])] 8 [⟨[],37,73,74⟩,⟨[],3,65,66⟩,⟨[],3,62,63⟩,⟨[],3,60,61⟩,⟨[15],3,53,54⟩,⟨[8,15],3,46,47⟩,⟨[2,8,15],3,41,42⟩] fun cx => ?_
 refine iN zY 36 zF.row ev13 fun cx => ?_
 refine mA zY [(37,[]),(38,[]),(39,[]),(40,[]),(41,[]),(42,[]),(43,[])] 0 [⟨[],3,80,81⟩,⟨[],37,73,74⟩,⟨[],3,65,66⟩,⟨[],3,62,63⟩,⟨[],3,60,61⟩,⟨[15],3,53,54⟩,⟨[8,15],3,46,47⟩,⟨[2,8,15],3,41,42⟩] fun cx => ?_
 exact mE zY [84,6,5,2] [2]
theorem zH9 (n : Nat) (v9 : zF) (y3 : Int) (x1 : Int) (x0 : zJ) (cx : Cx) : AT Try.prog cx (rg Try.f175 8) [⟨[],3,65,66⟩,⟨[],3,62,63⟩,⟨[],3,60,61⟩,⟨[15],3,53,54⟩,⟨[8,15],3,46,47⟩,⟨[2,8,15],3,41,42⟩] 15 [28,27,26,25,24,23,22,21,20,19,18,17,16,15,14,13,12,11,10,9,8,7,6,5,4,3,2,1,0] ⟨100,0,[sB 69 true,sI 66 v9.Bare,sA 65 7 3 2,sI 63 v9.Members,sA 62 7 3 1,sI 61 v9.Bare,sA 60 7 3 2,sI 54 v9.Bare,sA 53 7 3 2,sI 47 v9.Members,sA 46 7 3 1,sI 42 v9.Id,sA 41 7 3 0,sA 7 7 3 0,sI 6 y3,sI 5 (IntKind.wrap .i64 ((IntKind.wrap .i64 (1 * 2 ^ min (((IntKind.wrap .u64 x1) : Int)).toNat (IntKind.bits .i64))) - 1)),sA 2 2 2 0],[(7,(zF.row v9)),(2,(CV.frzRow (zJ.row x0)))]⟩ (fun s => s = ⟨100,0,[sB 84 true,sI 6 y3,sI 5 (IntKind.wrap .i64 ((IntKind.wrap .i64 (1 * 2 ^ min (((IntKind.wrap .u64 x1) : Int)).toNat (IntKind.bits .i64))) - 1)),sA 2 2 2 0],[(2,(CV.frzRow (zJ.row x0)))]⟩) := by
 refine mA zY [(29,[]),(30,[]),(31,[]),(32,[]),(33,[]),(34,[]),(35,[]),(36,[]),(37,[]),(38,[]),(39,[]),(40,[]),(41,[]),(42,[]),(43,[])] 0 [⟨[],3,65,66⟩,⟨[],3,62,63⟩,⟨[],3,60,61⟩,⟨[15],3,53,54⟩,⟨[8,15],3,46,47⟩,⟨[2,8,15],3,41,42⟩] fun cx => ?_
 exact mE zY [84,6,5,2] [2]
theorem zJ2 (n : Nat) (x0 : zJ) (x1 : Int) (r : Bool) (H : qk n x0 x1 = some r) : zI Try.prog 175 [.val true (CV.frzRow (zJ.row x0)),.val false [.lit (.int .i64 x1)]] [.val false [.lit (.bool r)]] [] := by
 refine cW Try.func175 (fun g d => sl [g 0,sl [g 1] (cn 24 (sl [g 2] .ret) .skip),g 3,sl [g 4] (.block 0 (.loop (sl [sl [g 5] (cn 33 .skip (.exit 0)),.block 1 (sl [g 7,d 8] (cn 84 (sl [g 9] .ret) .skip))] (g 6)))),sl [g 10] (.block 2 (.loop (sl [sl [g 11] (cn 89 .skip (.exit 2)),.block 3 (sl [d 13] (cn 99 (sl [g 14] .ret) .skip))] (g 12)))),g 15] .ret) [.tmp 4] fun cx => ?_
 unfold qk at H
 refine gA 2 6 4 ?_
 refine tS ?_
 refine rA 1 ?_
 obtain ⟨r1,er1,H⟩ := bs H
 refine vA [.rd,.rd,.rd] (zQ n x1 1 6 r1 er1) ?_
 refine lA 2 ?_
 refine sL 4102 4 ⟨100,0,[sB 12 (!r1),sA 2 2 2 0,sI 1 x1],[(2,(CV.frzRow (zJ.row x0)))]⟩ ?_
 cases h1 : (!r1)
 ·have H := zG h1 H
  refine lA 2 ?_
  refine kF x0.Pv intRow ?_
  refine lA 4 ?_
  refine sL 524294 4 ⟨100,0,[sB 19 ((x0.Pv.length : Int) != x1),sA 2 2 2 0,sI 1 x1],[(2,(CV.frzRow (zJ.row x0)))]⟩ ?_
  cases h2 : ((x0.Pv.length : Int) != x1)
  ·have H := zG h2 H
   refine lA 2 ?_
   refine kF x0.Rows zF.row ?_
   refine uA 2 16777222 4 ?_
   obtain ⟨h3,H⟩ | ⟨h3,H⟩ := bC H
   ·refine nA h3 ?_
    refine tK ?_
    refine rA 2 ?_
    obtain ⟨hg2,H⟩ := gs H
    refine LAt.binC tOk (op := .shl) (t := 3) (ty := 103) (ty' := 3) (x := (.const (.int .i64 1))) (y := (.tmp 26)) (d := 27) (g := none) (.int .i64 1) (.int .u64 (IntKind.wrap .u64 x1)) (.int .i64 (IntKind.wrap .i64 (1 * 2 ^ min (((IntKind.wrap .u64 x1) : Int)).toNat (IntKind.bits .i64)))) _ kr kr kr kr kr (φ := (0 : Int) ≤ (IntKind.wrap .u64 x1)) kr (of_decide_eq_true hg2) rfl ?_
    refine uA 2 36 4 ?_
    refine tS ?_
    refine gA 1 100 4 ?_
    obtain ⟨o8,eo8,Ho8⟩ := bs H
    clear H
    refine Tr.mid (ι := Unit) (fun v => ⟨100,0,[sA 2 2 2 0],[(2,(CV.frzRow (zJ.row x0)))]⟩) (fun v => JN n x0 = some r) ?_ ?_
    ·refine tB ?_
     refine Tr.loop (ι := Nat × (Int)) (fun v => ⟨100,0,[sI 6 v.2,sI 5 (IntKind.wrap .i64 ((IntKind.wrap .i64 (1 * 2 ^ min (((IntKind.wrap .u64 x1) : Int)).toNat (IntKind.bits .i64))) - 1)),sA 2 2 2 0],[(2,(CV.frzRow (zJ.row x0)))]⟩) (fun v => ZY n v.1 x0 x1 v.2 = some o8) (fun v => v.1) (n,0) eo8 (St.sub_of [6,5,2] [2] kr) ?_
     rintro ⟨mo8,y3⟩ H
     have H : ZY n mo8 x0 x1 y3 = some o8 := H
     obtain _ | mo8 := mo8
     ·exact nN H
     rw [ZY] at H
     refine tS ?_
     refine rA 3 ?_
     refine kF x0.Rows zF.row ?_
     refine uA 1 8589934692 4 ?_
     obtain ⟨h6,H⟩ | ⟨h6,H⟩ := bC H
     ·refine nA h6 ?_
      refine Tr.exit ?_
      refine aJ ?_
      obtain rfl := si H
      have H := Ho8
      dsimp only at H
      exact jA () H [2] [2]
     refine tA h6 ?_
     refine tK ?_
     refine tS ?_
     refine tB ?_
     refine rA 3 ?_
     obtain ⟨v9,ev9,H⟩ := bs H
     refine iA zF.row ev9 ?_
     refine uA 3 228 132 ?_
     obtain ⟨r10,er10,H⟩ := bs H
     refine sT ⟨100,0,[sA 7 7 3 0,sI 6 y3,sI 5 (IntKind.wrap .i64 ((IntKind.wrap .i64 (1 * 2 ^ min (((IntKind.wrap .u64 x1) : Int)).toNat (IntKind.bits .i64))) - 1)),sA 2 2 2 0],[(7,(zF.row v9)),(2,(CV.frzRow (zJ.row x0)))]⟩ ?_
     cases h7 : (!r10)
     ·have H := zG h7 H
      obtain ⟨r11,er11,H⟩ := bs H
      refine sT ⟨100,0,[sA 7 7 3 0,sI 6 y3,sI 5 (IntKind.wrap .i64 ((IntKind.wrap .i64 (1 * 2 ^ min (((IntKind.wrap .u64 x1) : Int)).toNat (IntKind.bits .i64))) - 1)),sA 2 2 2 0],[(7,(zF.row v9)),(2,(CV.frzRow (zJ.row x0)))]⟩ ?_
      cases h8 : (!r11)
      ·have H := zG h8 H
       obtain ⟨r12,er12,H⟩ := bs H
       refine sT ⟨100,0,[sA 7 7 3 0,sI 6 y3,sI 5 (IntKind.wrap .i64 ((IntKind.wrap .i64 (1 * 2 ^ min (((IntKind.wrap .u64 x1) : Int)).toNat (IntKind.bits .i64))) - 1)),sA 2 2 2 0],[(7,(zF.row v9)),(2,(CV.frzRow (zJ.row x0)))]⟩ ?_
       cases h9 : (!r12)
       ·have H := zG h9 H
        refine sT ⟨100,0,[sA 7 7 3 0,sI 6 y3,sI 5 (IntKind.wrap .i64 ((IntKind.wrap .i64 (1 * 2 ^ min (((IntKind.wrap .u64 x1) : Int)).toNat (IntKind.bits .i64))) - 1)),sA 2 2 2 0],[(7,(zF.row v9)),(2,(CV.frzRow (zJ.row x0)))]⟩ ?_
        cases h10 : ((IntKind.wrap .i64 (BitVec.ofInt (IntKind.bits .i64) v9.Bare &&& BitVec.ofInt (IntKind.bits .i64) v9.Members).toNat) != v9.Bare)
        ·have H := zG h10 H
         refine sT ⟨100,0,[sA 7 7 3 0,sI 6 y3,sI 5 (IntKind.wrap .i64 ((IntKind.wrap .i64 (1 * 2 ^ min (((IntKind.wrap .u64 x1) : Int)).toNat (IntKind.bits .i64))) - 1)),sA 2 2 2 0],[(7,(zF.row v9)),(2,(CV.frzRow (zJ.row x0)))]⟩ ?_
         cases h11 : (decide (y3 > 0))
         ·have H := zG h11 H
          refine Tr.draws mixed 44 kr ⟨100,0,[sB 84 false,sI 6 y3,sI 5 (IntKind.wrap .i64 ((IntKind.wrap .i64 (1 * 2 ^ min (((IntKind.wrap .u64 x1) : Int)).toNat (IntKind.bits .i64))) - 1)),sA 2 2 2 0],[(2,(CV.frzRow (zJ.row x0)))]⟩ (fun cx => ?_) ?_
          ·refine mA zY [(0,[]),(1,[2,8,15])] 42 [⟨[2,8,15],3,41,42⟩] fun cx => ?_
           refine mC zY 2 ?_
           refine vA [.rd,.rd,.rd] (zQ n v9.Id 1 99 r10 er10) ?_
           refine fA ?_
           refine mA zY [(3,[]),(4,[])] 39 [⟨[2,8,15],3,41,42⟩] fun cx => ?_
           refine sA_ 41781441855716 132 ⟨100,0,[sB 45 (!r10),sI 42 v9.Id,sA 41 7 3 0,sA 7 7 3 0,sI 6 y3,sI 5 (IntKind.wrap .i64 ((IntKind.wrap .i64 (1 * 2 ^ min (((IntKind.wrap .u64 x1) : Int)).toNat (IntKind.bits .i64))) - 1)),sA 2 2 2 0],[(7,(zF.row v9)),(2,(CV.frzRow (zJ.row x0)))]⟩ ?_
           rw [h7]
           refine mA zY [(5,[]),(6,[8,15]),(7,[])] 36 [⟨[8,15],3,46,47⟩,⟨[2,8,15],3,41,42⟩] fun cx => ?_
           refine mC zY 8 ?_
           refine vA [.rd,.rd,.rd] (zQ n v9.Members 0 (IntKind.wrap .i64 ((IntKind.wrap .i64 (1 * 2 ^ min (((IntKind.wrap .u64 x1) : Int)).toNat (IntKind.bits .i64))) - 1)) r11 er11) ?_
           refine fA ?_
           refine mA zY [(9,[]),(10,[]),(11,[])] 32 [⟨[8,15],3,46,47⟩,⟨[2,8,15],3,41,42⟩] fun cx => ?_
           refine sA_ 4721302929670372 132 ⟨100,0,[sB 52 (!r11),sI 47 v9.Members,sA 46 7 3 1,sI 42 v9.Id,sA 41 7 3 0,sA 7 7 3 0,sI 6 y3,sI 5 (IntKind.wrap .i64 ((IntKind.wrap .i64 (1 * 2 ^ min (((IntKind.wrap .u64 x1) : Int)).toNat (IntKind.bits .i64))) - 1)),sA 2 2 2 0],[(7,(zF.row v9)),(2,(CV.frzRow (zJ.row x0)))]⟩ ?_
           rw [h8]
           refine mA zY [(12,[]),(13,[15]),(14,[])] 29 [⟨[15],3,53,54⟩,⟨[8,15],3,46,47⟩,⟨[2,8,15],3,41,42⟩] fun cx => ?_
           refine mC zY 15 ?_
           refine vA [.rd,.rd,.rd] (zQ n v9.Bare 0 (IntKind.wrap .i64 ((IntKind.wrap .i64 (1 * 2 ^ min (((IntKind.wrap .u64 x1) : Int)).toNat (IntKind.bits .i64))) - 1)) r12 er12) ?_
           refine fA ?_
           refine mA zY [(16,[]),(17,[]),(18,[])] 25 [⟨[15],3,53,54⟩,⟨[8,15],3,46,47⟩,⟨[2,8,15],3,41,42⟩] fun cx => ?_
           refine sA_ 0x860c600000000e4 132 ⟨100,0,[sB 59 (!r12),sI 54 v9.Bare,sA 53 7 3 2,sI 47 v9.Members,sA 46 7 3 1,sI 42 v9.Id,sA 41 7 3 0,sA 7 7 3 0,sI 6 y3,sI 5 (IntKind.wrap .i64 ((IntKind.wrap .i64 (1 * 2 ^ min (((IntKind.wrap .u64 x1) : Int)).toNat (IntKind.bits .i64))) - 1)),sA 2 2 2 0],[(7,(zF.row v9)),(2,(CV.frzRow (zJ.row x0)))]⟩ ?_
           rw [h9]
           refine mA zY [(19,[]),(20,[]),(21,[]),(22,[]),(23,[]),(24,[]),(25,[]),(26,[]),(27,[]),(28,[])] 15 [⟨[],3,65,66⟩,⟨[],3,62,63⟩,⟨[],3,60,61⟩,⟨[15],3,53,54⟩,⟨[8,15],3,46,47⟩,⟨[2,8,15],3,41,42⟩] fun cx => ?_
           refine sA_ 0x26f060c600000000e4 132 ⟨100,0,[sB 69 ((IntKind.wrap .i64 (BitVec.ofInt (IntKind.bits .i64) v9.Bare &&& BitVec.ofInt (IntKind.bits .i64) v9.Members).toNat) != v9.Bare),sI 66 v9.Bare,sA 65 7 3 2,sI 63 v9.Members,sA 62 7 3 1,sI 61 v9.Bare,sA 60 7 3 2,sI 54 v9.Bare,sA 53 7 3 2,sI 47 v9.Members,sA 46 7 3 1,sI 42 v9.Id,sA 41 7 3 0,sA 7 7 3 0,sI 6 y3,sI 5 (IntKind.wrap .i64 ((IntKind.wrap .i64 (1 * 2 ^ min (((IntKind.wrap .u64 x1) : Int)).toNat (IntKind.bits .i64))) - 1)),sA 2 2 2 0],[(7,(zF.row v9)),(2,(CV.frzRow (zJ.row x0)))]⟩ ?_
           rw [h10]
           exact zH7 n y3 v9 x1 x0 h11 cx
          refine nB_ ?_
          refine tK ?_
          refine eA 3 100 4 ?_
          exact jB mo8 (IntKind.wrap .i64 (y3 + 1)) H [6,5,2] [2]
         have H := zH h11 H
         obtain ⟨v13,ev13,H⟩ := bs H
         refine Tr.draws mixed 44 kr ⟨100,0,[sB 84 (decide (v13.Id ≥ v9.Id)),sI 6 y3,sI 5 (IntKind.wrap .i64 ((IntKind.wrap .i64 (1 * 2 ^ min (((IntKind.wrap .u64 x1) : Int)).toNat (IntKind.bits .i64))) - 1)),sA 2 2 2 0],[(2,(CV.frzRow (zJ.row x0)))]⟩ (fun cx => ?_) ?_
         ·refine mA zY [(0,[]),(1,[2,8,15])] 42 [⟨[2,8,15],3,41,42⟩] fun cx => ?_
          refine mC zY 2 ?_
          refine vA [.rd,.rd,.rd] (zQ n v9.Id 1 99 r10 er10) ?_
          refine fA ?_
          refine mA zY [(3,[]),(4,[])] 39 [⟨[2,8,15],3,41,42⟩] fun cx => ?_
          refine sA_ 41781441855716 132 ⟨100,0,[sB 45 (!r10),sI 42 v9.Id,sA 41 7 3 0,sA 7 7 3 0,sI 6 y3,sI 5 (IntKind.wrap .i64 ((IntKind.wrap .i64 (1 * 2 ^ min (((IntKind.wrap .u64 x1) : Int)).toNat (IntKind.bits .i64))) - 1)),sA 2 2 2 0],[(7,(zF.row v9)),(2,(CV.frzRow (zJ.row x0)))]⟩ ?_
          rw [h7]
          refine mA zY [(5,[]),(6,[8,15]),(7,[])] 36 [⟨[8,15],3,46,47⟩,⟨[2,8,15],3,41,42⟩] fun cx => ?_
          refine mC zY 8 ?_
          refine vA [.rd,.rd,.rd] (zQ n v9.Members 0 (IntKind.wrap .i64 ((IntKind.wrap .i64 (1 * 2 ^ min (((IntKind.wrap .u64 x1) : Int)).toNat (IntKind.bits .i64))) - 1)) r11 er11) ?_
          refine fA ?_
          refine mA zY [(9,[]),(10,[]),(11,[])] 32 [⟨[8,15],3,46,47⟩,⟨[2,8,15],3,41,42⟩] fun cx => ?_
          refine sA_ 4721302929670372 132 ⟨100,0,[sB 52 (!r11),sI 47 v9.Members,sA 46 7 3 1,sI 42 v9.Id,sA 41 7 3 0,sA 7 7 3 0,sI 6 y3,sI 5 (IntKind.wrap .i64 ((IntKind.wrap .i64 (1 * 2 ^ min (((IntKind.wrap .u64 x1) : Int)).toNat (IntKind.bits .i64))) - 1)),sA 2 2 2 0],[(7,(zF.row v9)),(2,(CV.frzRow (zJ.row x0)))]⟩ ?_
          rw [h8]
          refine mA zY [(12,[]),(13,[15]),(14,[])] 29 [⟨[15],3,53,54⟩,⟨[8,15],3,46,47⟩,⟨[2,8,15],3,41,42⟩] fun cx => ?_
          refine mC zY 15 ?_
          refine vA [.rd,.rd,.rd] (zQ n v9.Bare 0 (IntKind.wrap .i64 ((IntKind.wrap .i64 (1 * 2 ^ min (((IntKind.wrap .u64 x1) : Int)).toNat (IntKind.bits .i64))) - 1)) r12 er12) ?_
          refine fA ?_
          refine mA zY [(16,[]),(17,[]),(18,[])] 25 [⟨[15],3,53,54⟩,⟨[8,15],3,46,47⟩,⟨[2,8,15],3,41,42⟩] fun cx => ?_
          refine sA_ 0x860c600000000e4 132 ⟨100,0,[sB 59 (!r12),sI 54 v9.Bare,sA 53 7 3 2,sI 47 v9.Members,sA 46 7 3 1,sI 42 v9.Id,sA 41 7 3 0,sA 7 7 3 0,sI 6 y3,sI 5 (IntKind.wrap .i64 ((IntKind.wrap .i64 (1 * 2 ^ min (((IntKind.wrap .u64 x1) : Int)).toNat (IntKind.bits .i64))) - 1)),sA 2 2 2 0],[(7,(zF.row v9)),(2,(CV.frzRow (zJ.row x0)))]⟩ ?_
          rw [h9]
          refine mA zY [(19,[]),(20,[]),(21,[]),(22,[]),(23,[]),(24,[]),(25,[]),(26,[]),(27,[]),(28,[])] 15 [⟨[],3,65,66⟩,⟨[],3,62,63⟩,⟨[],3,60,61⟩,⟨[15],3,53,54⟩,⟨[8,15],3,46,47⟩,⟨[2,8,15],3,41,42⟩] fun cx => ?_
          refine sA_ 0x26f060c600000000e4 132 ⟨100,0,[sB 69 ((IntKind.wrap .i64 (BitVec.ofInt (IntKind.bits .i64) v9.Bare &&& BitVec.ofInt (IntKind.bits .i64) v9.Members).toNat) != v9.Bare),sI 66 v9.Bare,sA 65 7 3 2,sI 63 v9.Members,sA 62 7 3 1,sI 61 v9.Bare,sA 60 7 3 2,sI 54 v9.Bare,sA 53 7 3 2,sI 47 v9.Members,sA 46 7 3 1,sI 42 v9.Id,sA 41 7 3 0,sA 7 7 3 0,sI 6 y3,sI 5 (IntKind.wrap .i64 ((IntKind.wrap .i64 (1 * 2 ^ min (((IntKind.wrap .u64 x1) : Int)).toNat (IntKind.bits .i64))) - 1)),sA 2 2 2 0],[(7,(zF.row v9)),(2,(CV.frzRow (zJ.row x0)))]⟩ ?_
          rw [h10]
          exact zH8 n y3 v9 x1 x0 v13 h11 ev13 cx
         refine sT ⟨100,0,[sB 84 (decide (v13.Id ≥ v9.Id)),sI 6 y3,sI 5 (IntKind.wrap .i64 ((IntKind.wrap .i64 (1 * 2 ^ min (((IntKind.wrap .u64 x1) : Int)).toNat (IntKind.bits .i64))) - 1)),sA 2 2 2 0],[(2,(CV.frzRow (zJ.row x0)))]⟩ ?_
         cases h12 : (decide (v13.Id ≥ v9.Id))
         ·have H := zG h12 H
          refine nB_ ?_
          refine tK ?_
          refine eA 3 100 4 ?_
          exact jB mo8 (IntKind.wrap .i64 (y3 + 1)) H [6,5,2] [2]
         have H := zH h12 H
         refine tB_ ?_
         refine gA 1 16 0 ?_
         refine te ?_
         obtain rfl := si H
         have H := Ho8
         dsimp only at H
         exact fF H
        have H := zH h10 H
        refine Tr.draws mixed 44 kr ⟨100,0,[sB 84 true,sI 6 y3,sI 5 (IntKind.wrap .i64 ((IntKind.wrap .i64 (1 * 2 ^ min (((IntKind.wrap .u64 x1) : Int)).toNat (IntKind.bits .i64))) - 1)),sA 2 2 2 0],[(2,(CV.frzRow (zJ.row x0)))]⟩ (fun cx => ?_) ?_
        ·refine mA zY [(0,[]),(1,[2,8,15])] 42 [⟨[2,8,15],3,41,42⟩] fun cx => ?_
         refine mC zY 2 ?_
         refine vA [.rd,.rd,.rd] (zQ n v9.Id 1 99 r10 er10) ?_
         refine fA ?_
         refine mA zY [(3,[]),(4,[])] 39 [⟨[2,8,15],3,41,42⟩] fun cx => ?_
         refine sA_ 41781441855716 132 ⟨100,0,[sB 45 (!r10),sI 42 v9.Id,sA 41 7 3 0,sA 7 7 3 0,sI 6 y3,sI 5 (IntKind.wrap .i64 ((IntKind.wrap .i64 (1 * 2 ^ min (((IntKind.wrap .u64 x1) : Int)).toNat (IntKind.bits .i64))) - 1)),sA 2 2 2 0],[(7,(zF.row v9)),(2,(CV.frzRow (zJ.row x0)))]⟩ ?_
         rw [h7]
         refine mA zY [(5,[]),(6,[8,15]),(7,[])] 36 [⟨[8,15],3,46,47⟩,⟨[2,8,15],3,41,42⟩] fun cx => ?_
         refine mC zY 8 ?_
         refine vA [.rd,.rd,.rd] (zQ n v9.Members 0 (IntKind.wrap .i64 ((IntKind.wrap .i64 (1 * 2 ^ min (((IntKind.wrap .u64 x1) : Int)).toNat (IntKind.bits .i64))) - 1)) r11 er11) ?_
         refine fA ?_
         refine mA zY [(9,[]),(10,[]),(11,[])] 32 [⟨[8,15],3,46,47⟩,⟨[2,8,15],3,41,42⟩] fun cx => ?_
         refine sA_ 4721302929670372 132 ⟨100,0,[sB 52 (!r11),sI 47 v9.Members,sA 46 7 3 1,sI 42 v9.Id,sA 41 7 3 0,sA 7 7 3 0,sI 6 y3,sI 5 (IntKind.wrap .i64 ((IntKind.wrap .i64 (1 * 2 ^ min (((IntKind.wrap .u64 x1) : Int)).toNat (IntKind.bits .i64))) - 1)),sA 2 2 2 0],[(7,(zF.row v9)),(2,(CV.frzRow (zJ.row x0)))]⟩ ?_
         rw [h8]
         refine mA zY [(12,[]),(13,[15]),(14,[])] 29 [⟨[15],3,53,54⟩,⟨[8,15],3,46,47⟩,⟨[2,8,15],3,41,42⟩] fun cx => ?_
         refine mC zY 15 ?_
         refine vA [.rd,.rd,.rd] (zQ n v9.Bare 0 (IntKind.wrap .i64 ((IntKind.wrap .i64 (1 * 2 ^ min (((IntKind.wrap .u64 x1) : Int)).toNat (IntKind.bits .i64))) - 1)) r12 er12) ?_
         refine fA ?_
         refine mA zY [(16,[]),(17,[]),(18,[])] 25 [⟨[15],3,53,54⟩,⟨[8,15],3,46,47⟩,⟨[2,8,15],3,41,42⟩] fun cx => ?_
         refine sA_ 0x860c600000000e4 132 ⟨100,0,[sB 59 (!r12),sI 54 v9.Bare,sA 53 7 3 2,sI 47 v9.Members,sA 46 7 3 1,sI 42 v9.Id,sA 41 7 3 0,sA 7 7 3 0,sI 6 y3,sI 5 (IntKind.wrap .i64 ((IntKind.wrap .i64 (1 * 2 ^ min (((IntKind.wrap .u64 x1) : Int)).toNat (IntKind.bits .i64))) - 1)),sA 2 2 2 0],[(7,(zF.row v9)),(2,(CV.frzRow (zJ.row x0)))]⟩ ?_
         rw [h9]
         refine mA zY [(19,[]),(20,[]),(21,[]),(22,[]),(23,[]),(24,[]),(25,[]),(26,[]),(27,[]),(28,[])] 15 [⟨[],3,65,66⟩,⟨[],3,62,63⟩,⟨[],3,60,61⟩,⟨[15],3,53,54⟩,⟨[8,15],3,46,47⟩,⟨[2,8,15],3,41,42⟩] fun cx => ?_
         refine sA_ 0x26f060c600000000e4 132 ⟨100,0,[sB 69 ((IntKind.wrap .i64 (BitVec.ofInt (IntKind.bits .i64) v9.Bare &&& BitVec.ofInt (IntKind.bits .i64) v9.Members).toNat) != v9.Bare),sI 66 v9.Bare,sA 65 7 3 2,sI 63 v9.Members,sA 62 7 3 1,sI 61 v9.Bare,sA 60 7 3 2,sI 54 v9.Bare,sA 53 7 3 2,sI 47 v9.Members,sA 46 7 3 1,sI 42 v9.Id,sA 41 7 3 0,sA 7 7 3 0,sI 6 y3,sI 5 (IntKind.wrap .i64 ((IntKind.wrap .i64 (1 * 2 ^ min (((IntKind.wrap .u64 x1) : Int)).toNat (IntKind.bits .i64))) - 1)),sA 2 2 2 0],[(7,(zF.row v9)),(2,(CV.frzRow (zJ.row x0)))]⟩ ?_
         rw [h10]
         exact zH9 n v9 y3 x1 x0 cx
        refine tB_ ?_
        refine gA 1 16 0 ?_
        refine te ?_
        obtain rfl := si H
        have H := Ho8
        dsimp only at H
        exact fF H
       have H := zH h9 H
       refine Tr.draws mixed 44 kr ⟨100,0,[sB 84 true,sI 6 y3,sI 5 (IntKind.wrap .i64 ((IntKind.wrap .i64 (1 * 2 ^ min (((IntKind.wrap .u64 x1) : Int)).toNat (IntKind.bits .i64))) - 1)),sA 2 2 2 0],[(2,(CV.frzRow (zJ.row x0)))]⟩ (fun cx => ?_) ?_
       ·refine mA zY [(0,[]),(1,[2,8,15])] 42 [⟨[2,8,15],3,41,42⟩] fun cx => ?_
        refine mC zY 2 ?_
        refine vA [.rd,.rd,.rd] (zQ n v9.Id 1 99 r10 er10) ?_
        refine fA ?_
        refine mA zY [(3,[]),(4,[])] 39 [⟨[2,8,15],3,41,42⟩] fun cx => ?_
        refine sA_ 41781441855716 132 ⟨100,0,[sB 45 (!r10),sI 42 v9.Id,sA 41 7 3 0,sA 7 7 3 0,sI 6 y3,sI 5 (IntKind.wrap .i64 ((IntKind.wrap .i64 (1 * 2 ^ min (((IntKind.wrap .u64 x1) : Int)).toNat (IntKind.bits .i64))) - 1)),sA 2 2 2 0],[(7,(zF.row v9)),(2,(CV.frzRow (zJ.row x0)))]⟩ ?_
        rw [h7]
        refine mA zY [(5,[]),(6,[8,15]),(7,[])] 36 [⟨[8,15],3,46,47⟩,⟨[2,8,15],3,41,42⟩] fun cx => ?_
        refine mC zY 8 ?_
        refine vA [.rd,.rd,.rd] (zQ n v9.Members 0 (IntKind.wrap .i64 ((IntKind.wrap .i64 (1 * 2 ^ min (((IntKind.wrap .u64 x1) : Int)).toNat (IntKind.bits .i64))) - 1)) r11 er11) ?_
        refine fA ?_
        refine mA zY [(9,[]),(10,[]),(11,[])] 32 [⟨[8,15],3,46,47⟩,⟨[2,8,15],3,41,42⟩] fun cx => ?_
        refine sA_ 4721302929670372 132 ⟨100,0,[sB 52 (!r11),sI 47 v9.Members,sA 46 7 3 1,sI 42 v9.Id,sA 41 7 3 0,sA 7 7 3 0,sI 6 y3,sI 5 (IntKind.wrap .i64 ((IntKind.wrap .i64 (1 * 2 ^ min (((IntKind.wrap .u64 x1) : Int)).toNat (IntKind.bits .i64))) - 1)),sA 2 2 2 0],[(7,(zF.row v9)),(2,(CV.frzRow (zJ.row x0)))]⟩ ?_
        rw [h8]
        refine mA zY [(12,[]),(13,[15]),(14,[])] 29 [⟨[15],3,53,54⟩,⟨[8,15],3,46,47⟩,⟨[2,8,15],3,41,42⟩] fun cx => ?_
        refine mC zY 15 ?_
        refine vA [.rd,.rd,.rd] (zQ n v9.Bare 0 (IntKind.wrap .i64 ((IntKind.wrap .i64 (1 * 2 ^ min (((IntKind.wrap .u64 x1) : Int)).toNat (IntKind.bits .i64))) - 1)) r12 er12) ?_
        refine fA ?_
        refine mA zY [(16,[]),(17,[]),(18,[])] 25 [⟨[15],3,53,54⟩,⟨[8,15],3,46,47⟩,⟨[2,8,15],3,41,42⟩] fun cx => ?_
        refine sA_ 0x860c600000000e4 132 ⟨100,0,[sB 59 (!r12),sI 54 v9.Bare,sA 53 7 3 2,sI 47 v9.Members,sA 46 7 3 1,sI 42 v9.Id,sA 41 7 3 0,sA 7 7 3 0,sI 6 y3,sI 5 (IntKind.wrap .i64 ((IntKind.wrap .i64 (1 * 2 ^ min (((IntKind.wrap .u64 x1) : Int)).toNat (IntKind.bits .i64))) - 1)),sA 2 2 2 0],[(7,(zF.row v9)),(2,(CV.frzRow (zJ.row x0)))]⟩ ?_
        rw [h9]
        refine mA zY [(19,[]),(20,[]),(21,[]),(22,[]),(23,[]),(24,[]),(25,[]),(26,[]),(27,[]),(28,[]),(29,[]),(30,[]),(31,[]),(32,[]),(33,[]),(34,[]),(35,[]),(36,[]),(37,[]),(38,[]),(39,[]),(40,[]),(41,[]),(42,[]),(43,[])] 0 [⟨[15],3,53,54⟩,⟨[8,15],3,46,47⟩,⟨[2,8,15],3,41,42⟩] fun cx => ?_
        exact mE zY [84,6,5,2] [2]
       refine tB_ ?_
       refine gA 1 16 0 ?_
       refine te ?_
       obtain rfl := si H
       have H := Ho8
       dsimp only at H
       exact fF H
      have H := zH h8 H
      refine Tr.draws mixed 44 kr ⟨100,0,[sB 84 true,sI 6 y3,sI 5 (IntKind.wrap .i64 ((IntKind.wrap .i64 (1 * 2 ^ min (((IntKind.wrap .u64 x1) : Int)).toNat (IntKind.bits .i64))) - 1)),sA 2 2 2 0],[(2,(CV.frzRow (zJ.row x0)))]⟩ (fun cx => ?_) ?_
      ·refine mA zY [(0,[]),(1,[2,8])] 42 [⟨[2,8],3,41,42⟩] fun cx => ?_
       refine mC zY 2 ?_
       refine vA [.rd,.rd,.rd] (zQ n v9.Id 1 99 r10 er10) ?_
       refine fA ?_
       refine mA zY [(3,[]),(4,[])] 39 [⟨[2,8],3,41,42⟩] fun cx => ?_
       refine sA_ 41781441855716 132 ⟨100,0,[sB 45 (!r10),sI 42 v9.Id,sA 41 7 3 0,sA 7 7 3 0,sI 6 y3,sI 5 (IntKind.wrap .i64 ((IntKind.wrap .i64 (1 * 2 ^ min (((IntKind.wrap .u64 x1) : Int)).toNat (IntKind.bits .i64))) - 1)),sA 2 2 2 0],[(7,(zF.row v9)),(2,(CV.frzRow (zJ.row x0)))]⟩ ?_
       rw [h7]
       refine mA zY [(5,[]),(6,[8]),(7,[])] 36 [⟨[8],3,46,47⟩,⟨[2,8],3,41,42⟩] fun cx => ?_
       refine mC zY 8 ?_
       refine vA [.rd,.rd,.rd] (zQ n v9.Members 0 (IntKind.wrap .i64 ((IntKind.wrap .i64 (1 * 2 ^ min (((IntKind.wrap .u64 x1) : Int)).toNat (IntKind.bits .i64))) - 1)) r11 er11) ?_
       refine fA ?_
       refine mA zY [(9,[]),(10,[]),(11,[])] 32 [⟨[8],3,46,47⟩,⟨[2,8],3,41,42⟩] fun cx => ?_
       refine sA_ 4721302929670372 132 ⟨100,0,[sB 52 (!r11),sI 47 v9.Members,sA 46 7 3 1,sI 42 v9.Id,sA 41 7 3 0,sA 7 7 3 0,sI 6 y3,sI 5 (IntKind.wrap .i64 ((IntKind.wrap .i64 (1 * 2 ^ min (((IntKind.wrap .u64 x1) : Int)).toNat (IntKind.bits .i64))) - 1)),sA 2 2 2 0],[(7,(zF.row v9)),(2,(CV.frzRow (zJ.row x0)))]⟩ ?_
       rw [h8]
       refine mA zY [(12,[]),(13,[]),(14,[]),(15,[]),(16,[]),(17,[]),(18,[]),(19,[]),(20,[]),(21,[]),(22,[]),(23,[]),(24,[]),(25,[]),(26,[]),(27,[]),(28,[]),(29,[]),(30,[]),(31,[]),(32,[]),(33,[]),(34,[]),(35,[]),(36,[]),(37,[]),(38,[]),(39,[]),(40,[]),(41,[]),(42,[]),(43,[])] 0 [⟨[8],3,46,47⟩,⟨[2,8],3,41,42⟩] fun cx => ?_
       exact mE zY [84,6,5,2] [2]
      refine tB_ ?_
      refine gA 1 16 0 ?_
      refine te ?_
      obtain rfl := si H
      have H := Ho8
      dsimp only at H
      exact fF H
     have H := zH h7 H
     refine Tr.draws mixed 44 kr ⟨100,0,[sB 84 true,sI 6 y3,sI 5 (IntKind.wrap .i64 ((IntKind.wrap .i64 (1 * 2 ^ min (((IntKind.wrap .u64 x1) : Int)).toNat (IntKind.bits .i64))) - 1)),sA 2 2 2 0],[(2,(CV.frzRow (zJ.row x0)))]⟩ (fun cx => ?_) ?_
     ·refine mA zY [(0,[]),(1,[2])] 42 [⟨[2],3,41,42⟩] fun cx => ?_
      refine mC zY 2 ?_
      refine vA [.rd,.rd,.rd] (zQ n v9.Id 1 99 r10 er10) ?_
      refine fA ?_
      refine mA zY [(3,[]),(4,[])] 39 [⟨[2],3,41,42⟩] fun cx => ?_
      refine sA_ 41781441855716 132 ⟨100,0,[sB 45 (!r10),sI 42 v9.Id,sA 41 7 3 0,sA 7 7 3 0,sI 6 y3,sI 5 (IntKind.wrap .i64 ((IntKind.wrap .i64 (1 * 2 ^ min (((IntKind.wrap .u64 x1) : Int)).toNat (IntKind.bits .i64))) - 1)),sA 2 2 2 0],[(7,(zF.row v9)),(2,(CV.frzRow (zJ.row x0)))]⟩ ?_
      rw [h7]
      refine mA zY [(5,[]),(6,[]),(7,[]),(8,[]),(9,[]),(10,[]),(11,[]),(12,[]),(13,[]),(14,[]),(15,[]),(16,[]),(17,[]),(18,[]),(19,[]),(20,[]),(21,[]),(22,[]),(23,[]),(24,[]),(25,[]),(26,[]),(27,[]),(28,[]),(29,[]),(30,[]),(31,[]),(32,[]),(33,[]),(34,[]),(35,[]),(36,[]),(37,[]),(38,[]),(39,[]),(40,[]),(41,[]),(42,[]),(43,[])] 0 [⟨[2],3,41,42⟩] fun cx => ?_
      exact mE zY [84,6,5,2] [2]
     refine tB_ ?_
     refine gA 1 16 0 ?_
     refine te ?_
     obtain rfl := si H
     have H := Ho8
     dsimp only at H
     exact fF H
    rintro _ H
    have H : (JN n x0) = some r := H
    unfold JN at H
    refine tS ?_
    refine gA 1 260 4 ?_
    obtain ⟨o5,eo5,Ho5⟩ := bs H
    clear H
    refine Tr.mid (ι := Unit) (fun v => ⟨100,0,[],[]⟩) (fun v => zAh n = some r) ?_ ?_
    ·refine tB ?_
     refine Tr.loop (ι := Nat × (Int)) (fun v => ⟨100,0,[sI 8 v.2,sA 2 2 2 0],[(2,(CV.frzRow (zJ.row x0)))]⟩) (fun v => Z3 n v.1 x0 v.2 = some o5) (fun v => v.1) (n,0) eo5 (St.sub_of [8,2] [2] kr) ?_
     rintro ⟨mo5,y4⟩ H
     have H : Z3 n mo5 x0 y4 = some o5 := H
     obtain _ | mo5 := mo5
     ·exact nN H
     rw [Z3] at H
     refine tS ?_
     refine rA 3 ?_
     refine kF x0.Pv intRow ?_
     refine uA 1 0x20000000000000000000104 4 ?_
     obtain ⟨h4,H⟩ | ⟨h4,H⟩ := bC H
     ·refine nA h4 ?_
      refine Tr.exit ?_
      refine aJ ?_
      obtain rfl := si H
      have H := Ho5
      dsimp only at H
      exact jA () H [] []
     refine tA h4 ?_
     refine tK ?_
     refine tS ?_
     refine tB ?_
     obtain ⟨v6,ev6,H⟩ := bs H
     obtain ⟨r7,er7,H⟩ := bs H
     refine Tr.draws mixed 8 kr ⟨100,0,[sB 99 (decide (r7 < 0)),sI 8 y4,sA 2 2 2 0],[(2,(CV.frzRow (zJ.row x0)))]⟩ (fun cx => ?_) ?_
     ·refine aA [(0,[6]),(1,[]),(2,[6]),(3,[])] 4 [⟨[6],38,93,94⟩,⟨[6],40,2,92⟩] fun cx => ?_
      refine aI tOk 4 38 0 94 95 96 none ⟨(.box 2),[(0,0)],1,false,1,(CV.frzEs (x0.Pv.map intRow))⟩ y4 [cI v6] _ kr kr kr kr kr kr rfl (zEI ev6) rfl (fun cx => ?_)
      refine aA [(5,[])] 2 [⟨[6],38,93,94⟩,⟨[6],40,2,92⟩] fun cx => ?_
      refine bA 6 ?_
      refine vA [.rd,.rd] (zKw n x0 v6 r7 er7) ?_
      refine fA ?_
      refine aA [(7,[])] 0 [⟨[6],38,93,94⟩,⟨[6],40,2,92⟩] fun cx => ?_
      exact eE [99,8,2] [2]
     refine sT ⟨100,0,[sB 99 (decide (r7 < 0)),sI 8 y4,sA 2 2 2 0],[(2,(CV.frzRow (zJ.row x0)))]⟩ ?_
     cases h5 : (decide (r7 < 0))
     ·have H := zG h5 H
      refine nB_ ?_
      refine tK ?_
      refine eA 3 260 4 ?_
      exact jB mo5 (IntKind.wrap .i64 (y4 + 1)) H [8,2] [2]
     have H := zH h5 H
     refine tB_ ?_
     refine gA 1 16 0 ?_
     refine te ?_
     obtain rfl := si H
     have H := Ho5
     dsimp only at H
     exact fF H
    rintro _ H
    have H : (zAh n) = some r := H
    unfold zAh at H
    refine gA 1 16 0 ?_
    exact te (fT H)
   refine tA h3 ?_
   refine gA 1 16 0 ?_
   exact te (fF H)
  have H := zH h2 H
  refine uA 5 16777222 4 ?_
  refine tB_ ?_
  refine gA 1 16 0 ?_
  exact te (fF H)
 have H := zH h1 H
 refine uA 12 16777222 4 ?_
 refine tB_ ?_
 refine gA 1 16 0 ?_
 exact te (fF H)
def YI (n : Nat) (x0 : zA) : Option (Bool) :=
  ((zP n x0.Tk 0 1000000).bind fun r1 => (bif r1 then ((zP n x0.Pa 0 1000000).bind fun r2 => (bif r2 then ((zP n x0.Wo 0 1000000).bind fun r3 => (bif r3 then ((zP n x0.Dr 0 1000000).bind fun r4 => (bif r4 then ((zP n x0.Ve 0 1000000).bind fun r5 => (some r5)) else (some false))) else (some false))) else (some false))) else (some false)))
theorem zIA (n : Nat) (x0 : zA) (r : Bool) (H : YI n x0 = some r) : zI Try.prog 182 [.val true (CV.frzRow (zA.row x0))] [.val false [.lit (.bool r)]] [] := by
 refine cW Try.func182 (fun g d => sl [g 0,g 1] .ret) [.tmp 2] fun cx => ?_
 unfold YI at H
 refine gA 2 2 2 ?_
 refine rA 2 ?_
 obtain ⟨r1,er1,H⟩ := bs H
 refine vA [.rd,.rd,.rd] (zQ n x0.Tk 0 1000000 r1 er1) ?_
 refine lA 1 ?_
 refine sL 66 2 ⟨26,0,[sB 6 r1,sA 1 1 11 0],[(1,(CV.frzRow (zA.row x0)))]⟩ ?_
 cases h1 : r1
 ·have H := zG h1 H
  refine uA 20 4 0 ?_
  exact te (fF H)
 have H := zH h1 H
 refine lA 2 ?_
 obtain ⟨r2,er2,H⟩ := bs H
 refine vA [.rd,.rd,.rd] (zQ n x0.Pa 0 1000000 r2 er2) ?_
 refine lA 2 ?_
 refine sL 2050 2 ⟨26,0,[sB 11 r2,sA 1 1 11 0],[(1,(CV.frzRow (zA.row x0)))]⟩ ?_
 cases h2 : r2
 ·have H := zG h2 H
  refine uA 15 4 0 ?_
  exact te (fF H)
 have H := zH h2 H
 refine lA 2 ?_
 obtain ⟨r3,er3,H⟩ := bs H
 refine vA [.rd,.rd,.rd] (zQ n x0.Wo 0 1000000 r3 er3) ?_
 refine lA 2 ?_
 refine sL 65538 2 ⟨26,0,[sB 16 r3,sA 1 1 11 0],[(1,(CV.frzRow (zA.row x0)))]⟩ ?_
 cases h3 : r3
 ·have H := zG h3 H
  refine uA 10 4 0 ?_
  exact te (fF H)
 have H := zH h3 H
 refine lA 2 ?_
 obtain ⟨r4,er4,H⟩ := bs H
 refine vA [.rd,.rd,.rd] (zQ n x0.Dr 0 1000000 r4 er4) ?_
 refine lA 2 ?_
 refine sL 2097154 2 ⟨26,0,[sB 21 r4,sA 1 1 11 0],[(1,(CV.frzRow (zA.row x0)))]⟩ ?_
 cases h4 : r4
 ·have H := zG h4 H
  refine uA 5 4 0 ?_
  exact te (fF H)
 have H := zH h4 H
 refine lA 2 ?_
 obtain ⟨r5,er5,H⟩ := bs H
 refine vA [.rd,.rd,.rd] (zQ n x0.Ve 0 1000000 r5 er5) ?_
 refine uA 2 4 0 ?_
 exact te (fJ [(false,[cB r5])] H)
def QW (n : Nat) (x0 : zA) : Option (Bool) :=
  ((zP n x0.Id 1 99).bind fun r2 => (bif r2 then (bif (decide ((x0.Name.size : Int) ≤ 10)) then ((zP n (x0.Ps.length : Int) 1 6).bind fun r3 => (bif r3 then ((ZV n x0.F).bind fun r4 => (bif r4 then ((qk n x0.V (x0.Ps.length : Int)).bind fun r5 => (bif r5 then ((YI n x0).bind fun r6 => (some r6)) else (some false))) else (some false))) else (some false))) else (some false)) else (some false)))
def zu (n : Nat) : Nat → zA → Int → Option ((Unit) ⊕ (Bool))
  | 0,_,_ => none
  | mo7 + 1,x0,y1 => (bif (decide (y1 < (x0.Ps.length : Int))) then ((idx x0.Ps y1).bind fun v8 => ((zx n v8).bind fun r9 => (bif (!r9) then (some (Sum.inr false)) else (zu n mo7 x0 (IntKind.wrap .i64 (y1 + 1)))))) else (some (Sum.inl ())))
def zT (n : Nat) (x0 : zA) : Option (Bool) :=
  ((zu n n x0 0).bind fun o => match o with | .inl _ => (QW n x0) | .inr r => some r)
theorem zCm (n : Nat) (x0 : zA) (r : Bool) (H : zT n x0 = some r) : zI Try.prog 161 [.val true (CV.frzRow (zA.row x0))] [.val false [.lit (.bool r)]] [] := by
 refine cW Try.func161 (fun g d => sl [g 0,sl [g 1] (.block 0 (.loop (sl [sl [g 2] (cn 8 .skip (.exit 0)),.block 1 (sl [g 4] (cn 17 (sl [g 5] .ret) .skip))] (g 3)))),g 6] .ret) [.tmp 2] fun cx => ?_
 unfold zT at H
 refine gA 2 2 2 ?_
 refine tS ?_
 refine gA 1 10 2 ?_
 obtain ⟨o7,eo7,Ho7⟩ := bs H
 clear H
 refine Tr.mid (ι := Unit) (fun v => ⟨50,0,[sA 1 1 11 0],[(1,(CV.frzRow (zA.row x0)))]⟩) (fun v => QW n x0 = some r) ?_ ?_
 ·refine tB ?_
  refine Tr.loop (ι := Nat × (Int)) (fun v => ⟨50,0,[sI 3 v.2,sA 1 1 11 0],[(1,(CV.frzRow (zA.row x0)))]⟩) (fun v => zu n v.1 x0 v.2 = some o7) (fun v => v.1) (n,0) eo7 (St.sub_of [3,1] [1] kr) ?_
  rintro ⟨mo7,y1⟩ H
  have H : zu n mo7 x0 y1 = some o7 := H
  obtain _ | mo7 := mo7
  ·exact nN H
  rw [zu] at H
  refine tS ?_
  refine rA 3 ?_
  refine kF x0.Ps Pt.row ?_
  refine uA 1 266 2 ?_
  obtain ⟨h6,H⟩ | ⟨h6,H⟩ := bC H
  ·refine nA h6 ?_
   refine Tr.exit ?_
   refine aJ ?_
   obtain rfl := si H
   have H := Ho7
   dsimp only at H
   exact jA () H [1] [1]
  refine tA h6 ?_
  refine tK ?_
  refine tS ?_
  refine tB ?_
  refine rA 3 ?_
  obtain ⟨v8,ev8,H⟩ := bs H
  refine iA Pt.row ev8 ?_
  refine lA 1 ?_
  obtain ⟨r9,er9,H⟩ := bs H
  refine vA [.rd] (zLb n v8 r9 er9) ?_
  refine uA 1 131082 2 ?_
  obtain ⟨h7,H⟩ | ⟨h7,H⟩ := bC H
  ·refine nA h7 ?_
   refine tK ?_
   refine eA 3 10 2 ?_
   exact jB mo7 (IntKind.wrap .i64 (y1 + 1)) H [3,1] [1]
  refine tA h7 ?_
  refine gA 1 4 0 ?_
  refine te ?_
  obtain rfl := si H
  have H := Ho7
  dsimp only at H
  exact fF H
 rintro _ H
 have H : (QW n x0) = some r := H
 unfold QW at H
 refine rA 2 ?_
 obtain ⟨r2,er2,H⟩ := bs H
 refine vA [.rd,.rd,.rd] (zQ n x0.Id 1 99 r2 er2) ?_
 refine lA 1 ?_
 refine sL 2097154 2 ⟨50,0,[sB 21 r2,sA 1 1 11 0],[(1,(CV.frzRow (zA.row x0)))]⟩ ?_
 cases h1 : r2
 ·have H := zG h1 H
  refine uA 29 4 0 ?_
  exact te (fF H)
 have H := zH h1 H
 refine lA 6 ?_
 refine sL 134217730 2 ⟨50,0,[sB 27 (decide ((x0.Name.size : Int) ≤ 10)),sA 1 1 11 0],[(1,(CV.frzRow (zA.row x0)))]⟩ ?_
 cases h2 : (decide ((x0.Name.size : Int) ≤ 10))
 ·have H := zG h2 H
  refine uA 23 4 0 ?_
  exact te (fF H)
 have H := zH h2 H
 refine lA 2 ?_
 refine kF x0.Ps Pt.row ?_
 obtain ⟨r3,er3,H⟩ := bs H
 refine vA [.rd,.rd,.rd] (zQ n (x0.Ps.length : Int) 1 6 r3 er3) ?_
 refine lA 2 ?_
 refine sL 8589934594 2 ⟨50,0,[sB 33 r3,sA 1 1 11 0],[(1,(CV.frzRow (zA.row x0)))]⟩ ?_
 cases h3 : r3
 ·have H := zG h3 H
  refine uA 17 4 0 ?_
  exact te (fF H)
 have H := zH h3 H
 refine lA 2 ?_
 obtain ⟨r4,er4,H⟩ := bs H
 refine vA [.rd] (zKv n x0.F r4 er4) ?_
 refine lA 2 ?_
 refine sL 274877906946 2 ⟨50,0,[sB 38 r4,sA 1 1 11 0],[(1,(CV.frzRow (zA.row x0)))]⟩ ?_
 cases h4 : r4
 ·have H := zG h4 H
  refine uA 12 4 0 ?_
  exact te (fF H)
 have H := zH h4 H
 refine lA 4 ?_
 refine kF x0.Ps Pt.row ?_
 obtain ⟨r5,er5,H⟩ := bs H
 refine vA [.rd,.rd] (zJ2 n x0.V (x0.Ps.length : Int) r5 er5) ?_
 refine lA 2 ?_
 refine sL 70368744177666 2 ⟨50,0,[sB 46 r5,sA 1 1 11 0],[(1,(CV.frzRow (zA.row x0)))]⟩ ?_
 cases h5 : r5
 ·have H := zG h5 H
  refine uA 4 4 0 ?_
  exact te (fF H)
 have H := zH h5 H
 refine lA 1 ?_
 obtain ⟨r6,er6,H⟩ := bs H
 refine vA [.rd] (zIA n x0 r6 er6) ?_
 refine uA 2 4 0 ?_
 exact te (fJ [(false,[cB r6])] H)
def Q8 (n : Nat) (x0 : Net) : Option (Bool) :=
  ((zP n (x0.Bs.length : Int) 1 6).bind fun r2 => (some r2))
def YA (n : Nat) (k : (Int → Option ((Unit) ⊕ (Bool)))) (y1 : Int) : Option ((Unit) ⊕ (Bool)) :=
  (k (IntKind.wrap .i64 (y1 + 1)))
def ql (n : Nat) : Nat → Net → Int → Int → Option ((Unit) ⊕ (Bool))
  | 0,_,_,_ => none
  | mo8 + 1,x0,y1,y7 => ((idx x0.Bs y1).bind fun v9 => (bif (decide (y7 < (v9.Ps.length : Int))) then ((idx x0.Bs y1).bind fun v10 => ((idx v10.Ps y7).bind fun v11 => (bif v11.Has then ((Zt n x0 y1 y7).bind fun r12 => (bif (r12 == 0) then (some (Sum.inr false)) else (ql n mo8 x0 y1 (IntKind.wrap .i64 (y7 + 1))))) else (ql n mo8 x0 y1 (IntKind.wrap .i64 (y7 + 1)))))) else (some (Sum.inl ()))))
def Q9 (n : Nat) (k : (Int → Option ((Unit) ⊕ (Bool)))) (x0 : Net) (y1 : Int) : Option ((Unit) ⊕ (Bool)) :=
  ((ql n n x0 y1 0).bind fun o => match o with | .inl _ => (YA n k y1) | .inr r => some (Sum.inr r))
def qu (n : Nat) : Nat → Net → Int → Int → Option ((Unit) ⊕ (Bool))
  | 0,_,_,_ => none
  | mo13 + 1,x0,y1,y6 => (bif (decide (y6 < y1)) then ((idx x0.Bs y6).bind fun v14 => ((idx x0.Bs y1).bind fun v15 => (bif (v14.Id == v15.Id) then (some (Sum.inr false)) else (qu n mo13 x0 y1 (IntKind.wrap .i64 (y6 + 1)))))) else (some (Sum.inl ())))
def zi (n : Nat) : Nat → Net → Int → Option ((Unit) ⊕ (Bool))
  | 0,_,_ => none
  | mo3 + 1,x0,y1 => (bif (decide (y1 < (x0.Bs.length : Int))) then ((idx x0.Bs y1).bind fun v4 => ((zT n v4).bind fun r5 => (bif (!r5) then (some (Sum.inr false)) else ((qu n n x0 y1 0).bind fun o => match o with | .inl _ => (Q9 n (fun v => zi n mo3 x0 v) x0 y1) | .inr r => some (Sum.inr r))))) else (some (Sum.inl ())))
def Yi (n : Nat) (x0 : Net) : Option (Bool) :=
  ((zi n n x0 0).bind fun o => match o with | .inl _ => (Q8 n x0) | .inr r => some r)
def zM6 : Tab := ⟨13,[0,1,0,6,8,16,0,64,0,384,512,1024,2080],[0,1,0,6,8,16,0,64,0,384,512,1024,2080],[0,1,0,7,15,31,0,64,0,448,960,1984,4095]⟩
theorem zEE : zk (rg Try.f185 9) zM6 = true := kr
theorem zHW (n : Nat) (x0 : Net) (r : Bool) (H : Yi n x0 = some r) : zI Try.prog 185 [.val true (CV.frzRow (Net.row x0))] [.val false [.lit (.bool r)]] [] := by
 refine cW Try.func185 (fun g d => sl [g 0,sl [g 1] (.block 0 (.loop (sl [sl [g 2] (cn 10 .skip (.exit 0)),.block 1 (sl [sl [g 4] (cn 19 (sl [g 5] .ret) .skip),sl [g 6] (.block 2 (.loop (sl [sl [g 7] (cn 22 .skip (.exit 2)),.block 3 (sl [d 9] (cn 37 (sl [g 10] .ret) .skip))] (g 8)))),g 11] (.block 4 (.loop (sl [sl [g 12] (cn 46 .skip (.exit 4)),.block 5 (sl [g 14] (cn 65 (sl [g 15] .ret) .skip))] (g 13)))))] (g 3)))),g 16] .ret) [.tmp 2] fun cx => ?_
 unfold Yi at H
 refine gA 2 2 2 ?_
 refine tS ?_
 refine gA 1 10 2 ?_
 obtain ⟨o3,eo3,Ho3⟩ := bs H
 clear H
 refine Tr.mid (ι := Unit) (fun v => ⟨70,0,[sA 1 1 3 0],[(1,(CV.frzRow (Net.row x0)))]⟩) (fun v => Q8 n x0 = some r) ?_ ?_
 ·refine tB ?_
  refine Tr.loop (ι := Nat × (Int)) (fun v => ⟨70,0,[sI 3 v.2,sA 1 1 3 0],[(1,(CV.frzRow (Net.row x0)))]⟩) (fun v => zi n v.1 x0 v.2 = some o3) (fun v => v.1) (n,0) eo3 (St.sub_of [3,1] [1] kr) ?_
  rintro ⟨mo3,y1⟩ H
  have H : zi n mo3 x0 y1 = some o3 := H
  obtain _ | mo3 := mo3
  ·exact nN H
  rw [zi] at H
  refine tS ?_
  refine rA 3 ?_
  refine kF x0.Bs zA.row ?_
  refine uA 1 1034 2 ?_
  obtain ⟨h1,H⟩ | ⟨h1,H⟩ := bC H
  ·refine nA h1 ?_
   refine Tr.exit ?_
   refine aJ ?_
   obtain rfl := si H
   have H := Ho3
   dsimp only at H
   exact jA () H [1] [1]
  refine tA h1 ?_
  refine tK ?_
  refine tS ?_
  refine tB ?_
  refine tS ?_
  refine rA 3 ?_
  obtain ⟨v4,ev4,H⟩ := bs H
  refine iA zA.row ev4 ?_
  refine lA 1 ?_
  obtain ⟨r5,er5,H⟩ := bs H
  refine vA [.rd] (zCm n v4 r5 er5) ?_
  refine uA 1 524298 2 ?_
  obtain ⟨h2,H⟩ | ⟨h2,H⟩ := bC H
  ·refine nA h2 ?_
   refine tK ?_
   refine tS ?_
   refine gA 1 26 2 ?_
   obtain ⟨o13,eo13,Ho13⟩ := bs H
   clear H
   refine Tr.mid (ι := Unit) (fun v => ⟨70,0,[sI 3 y1,sA 1 1 3 0],[(1,(CV.frzRow (Net.row x0)))]⟩) (fun v => Q9 n (fun v => zi n mo3 x0 v) x0 y1 = some o3) ?_ ?_
   ·refine tB ?_
    refine Tr.loop (ι := Nat × (Int)) (fun v => ⟨70,0,[sI 4 v.2,sI 3 y1,sA 1 1 3 0],[(1,(CV.frzRow (Net.row x0)))]⟩) (fun v => qu n v.1 x0 y1 v.2 = some o13) (fun v => v.1) (n,0) eo13 (St.sub_of [4,3,1] [1] kr) ?_
    rintro ⟨mo13,y6⟩ H
    have H : qu n mo13 x0 y1 y6 = some o13 := H
    obtain _ | mo13 := mo13
    ·exact nN H
    rw [qu] at H
    refine tS ?_
    refine gA 3 4194330 2 ?_
    obtain ⟨h6,H⟩ | ⟨h6,H⟩ := bC H
    ·refine nA h6 ?_
     refine Tr.exit ?_
     refine aJ ?_
     obtain rfl := si H
     have H := Ho13
     dsimp only at H
     exact jA () H [3,1] [1]
    refine tA h6 ?_
    refine tK ?_
    refine tS ?_
    refine tB ?_
    obtain ⟨v14,ev14,H⟩ := bs H
    obtain ⟨v15,ev15,H⟩ := bs H
    refine Tr.draws mixed 13 kr ⟨70,0,[sB 37 (v14.Id == v15.Id),sI 4 y6,sI 3 y1,sA 1 1 3 0],[(1,(CV.frzRow (Net.row x0)))]⟩ (fun cx => ?_) ?_
    ·refine mA zEE [(0,[]),(1,[]),(2,[])] 10 [⟨[],53,25,26⟩] fun cx => ?_
     refine iN zEE 3 zA.row ev14 fun cx => ?_
     refine mA zEE [(4,[]),(5,[]),(6,[]),(7,[]),(8,[])] 4 [⟨[],53,31,32⟩,⟨[],53,25,26⟩] fun cx => ?_
     refine iN zEE 9 zA.row ev15 fun cx => ?_
     refine mA zEE [(10,[]),(11,[]),(12,[])] 0 [⟨[],53,31,32⟩,⟨[],53,25,26⟩] fun cx => ?_
     exact mE zEE [37,4,3,1] [1]
    refine sT ⟨70,0,[sB 37 (v14.Id == v15.Id),sI 4 y6,sI 3 y1,sA 1 1 3 0],[(1,(CV.frzRow (Net.row x0)))]⟩ ?_
    cases h7 : (v14.Id == v15.Id)
    ·have H := zG h7 H
     refine nB_ ?_
     refine tK ?_
     refine eA 3 26 2 ?_
     exact jB mo13 (IntKind.wrap .i64 (y6 + 1)) H [4,3,1] [1]
    have H := zH h7 H
    refine tB_ ?_
    refine gA 1 4 0 ?_
    refine te ?_
    obtain rfl := si H
    have H := Ho13
    dsimp only at H
    obtain rfl := si H
    have H := Ho3
    dsimp only at H
    exact fF H
   rintro _ H
   have H : (Q9 n (fun v => zi n mo3 x0 v) x0 y1) = some o3 := H
   unfold Q9 at H
   refine gA 1 42 2 ?_
   obtain ⟨o8,eo8,Ho8⟩ := bs H
   clear H
   refine Tr.mid (ι := Unit) (fun v => ⟨70,0,[sI 3 y1,sA 1 1 3 0],[(1,(CV.frzRow (Net.row x0)))]⟩) (fun v => YA n (fun v => zi n mo3 x0 v) y1 = some o3) ?_ ?_
   ·refine tB ?_
    refine Tr.loop (ι := Nat × (Int)) (fun v => ⟨70,0,[sI 5 v.2,sI 3 y1,sA 1 1 3 0],[(1,(CV.frzRow (Net.row x0)))]⟩) (fun v => ql n v.1 x0 y1 v.2 = some o8) (fun v => v.1) (n,0) eo8 (St.sub_of [5,3,1] [1] kr) ?_
    rintro ⟨mo8,y7⟩ H
    have H : ql n mo8 x0 y1 y7 = some o8 := H
    obtain _ | mo8 := mo8
    ·exact nN H
    rw [ql] at H
    refine tS ?_
    refine rA 4 ?_
    obtain ⟨v9,ev9,H⟩ := bs H
    refine iA zA.row ev9 ?_
    refine lA 2 ?_
    refine kF v9.Ps Pt.row ?_
    refine uA 1 70368744177706 2 ?_
    obtain ⟨h3,H⟩ | ⟨h3,H⟩ := bC H
    ·refine nA h3 ?_
     refine Tr.exit ?_
     refine aJ ?_
     obtain rfl := si H
     have H := Ho8
     dsimp only at H
     exact jA () H [3,1] [1]
    refine tA h3 ?_
    refine tK ?_
    refine tS ?_
    refine tB ?_
    refine rA 3 ?_
    obtain ⟨v10,ev10,H⟩ := bs H
    refine iA zA.row ev10 ?_
    refine lA 3 ?_
    obtain ⟨v11,ev11,H⟩ := bs H
    refine iA Pt.row ev11 ?_
    refine lA 3 ?_
    refine sL 0x80000000000002a 2 ⟨70,0,[sB 59 v11.Has,sI 5 y7,sI 3 y1,sA 1 1 3 0],[(1,(CV.frzRow (Net.row x0)))]⟩ ?_
    cases h4 : v11.Has
    ·have H := zG h4 H
     refine uA 6 0x2000000000000002a 2 ?_
     refine nB_ ?_
     refine tK ?_
     refine eA 3 42 2 ?_
     exact jB mo8 (IntKind.wrap .i64 (y7 + 1)) H [5,3,1] [1]
    have H := zH h4 H
    refine lA 3 ?_
    obtain ⟨r12,er12,H⟩ := bs H
    refine vA [.rd,.rd,.rd] (JR n x0 y1 y7 r12 er12) ?_
    refine uA 2 0x2000000000000002a 2 ?_
    obtain ⟨h5,H⟩ | ⟨h5,H⟩ := bC H
    ·refine nA h5 ?_
     refine tK ?_
     refine eA 3 42 2 ?_
     exact jB mo8 (IntKind.wrap .i64 (y7 + 1)) H [5,3,1] [1]
    refine tA h5 ?_
    refine gA 1 4 0 ?_
    refine te ?_
    obtain rfl := si H
    have H := Ho8
    dsimp only at H
    obtain rfl := si H
    have H := Ho3
    dsimp only at H
    exact fF H
   rintro _ H
   have H : (YA n (fun v => zi n mo3 x0 v) y1) = some o3 := H
   unfold YA at H
   refine eA 3 10 2 ?_
   exact jB mo3 (IntKind.wrap .i64 (y1 + 1)) H [3,1] [1]
  refine tA h2 ?_
  refine gA 1 4 0 ?_
  refine te ?_
  obtain rfl := si H
  have H := Ho3
  dsimp only at H
  exact fF H
 rintro _ H
 have H : (Q8 n x0) = some r := H
 unfold Q8 at H
 refine rA 2 ?_
 refine kF x0.Bs zA.row ?_
 obtain ⟨r2,er2,H⟩ := bs H
 refine vA [.rd,.rd,.rd] (zQ n (x0.Bs.length : Int) 1 6 r2 er2) ?_
 refine uA 1 4 0 ?_
 exact te (fJ [(false,[cB r2])] H)
def JP (n : Nat) (x0 : Net) (x1 : Int) (x2 : Int) : Option (Bool) :=
  ((zP n x1 0 (IntKind.wrap .i64 ((x0.Bs.length : Int) - 1))).bind fun r1 => (bif r1 then ((idx x0.Bs x1).bind fun v2 => ((zP n x2 0 (IntKind.wrap .i64 ((v2.Ps.length : Int) - 1))).bind fun r3 => (bif r3 then ((Zt n x0 x1 x2).bind fun r4 => (some (r4 == 1))) else (some false)))) else (some false)))
theorem zAw (n : Nat) (x0 : Net) (x1 : Int) (x2 : Int) (r : Bool) (H : JP n x0 x1 x2 = some r) : zI Try.prog 186 [.val true (CV.frzRow (Net.row x0)),.val false [.lit (.int .i64 x1)],.val false [.lit (.int .i64 x2)]] [.val false [.lit (.bool r)]] [] := by
 refine cW Try.func186 (fun g d => sl [g 0,g 1] .ret) [.tmp 6] fun cx => ?_
 unfold JP at H
 refine gA 2 14 8 ?_
 refine rA 3 ?_
 refine kF x0.Bs zA.row ?_
 refine lA 1 ?_
 obtain ⟨r1,er1,H⟩ := bs H
 refine vA [.rd,.rd,.rd] (zQ n x1 0 (IntKind.wrap .i64 ((x0.Bs.length : Int) - 1)) r1 er1) ?_
 refine lA 1 ?_
 refine sL 8206 8 ⟨32,0,[sB 13 r1,sA 3 3 3 0,sI 1 x1,sI 2 x2],[(3,(CV.frzRow (Net.row x0)))]⟩ ?_
 cases h1 : r1
 ·have H := zG h1 H
  refine uA 19 64 0 ?_
  exact te (fF H)
 have H := zH h1 H
 refine lA 4 ?_
 obtain ⟨v2,ev2,H⟩ := bs H
 refine iA zA.row ev2 ?_
 refine lA 2 ?_
 refine kF v2.Ps Pt.row ?_
 refine lA 1 ?_
 obtain ⟨r3,er3,H⟩ := bs H
 refine vA [.rd,.rd,.rd] (zQ n x2 0 (IntKind.wrap .i64 ((v2.Ps.length : Int) - 1)) r3 er3) ?_
 refine lA 2 ?_
 refine sL 33554446 8 ⟨32,0,[sB 25 r3,sA 3 3 3 0,sI 1 x1,sI 2 x2],[(3,(CV.frzRow (Net.row x0)))]⟩ ?_
 cases h2 : r3
 ·have H := zG h2 H
  refine uA 7 64 0 ?_
  exact te (fF H)
 have H := zH h2 H
 refine lA 3 ?_
 obtain ⟨r4,er4,H⟩ := bs H
 refine vA [.rd,.rd,.rd] (JR n x0 x1 x2 r4 er4) ?_
 refine uA 3 64 0 ?_
 exact te (fJ [(false,[cB (r4 == 1)])] H)
def zBA (n : Nat) : Option (Bool) :=
  (some true)
def qE (n : Nat) : Nat → Net → Int → Option ((Unit) ⊕ (Bool))
  | 0,_,_ => none
  | mo4 + 1,x0,y3 => (bif (decide (y3 < (x0.Said.length : Int))) then ((idx x0.Said y3).bind fun v5 => ((zP n v5.Link 0 (IntKind.wrap .i64 ((x0.Ls.length : Int) - 1))).bind fun r6 => (bif (!r6) then (some (Sum.inr false)) else ((idx x0.Said y3).bind fun v7 => ((zl n v7.V).bind fun r8 => (bif (!r8) then (some (Sum.inr false)) else (qE n mo4 x0 (IntKind.wrap .i64 (y3 + 1))))))))) else (some (Sum.inl ())))
def Qv (n : Nat) (x0 : Net) : Option (Bool) :=
  ((qE n n x0 0).bind fun o => match o with | .inl _ => (zBA n) | .inr r => some r)
def qe (n : Nat) : Nat → Net → Int → Option ((Unit) ⊕ (Bool))
  | 0,_,_ => none
  | mo9 + 1,x0,y2 => (bif (decide (y2 < (x0.Ls.length : Int))) then ((idx x0.Ls y2).bind fun v10 => (bif (v10.A == v10.B) then (some (Sum.inr false)) else ((JP n x0 v10.A v10.P).bind fun r11 => (bif (!r11) then (some (Sum.inr false)) else ((JP n x0 v10.B v10.Q).bind fun r12 => (bif (!r12) then (some (Sum.inr false)) else ((idx x0.Bs v10.A).bind fun v13 => ((idx v13.Ps v10.P).bind fun v14 => ((idx x0.Bs v10.B).bind fun v15 => ((idx v15.Ps v10.Q).bind fun v16 => (bif (!(v14.Up == v16.Up)) then (some (Sum.inr false)) else (qe n mo9 x0 (IntKind.wrap .i64 (y2 + 1)))))))))))))) else (some (Sum.inl ())))
def Zr (n : Nat) (x0 : Net) : Option (Bool) :=
  ((Yi n x0).bind fun r1 => (bif (!r1) then (some false) else (bif (decide ((x0.Ls.length : Int) > 9)) then (some false) else (bif (decide ((x0.Said.length : Int) > 40)) then (some false) else ((qe n n x0 0).bind fun o => match o with | .inl _ => (Qv n x0) | .inr r => some r)))))
def zMw : Tab := ⟨50,[0,1,0,4,10,16,32,32,160,32,544,1376,2080,4128,10240,16384,16384,81920,16384,278528,704512,1064960,2113536,5242880,8388608,25165824,8388608,75497472,176160768,276824064,545259520,8388608,2155872256,5377097728,8598323200,17188257792,8388608,68727865344,8388608,274886295552,687203155968,1099520016384,2199031644160,8388608,8796101410816,21990240944128,35184380477440,70368752566272,0x800800800000,281474985099264],[0,1,0,4,10,16,32,32,160,32,544,1376,2080,4128,8192,16384,16384,81920,16384,278528,704512,1064960,2113536,4194304,8388608,25165824,8388608,75497472,176160768,276824064,545259520,8388608,2155872256,5377097728,8598323200,17188257792,8388608,68727865344,8388608,274886295552,687203155968,1099520016384,2199031644160,8388608,8796101410816,21990240944128,35184380477440,70368752566272,0x800800800000,281474985099264],[0,1,0,4,15,31,63,63,191,63,575,2047,4095,8191,16383,32767,32767,98303,32767,294911,1048575,2097151,4194303,8388607,16777215,33554431,16777215,83886079,268435455,536870911,1073741823,16777215,2164260863,8589934591,17179869183,34359738367,16777215,68736253951,16777215,274894684159,0xf000ffffff,2130320556031,4329343811583,16777215,8796109799423,35115669389311,70300041478143,0x7ff000ffffff,0xffffffffffff,562949953421311]⟩
theorem qj : zk (rg Try.f165 7) zMw = true := kr
def zMP : Tab := ⟨22,[0,1,0,6,8,16,0,64,128,256,544,1024,3072,4096,12288,4096,53248,69632,135168,266240,528384,1052672],[0,1,0,6,8,16,0,64,128,256,544,1024,2048,4096,12288,4096,53248,69632,135168,266240,528384,1052672],[0,1,0,7,15,31,0,64,192,448,1023,2047,4095,8191,16383,8191,65535,131071,262143,524287,1048575,2097151]⟩
theorem ZN : zk (rg Try.f165 12) zMP = true := kr
theorem zHT (n : Nat) (x0 : Net) (r : Bool) (H : Zr n x0 = some r) : zI Try.prog 165 [.val true (CV.frzRow (Net.row x0))] [.val false [.lit (.bool r)]] [] := by
 refine cW Try.func165 (fun g d => sl [g 0,sl [g 1] (cn 20 (sl [g 2] .ret) .skip),sl [g 3] (.block 0 (.loop (sl [sl [g 4] (cn 25 .skip (.exit 0)),.block 1 (sl [g 6,d 7] (cn 82 (sl [g 8] .ret) .skip))] (g 5)))),sl [g 9] (.block 2 (.loop (sl [sl [g 10] (cn 87 .skip (.exit 2)),.block 3 (sl [d 12] (cn 111 (sl [g 13] .ret) .skip))] (g 11)))),g 14] .ret) [.tmp 2] fun cx => ?_
 unfold Zr at H
 refine gA 2 2 2 ?_
 refine tS ?_
 refine rA 1 ?_
 obtain ⟨r1,er1,H⟩ := bs H
 refine vA [.rd] (zHW n x0 r1 er1) ?_
 refine lA 2 ?_
 refine sL 514 2 ⟨112,0,[sB 9 (!r1),sA 1 1 3 0],[(1,(CV.frzRow (Net.row x0)))]⟩ ?_
 cases h1 : (!r1)
 ·have H := zG h1 H
  refine lA 2 ?_
  refine kF x0.Ls Link.row ?_
  refine lA 3 ?_
  refine sL 32770 2 ⟨112,0,[sB 15 (decide ((x0.Ls.length : Int) > 9)),sA 1 1 3 0],[(1,(CV.frzRow (Net.row x0)))]⟩ ?_
  cases h2 : (decide ((x0.Ls.length : Int) > 9))
  ·have H := zG h2 H
   refine lA 2 ?_
   refine kF x0.Said Say.row ?_
   refine uA 2 1048578 2 ?_
   obtain ⟨h3,H⟩ | ⟨h3,H⟩ := bC H
   ·refine nA h3 ?_
    refine tK ?_
    refine tS ?_
    refine gA 1 10 2 ?_
    obtain ⟨o9,eo9,Ho9⟩ := bs H
    clear H
    refine Tr.mid (ι := Unit) (fun v => ⟨112,0,[sA 1 1 3 0],[(1,(CV.frzRow (Net.row x0)))]⟩) (fun v => Qv n x0 = some r) ?_ ?_
    ·refine tB ?_
     refine Tr.loop (ι := Nat × (Int)) (fun v => ⟨112,0,[sI 3 v.2,sA 1 1 3 0],[(1,(CV.frzRow (Net.row x0)))]⟩) (fun v => qe n v.1 x0 v.2 = some o9) (fun v => v.1) (n,0) eo9 (St.sub_of [3,1] [1] kr) ?_
     rintro ⟨mo9,y2⟩ H
     have H : qe n mo9 x0 y2 = some o9 := H
     obtain _ | mo9 := mo9
     ·exact nN H
     rw [qe] at H
     refine tS ?_
     refine rA 3 ?_
     refine kF x0.Ls Link.row ?_
     refine uA 1 33554442 2 ?_
     obtain ⟨h7,H⟩ | ⟨h7,H⟩ := bC H
     ·refine nA h7 ?_
      refine Tr.exit ?_
      refine aJ ?_
      obtain rfl := si H
      have H := Ho9
      dsimp only at H
      exact jA () H [1] [1]
     refine tA h7 ?_
     refine tK ?_
     refine tS ?_
     refine tB ?_
     refine rA 3 ?_
     obtain ⟨v10,ev10,H⟩ := bs H
     refine iA Link.row ev10 ?_
     refine uA 3 26 18 ?_
     refine sT ⟨112,0,[sA 4 4 4 0,sI 3 y2,sA 1 1 3 0],[(4,(Link.row v10)),(1,(CV.frzRow (Net.row x0)))]⟩ ?_
     cases h8 : (v10.A == v10.B)
     ·have H := zG h8 H
      obtain ⟨r11,er11,H⟩ := bs H
      refine sT ⟨112,0,[sA 4 4 4 0,sI 3 y2,sA 1 1 3 0],[(4,(Link.row v10)),(1,(CV.frzRow (Net.row x0)))]⟩ ?_
      cases h9 : (!r11)
      ·have H := zG h9 H
       obtain ⟨r12,er12,H⟩ := bs H
       refine sT ⟨112,0,[sA 4 4 4 0,sI 3 y2,sA 1 1 3 0],[(4,(Link.row v10)),(1,(CV.frzRow (Net.row x0)))]⟩ ?_
       cases h10 : (!r12)
       ·have H := zG h10 H
        obtain ⟨v13,ev13,H⟩ := bs H
        obtain ⟨v14,ev14,H⟩ := bs H
        obtain ⟨v15,ev15,H⟩ := bs H
        obtain ⟨v16,ev16,H⟩ := bs H
        refine Tr.draws mixed 50 kr ⟨112,0,[sB 82 (!(v14.Up == v16.Up)),sI 3 y2,sA 1 1 3 0],[(1,(CV.frzRow (Net.row x0)))]⟩ (fun cx => ?_) ?_
        ·refine mA qj [(0,[]),(1,[11,20]),(2,[]),(3,[11,20]),(4,[]),(5,[])] 44 [⟨[11,20],3,35,36⟩,⟨[11,20],3,33,34⟩] fun cx => ?_
         refine sA_ 403726925850 18 ⟨112,0,[sB 38 (v10.A == v10.B),sI 36 v10.B,sA 35 4 4 2,sI 34 v10.A,sA 33 4 4 0,sA 4 4 4 0,sI 3 y2,sA 1 1 3 0],[(4,(Link.row v10)),(1,(CV.frzRow (Net.row x0)))]⟩ ?_
         rw [h8]
         refine mA qj [(6,[11,20]),(7,[]),(8,[11,20]),(9,[]),(10,[11,20])] 39 [⟨[11,20],3,42,43⟩,⟨[11,20],3,40,41⟩,⟨[11,20],76,1,39⟩,⟨[11,20],3,35,36⟩,⟨[11,20],3,33,34⟩] fun cx => ?_
         refine mC qj 11 ?_
         refine vA [.rd,.rd,.rd] (zAw n x0 v10.A v10.P r11 er11) ?_
         refine fA ?_
         refine mA qj [(12,[]),(13,[]),(14,[])] 35 [⟨[11,20],3,42,43⟩,⟨[11,20],3,40,41⟩,⟨[11,20],76,1,39⟩,⟨[11,20],3,35,36⟩,⟨[11,20],3,33,34⟩] fun cx => ?_
         refine sA_ 0x8f9e0000001a 18 ⟨112,0,[sB 47 (!r11),sI 43 v10.P,sA 42 4 4 1,sI 41 v10.A,sA 40 4 4 0,sR 39 1 3 0 3 true,sI 36 v10.B,sA 35 4 4 2,sI 34 v10.A,sA 33 4 4 0,sA 4 4 4 0,sI 3 y2,sA 1 1 3 0],[(4,(Link.row v10)),(1,(CV.frzRow (Net.row x0)))]⟩ ?_
         rw [h9]
         refine mA qj [(15,[20]),(16,[]),(17,[20]),(18,[]),(19,[20])] 30 [⟨[20],3,51,52⟩,⟨[20],3,49,50⟩,⟨[20],76,1,48⟩,⟨[11,20],3,42,43⟩,⟨[11,20],3,40,41⟩,⟨[11,20],76,1,39⟩,⟨[11,20],3,35,36⟩,⟨[11,20],3,33,34⟩] fun cx => ?_
         refine mC qj 20 ?_
         refine vA [.rd,.rd,.rd] (zAw n x0 v10.B v10.Q r12 er12) ?_
         refine fA ?_
         refine mA qj [(21,[]),(22,[]),(23,[])] 26 [⟨[20],3,51,52⟩,⟨[20],3,49,50⟩,⟨[20],76,1,48⟩,⟨[11,20],3,42,43⟩,⟨[11,20],3,40,41⟩,⟨[11,20],76,1,39⟩,⟨[11,20],3,35,36⟩,⟨[11,20],3,33,34⟩] fun cx => ?_
         refine sA_ 80800489595207706 18 ⟨112,0,[sB 56 (!r12),sI 52 v10.Q,sA 51 4 4 3,sI 50 v10.B,sA 49 4 4 2,sR 48 1 3 0 3 true,sI 43 v10.P,sA 42 4 4 1,sI 41 v10.A,sA 40 4 4 0,sR 39 1 3 0 3 true,sI 36 v10.B,sA 35 4 4 2,sI 34 v10.A,sA 33 4 4 0,sA 4 4 4 0,sI 3 y2,sA 1 1 3 0],[(4,(Link.row v10)),(1,(CV.frzRow (Net.row x0)))]⟩ ?_
         rw [h10]
         refine mA qj [(24,[]),(25,[]),(26,[]),(27,[])] 22 [⟨[],3,59,60⟩,⟨[],53,57,58⟩,⟨[20],3,51,52⟩,⟨[20],3,49,50⟩,⟨[20],76,1,48⟩,⟨[11,20],3,42,43⟩,⟨[11,20],3,40,41⟩,⟨[11,20],76,1,39⟩,⟨[11,20],3,35,36⟩,⟨[11,20],3,33,34⟩] fun cx => ?_
         refine iN qj 28 zA.row ev13 fun cx => ?_
         refine mA qj [(29,[]),(30,[]),(31,[]),(32,[])] 17 [⟨[],3,64,65⟩,⟨[],3,59,60⟩,⟨[],53,57,58⟩,⟨[20],3,51,52⟩,⟨[20],3,49,50⟩,⟨[20],76,1,48⟩,⟨[11,20],3,42,43⟩,⟨[11,20],3,40,41⟩,⟨[11,20],76,1,39⟩,⟨[11,20],3,35,36⟩,⟨[11,20],3,33,34⟩] fun cx => ?_
         refine iN qj 33 Pt.row ev14 fun cx => ?_
         refine mA qj [(34,[]),(35,[]),(36,[]),(37,[]),(38,[]),(39,[])] 10 [⟨[],3,71,72⟩,⟨[],53,69,70⟩,⟨[],3,64,65⟩,⟨[],3,59,60⟩,⟨[],53,57,58⟩,⟨[20],3,51,52⟩,⟨[20],3,49,50⟩,⟨[20],76,1,48⟩,⟨[11,20],3,42,43⟩,⟨[11,20],3,40,41⟩,⟨[11,20],76,1,39⟩,⟨[11,20],3,35,36⟩,⟨[11,20],3,33,34⟩] fun cx => ?_
         refine iN qj 40 zA.row ev15 fun cx => ?_
         refine mA qj [(41,[]),(42,[]),(43,[]),(44,[])] 5 [⟨[],3,76,77⟩,⟨[],3,71,72⟩,⟨[],53,69,70⟩,⟨[],3,64,65⟩,⟨[],3,59,60⟩,⟨[],53,57,58⟩,⟨[20],3,51,52⟩,⟨[20],3,49,50⟩,⟨[20],76,1,48⟩,⟨[11,20],3,42,43⟩,⟨[11,20],3,40,41⟩,⟨[11,20],76,1,39⟩,⟨[11,20],3,35,36⟩,⟨[11,20],3,33,34⟩] fun cx => ?_
         refine iN qj 45 Pt.row ev16 fun cx => ?_
         refine mA qj [(46,[]),(47,[]),(48,[]),(49,[])] 0 [⟨[],3,76,77⟩,⟨[],3,71,72⟩,⟨[],53,69,70⟩,⟨[],3,64,65⟩,⟨[],3,59,60⟩,⟨[],53,57,58⟩,⟨[20],3,51,52⟩,⟨[20],3,49,50⟩,⟨[20],76,1,48⟩,⟨[11,20],3,42,43⟩,⟨[11,20],3,40,41⟩,⟨[11,20],76,1,39⟩,⟨[11,20],3,35,36⟩,⟨[11,20],3,33,34⟩] fun cx => ?_
         exact mE qj [82,3,1] [1]
        refine sT ⟨112,0,[sB 82 (!(v14.Up == v16.Up)),sI 3 y2,sA 1 1 3 0],[(1,(CV.frzRow (Net.row x0)))]⟩ ?_
        cases h11 : (!(v14.Up == v16.Up))
        ·have H := zG h11 H
         refine nB_ ?_
         refine tK ?_
         refine eA 3 10 2 ?_
         exact jB mo9 (IntKind.wrap .i64 (y2 + 1)) H [3,1] [1]
        have H := zH h11 H
        refine tB_ ?_
        refine gA 1 4 0 ?_
        refine te ?_
        obtain rfl := si H
        have H := Ho9
        dsimp only at H
        exact fF H
       have H := zH h10 H
       refine Tr.draws mixed 50 kr ⟨112,0,[sB 82 true,sI 3 y2,sA 1 1 3 0],[(1,(CV.frzRow (Net.row x0)))]⟩ (fun cx => ?_) ?_
       ·refine mA qj [(0,[]),(1,[11,20]),(2,[]),(3,[11,20]),(4,[]),(5,[])] 44 [⟨[11,20],3,35,36⟩,⟨[11,20],3,33,34⟩] fun cx => ?_
        refine sA_ 403726925850 18 ⟨112,0,[sB 38 (v10.A == v10.B),sI 36 v10.B,sA 35 4 4 2,sI 34 v10.A,sA 33 4 4 0,sA 4 4 4 0,sI 3 y2,sA 1 1 3 0],[(4,(Link.row v10)),(1,(CV.frzRow (Net.row x0)))]⟩ ?_
        rw [h8]
        refine mA qj [(6,[11,20]),(7,[]),(8,[11,20]),(9,[]),(10,[11,20])] 39 [⟨[11,20],3,42,43⟩,⟨[11,20],3,40,41⟩,⟨[11,20],76,1,39⟩,⟨[11,20],3,35,36⟩,⟨[11,20],3,33,34⟩] fun cx => ?_
        refine mC qj 11 ?_
        refine vA [.rd,.rd,.rd] (zAw n x0 v10.A v10.P r11 er11) ?_
        refine fA ?_
        refine mA qj [(12,[]),(13,[]),(14,[])] 35 [⟨[11,20],3,42,43⟩,⟨[11,20],3,40,41⟩,⟨[11,20],76,1,39⟩,⟨[11,20],3,35,36⟩,⟨[11,20],3,33,34⟩] fun cx => ?_
        refine sA_ 0x8f9e0000001a 18 ⟨112,0,[sB 47 (!r11),sI 43 v10.P,sA 42 4 4 1,sI 41 v10.A,sA 40 4 4 0,sR 39 1 3 0 3 true,sI 36 v10.B,sA 35 4 4 2,sI 34 v10.A,sA 33 4 4 0,sA 4 4 4 0,sI 3 y2,sA 1 1 3 0],[(4,(Link.row v10)),(1,(CV.frzRow (Net.row x0)))]⟩ ?_
        rw [h9]
        refine mA qj [(15,[20]),(16,[]),(17,[20]),(18,[]),(19,[20])] 30 [⟨[20],3,51,52⟩,⟨[20],3,49,50⟩,⟨[20],76,1,48⟩,⟨[11,20],3,42,43⟩,⟨[11,20],3,40,41⟩,⟨[11,20],76,1,39⟩,⟨[11,20],3,35,36⟩,⟨[11,20],3,33,34⟩] fun cx => ?_
        refine mC qj 20 ?_
        refine vA [.rd,.rd,.rd] (zAw n x0 v10.B v10.Q r12 er12) ?_
        refine fA ?_
        refine mA qj [(21,[]),(22,[]),(23,[])] 26 [⟨[20],3,51,52⟩,⟨[20],3,49,50⟩,⟨[20],76,1,48⟩,⟨[11,20],3,42,43⟩,⟨[11,20],3,40,41⟩,⟨[11,20],76,1,39⟩,⟨[11,20],3,35,36⟩,⟨[11,20],3,33,34⟩] fun cx => ?_
        refine sA_ 80800489595207706 18 ⟨112,0,[sB 56 (!r12),sI 52 v10.Q,sA 51 4 4 3,sI 50 v10.B,sA 49 4 4 2,sR 48 1 3 0 3 true,sI 43 v10.P,sA 42 4 4 1,sI 41 v10.A,sA 40 4 4 0,sR 39 1 3 0 3 true,sI 36 v10.B,sA 35 4 4 2,sI 34 v10.A,sA 33 4 4 0,sA 4 4 4 0,sI 3 y2,sA 1 1 3 0],[(4,(Link.row v10)),(1,(CV.frzRow (Net.row x0)))]⟩ ?_
        rw [h10]
        refine mA qj [(24,[]),(25,[]),(26,[]),(27,[]),(28,[]),(29,[]),(30,[]),(31,[]),(32,[]),(33,[]),(34,[]),(35,[]),(36,[]),(37,[]),(38,[]),(39,[]),(40,[]),(41,[]),(42,[]),(43,[]),(44,[]),(45,[]),(46,[]),(47,[]),(48,[]),(49,[])] 0 [⟨[20],3,51,52⟩,⟨[20],3,49,50⟩,⟨[20],76,1,48⟩,⟨[11,20],3,42,43⟩,⟨[11,20],3,40,41⟩,⟨[11,20],76,1,39⟩,⟨[11,20],3,35,36⟩,⟨[11,20],3,33,34⟩] fun cx => ?_
        exact mE qj [82,3,1] [1]
       refine tB_ ?_
       refine gA 1 4 0 ?_
       refine te ?_
       obtain rfl := si H
       have H := Ho9
       dsimp only at H
       exact fF H
      have H := zH h9 H
      refine Tr.draws mixed 50 kr ⟨112,0,[sB 82 true,sI 3 y2,sA 1 1 3 0],[(1,(CV.frzRow (Net.row x0)))]⟩ (fun cx => ?_) ?_
      ·refine mA qj [(0,[]),(1,[11]),(2,[]),(3,[11]),(4,[]),(5,[])] 44 [⟨[11],3,35,36⟩,⟨[11],3,33,34⟩] fun cx => ?_
       refine sA_ 403726925850 18 ⟨112,0,[sB 38 (v10.A == v10.B),sI 36 v10.B,sA 35 4 4 2,sI 34 v10.A,sA 33 4 4 0,sA 4 4 4 0,sI 3 y2,sA 1 1 3 0],[(4,(Link.row v10)),(1,(CV.frzRow (Net.row x0)))]⟩ ?_
       rw [h8]
       refine mA qj [(6,[11]),(7,[]),(8,[11]),(9,[]),(10,[11])] 39 [⟨[11],3,42,43⟩,⟨[11],3,40,41⟩,⟨[11],76,1,39⟩,⟨[11],3,35,36⟩,⟨[11],3,33,34⟩] fun cx => ?_
       refine mC qj 11 ?_
       refine vA [.rd,.rd,.rd] (zAw n x0 v10.A v10.P r11 er11) ?_
       refine fA ?_
       refine mA qj [(12,[]),(13,[]),(14,[])] 35 [⟨[11],3,42,43⟩,⟨[11],3,40,41⟩,⟨[11],76,1,39⟩,⟨[11],3,35,36⟩,⟨[11],3,33,34⟩] fun cx => ?_
       refine sA_ 0x8f9e0000001a 18 ⟨112,0,[sB 47 (!r11),sI 43 v10.P,sA 42 4 4 1,sI 41 v10.A,sA 40 4 4 0,sR 39 1 3 0 3 true,sI 36 v10.B,sA 35 4 4 2,sI 34 v10.A,sA 33 4 4 0,sA 4 4 4 0,sI 3 y2,sA 1 1 3 0],[(4,(Link.row v10)),(1,(CV.frzRow (Net.row x0)))]⟩ ?_
       rw [h9]
       refine mA qj [(15,[]),(16,[]),(17,[]),(18,[]),(19,[]),(20,[]),(21,[]),(22,[]),(23,[]),(24,[]),(25,[]),(26,[]),(27,[]),(28,[]),(29,[]),(30,[]),(31,[]),(32,[]),(33,[]),(34,[]),(35,[]),(36,[]),(37,[]),(38,[]),(39,[]),(40,[]),(41,[]),(42,[]),(43,[]),(44,[]),(45,[]),(46,[]),(47,[]),(48,[]),(49,[])] 0 [⟨[11],3,42,43⟩,⟨[11],3,40,41⟩,⟨[11],76,1,39⟩,⟨[11],3,35,36⟩,⟨[11],3,33,34⟩] fun cx => ?_
       exact mE qj [82,3,1] [1]
      refine tB_ ?_
      refine gA 1 4 0 ?_
      refine te ?_
      obtain rfl := si H
      have H := Ho9
      dsimp only at H
      exact fF H
     have H := zH h8 H
     refine Tr.draws mixed 50 kr ⟨112,0,[sB 82 true,sI 3 y2,sA 1 1 3 0],[(1,(CV.frzRow (Net.row x0)))]⟩ (fun cx => ?_) ?_
     ·refine mA qj [(0,[]),(1,[]),(2,[]),(3,[]),(4,[]),(5,[])] 44 [⟨[],3,35,36⟩,⟨[],3,33,34⟩] fun cx => ?_
      refine sA_ 403726925850 18 ⟨112,0,[sB 38 (v10.A == v10.B),sI 36 v10.B,sA 35 4 4 2,sI 34 v10.A,sA 33 4 4 0,sA 4 4 4 0,sI 3 y2,sA 1 1 3 0],[(4,(Link.row v10)),(1,(CV.frzRow (Net.row x0)))]⟩ ?_
      rw [h8]
      refine mA qj [(6,[]),(7,[]),(8,[]),(9,[]),(10,[]),(11,[]),(12,[]),(13,[]),(14,[]),(15,[]),(16,[]),(17,[]),(18,[]),(19,[]),(20,[]),(21,[]),(22,[]),(23,[]),(24,[]),(25,[]),(26,[]),(27,[]),(28,[]),(29,[]),(30,[]),(31,[]),(32,[]),(33,[]),(34,[]),(35,[]),(36,[]),(37,[]),(38,[]),(39,[]),(40,[]),(41,[]),(42,[]),(43,[]),(44,[]),(45,[]),(46,[]),(47,[]),(48,[]),(49,[])] 0 [⟨[],3,35,36⟩,⟨[],3,33,34⟩] fun cx => ?_
      exact mE qj [82,3,1] [1]
     refine tB_ ?_
     refine gA 1 4 0 ?_
     refine te ?_
     obtain rfl := si H
     have H := Ho9
     dsimp only at H
     exact fF H
    rintro _ H
    have H : (Qv n x0) = some r := H
    unfold Qv at H
    refine tS ?_
    refine gA 1 34 2 ?_
    obtain ⟨o4,eo4,Ho4⟩ := bs H
    clear H
    refine Tr.mid (ι := Unit) (fun v => ⟨112,0,[],[]⟩) (fun v => zBA n = some r) ?_ ?_
    ·refine tB ?_
     refine Tr.loop (ι := Nat × (Int)) (fun v => ⟨112,0,[sI 5 v.2,sA 1 1 3 0],[(1,(CV.frzRow (Net.row x0)))]⟩) (fun v => qE n v.1 x0 v.2 = some o4) (fun v => v.1) (n,0) eo4 (St.sub_of [5,1] [1] kr) ?_
     rintro ⟨mo4,y3⟩ H
     have H : qE n mo4 x0 y3 = some o4 := H
     obtain _ | mo4 := mo4
     ·exact nN H
     rw [qE] at H
     refine tS ?_
     refine rA 3 ?_
     refine kF x0.Said Say.row ?_
     refine uA 1 0x8000000000000000000022 2 ?_
     obtain ⟨h4,H⟩ | ⟨h4,H⟩ := bC H
     ·refine nA h4 ?_
      refine Tr.exit ?_
      refine aJ ?_
      obtain rfl := si H
      have H := Ho4
      dsimp only at H
      exact jA () H [] []
     refine tA h4 ?_
     refine tK ?_
     refine tS ?_
     refine tB ?_
     obtain ⟨v5,ev5,H⟩ := bs H
     obtain ⟨r6,er6,H⟩ := bs H
     refine sT ⟨112,0,[sB 87 (decide (y3 < (x0.Said.length : Int))),sI 5 y3,sA 1 1 3 0],[(1,(CV.frzRow (Net.row x0)))]⟩ ?_
     cases h5 : (!r6)
     ·have H := zG h5 H
      obtain ⟨v7,ev7,H⟩ := bs H
      obtain ⟨r8,er8,H⟩ := bs H
      refine Tr.draws mixed 22 kr ⟨112,0,[sB 111 (!r8),sI 5 y3,sA 1 1 3 0],[(1,(CV.frzRow (Net.row x0)))]⟩ (fun cx => ?_) ?_
      ·refine mA ZN [(0,[]),(1,[10,19]),(2,[])] 19 [⟨[10,19],74,90,91⟩] fun cx => ?_
       refine iN ZN 3 Say.row ev5 fun cx => ?_
       refine mA ZN [(4,[]),(5,[]),(6,[]),(7,[10,19])] 14 [⟨[10,19],73,96,97⟩,⟨[10,19],74,90,91⟩] fun cx => ?_
       refine kFN ZN 8 x0.Ls Link.row fun cx => ?_
       refine mA ZN [(9,[])] 12 [⟨[10,19],73,96,97⟩,⟨[10,19],74,90,91⟩] fun cx => ?_
       refine mC ZN 10 ?_
       refine vA [.rd,.rd,.rd] (zQ n v5.Link 0 (IntKind.wrap .i64 ((x0.Ls.length : Int) - 1)) r6 er6) ?_
       refine fA ?_
       refine mA ZN [(11,[]),(12,[])] 9 [⟨[10,19],73,96,97⟩,⟨[10,19],74,90,91⟩] fun cx => ?_
       refine sA_ 0x430c0000000000000000000022 2 ⟨112,0,[sB 102 (!r6),sR 97 1 3 1 1 false,sA 96 1 3 1,sR 91 1 3 2 1 false,sA 90 1 3 2,sI 5 y3,sA 1 1 3 0],[(1,(CV.frzRow (Net.row x0)))]⟩ ?_
       rw [h5]
       refine mA ZN [(13,[]),(14,[19]),(15,[])] 6 [⟨[19],74,103,104⟩,⟨[10,19],73,96,97⟩,⟨[10,19],74,90,91⟩] fun cx => ?_
       refine iN ZN 16 Say.row ev7 fun cx => ?_
       refine mA ZN [(17,[]),(18,[])] 3 [⟨[19],74,103,104⟩,⟨[10,19],73,96,97⟩,⟨[10,19],74,90,91⟩] fun cx => ?_
       refine mC ZN 19 ?_
       refine vA [.rd] (zBj n v7.V r8 er8) ?_
       refine fA ?_
       refine mA ZN [(20,[]),(21,[])] 0 [⟨[19],74,103,104⟩,⟨[10,19],73,96,97⟩,⟨[10,19],74,90,91⟩] fun cx => ?_
       exact mE ZN [111,5,1] [1]
      refine sT ⟨112,0,[sB 111 (!r8),sI 5 y3,sA 1 1 3 0],[(1,(CV.frzRow (Net.row x0)))]⟩ ?_
      cases h6 : (!r8)
      ·have H := zG h6 H
       refine nB_ ?_
       refine tK ?_
       refine eA 3 34 2 ?_
       exact jB mo4 (IntKind.wrap .i64 (y3 + 1)) H [5,1] [1]
      have H := zH h6 H
      refine tB_ ?_
      refine gA 1 4 0 ?_
      refine te ?_
      obtain rfl := si H
      have H := Ho4
      dsimp only at H
      exact fF H
     have H := zH h5 H
     refine Tr.draws mixed 22 kr ⟨112,0,[sB 111 true,sI 5 y3,sA 1 1 3 0],[(1,(CV.frzRow (Net.row x0)))]⟩ (fun cx => ?_) ?_
     ·refine mA ZN [(0,[]),(1,[10]),(2,[])] 19 [⟨[10],74,90,91⟩] fun cx => ?_
      refine iN ZN 3 Say.row ev5 fun cx => ?_
      refine mA ZN [(4,[]),(5,[]),(6,[]),(7,[10])] 14 [⟨[10],73,96,97⟩,⟨[10],74,90,91⟩] fun cx => ?_
      refine kFN ZN 8 x0.Ls Link.row fun cx => ?_
      refine mA ZN [(9,[])] 12 [⟨[10],73,96,97⟩,⟨[10],74,90,91⟩] fun cx => ?_
      refine mC ZN 10 ?_
      refine vA [.rd,.rd,.rd] (zQ n v5.Link 0 (IntKind.wrap .i64 ((x0.Ls.length : Int) - 1)) r6 er6) ?_
      refine fA ?_
      refine mA ZN [(11,[]),(12,[])] 9 [⟨[10],73,96,97⟩,⟨[10],74,90,91⟩] fun cx => ?_
      refine sA_ 0x430c0000000000000000000022 2 ⟨112,0,[sB 102 (!r6),sR 97 1 3 1 1 false,sA 96 1 3 1,sR 91 1 3 2 1 false,sA 90 1 3 2,sI 5 y3,sA 1 1 3 0],[(1,(CV.frzRow (Net.row x0)))]⟩ ?_
      rw [h5]
      refine mA ZN [(13,[]),(14,[]),(15,[]),(16,[]),(17,[]),(18,[]),(19,[]),(20,[]),(21,[])] 0 [⟨[10],73,96,97⟩,⟨[10],74,90,91⟩] fun cx => ?_
      exact mE ZN [111,5,1] [1]
     refine tB_ ?_
     refine gA 1 4 0 ?_
     refine te ?_
     obtain rfl := si H
     have H := Ho4
     dsimp only at H
     exact fF H
    rintro _ H
    have H : (zBA n) = some r := H
    unfold zBA at H
    refine gA 1 4 0 ?_
    exact te (fT H)
   refine tA h3 ?_
   refine gA 1 4 0 ?_
   exact te (fF H)
  have H := zH h2 H
  refine uA 5 1048578 2 ?_
  refine tB_ ?_
  refine gA 1 4 0 ?_
  exact te (fF H)
 have H := zH h1 H
 refine uA 11 1048578 2 ?_
 refine tB_ ?_
 refine gA 1 4 0 ?_
 exact te (fF H)
def zBl (n : Nat) (x0 : (List zB)) : Option ((List zB)) :=
  (bif (decide (([] : List zB).length + x0.length ≤ 268435456)) then (some (([] : List zB) ++ x0)) else none)
theorem zJ5 (n : Nat) (x0 : (List zB)) (r : (List zB)) (H : zBl n x0 = some r) : zI Try.prog 156 [.val false [.sl false 5 (CV.frzEs (x0.map zB.row))]] [.val false [.sl true 5 (r.map zB.row)]] [] := by
 refine cW Try.func156 (fun g d => sl [g 0,g 1] .ret) [.tmp 2] fun cx => ?_
 unfold zBl at H
 refine gA 1 1 0 ?_
 refine rA 2 ?_
 obtain ⟨hg1,H⟩ := gs H
 refine pD zB.row hg1 ?_
 refine LAt.moveU (T := lk tab) (ty := 36) (x := (.tmp 5)) (d := 2) (g := none) false [cL 5 (([] : List zB) ++ x0) zB.row] kr kr kr kr kr ?_
 refine dA 4 0 ?_
 exact te (fJ [(false,[cL 5 (([] : List zB) ++ x0) zB.row])] H)
def zAR (n : Nat) (x0 : zJ) : Option (zJ) :=
  (bif (decide (([] : List zF).length + x0.Rows.length ≤ 268435456)) then (bif (decide (([] : List Int).length + x0.Pv.length ≤ 268435456)) then (some (⟨(([] : List zF) ++ x0.Rows),(([] : List Int) ++ x0.Pv)⟩ : zJ)) else none) else none)
theorem zJ6 (n : Nat) (x0 : zJ) (r : zJ) (H : zAR n x0 = some r) : zI Try.prog 176 [.val true (CV.frzRow (zJ.row x0))] [.val true (zJ.row r)] [] := by
 refine cW Try.func176 (fun g d => sl [g 0,d 1] .ret) [.cell 2 40] fun cx => ?_
 unfold zAR at H
 refine gA 2 6 6 ?_
 obtain ⟨hg1,H⟩ := gs H
 obtain ⟨hg2,H⟩ := gs H
 refine Tr.draws mixed 10 kr ⟨12,0,[sA 2 2 2 0],[(2,[cL 3 (([] : List zF) ++ x0.Rows) zF.row,cL 1 (([] : List Int) ++ x0.Pv) intRow])]⟩ (fun cx => ?_) ?_
 ·refine aA [(1,[]),(2,[3,7,8,9]),(5,[]),(6,[7,8,9])] 6 [⟨[7,8,9],38,8,9⟩,⟨[3,7,8,9],37,4,5⟩] fun cx => ?_
  refine AT.big2 tOk 0 4 kr (And.intro kr ?_) (And.intro kr ?_)
  ·refine lA 1 ?_
   refine fA ?_
   refine AT.big2 tOk 3 4 kr (And.intro kr ?_) (And.intro kr ?_)
   ·refine pD zF.row hg1 ?_
    refine fA ?_
    refine bA 4 ?_
    refine lA 1 ?_
    refine fA ?_
    refine bA 7 ?_
    refine pD intRow hg2 ?_
    refine fA ?_
    refine bA 8 ?_
    refine lA 1 ?_
    refine fA ?_
    refine bA 9 ?_
    refine lA 1 ?_
    refine fA ?_
    exact eE [2] [2]
   ·refine lA 1 ?_
    refine fA ?_
    refine bA 3 ?_
    refine pD zF.row hg1 ?_
    refine fA ?_
    refine bA 7 ?_
    refine pD intRow hg2 ?_
    refine fA ?_
    refine bA 8 ?_
    refine lA 1 ?_
    refine fA ?_
    refine bA 9 ?_
    refine lA 1 ?_
    refine fA ?_
    exact eE [2] [2]
  ·refine lA 1 ?_
   refine fA ?_
   refine bA 0 ?_
   refine lA 1 ?_
   refine fA ?_
   refine bA 3 ?_
   refine pD zF.row hg1 ?_
   refine fA ?_
   refine bA 7 ?_
   refine pD intRow hg2 ?_
   refine fA ?_
   refine bA 8 ?_
   refine lA 1 ?_
   refine fA ?_
   refine bA 9 ?_
   refine lA 1 ?_
   refine fA ?_
   exact eE [2] [2]
 exact te (fJ [(true,[cL 3 (([] : List zF) ++ x0.Rows) zF.row,cL 1 (([] : List Int) ++ x0.Pv) intRow])] H)
def QP (n : Nat) (x0 : zA) : Option (zA) :=
  (bif (decide (([] : List Pt).length + x0.Ps.length ≤ 268435456)) then ((zBl n x0.F).bind fun r2 => ((zAR n x0.V).bind fun r3 => (some (⟨x0.Id,x0.Name,(([] : List Pt) ++ x0.Ps),r2,r3,x0.Tk,x0.Pa,x0.Wo,x0.Dr,x0.Ve⟩ : zA)))) else none)
theorem zBk (n : Nat) (x0 : zA) (r : zA) (H : QP n x0 = some r) : zI Try.prog 188 [.val true (CV.frzRow (zA.row x0))] [.val true (zA.row r)] [] := by
 refine cW Try.func188 (fun g d => sl [g 0,g 1,g 2,g 3,g 4,g 5] .ret) [.cell 2 42] fun cx => ?_
 unfold QP at H
 refine gA 2 6 6 ?_
 refine gA 3 14 14 ?_
 refine rA 3 ?_
 obtain ⟨hg1,H⟩ := gs H
 refine pD Pt.row hg1 ?_
 refine uA 2 14 14 ?_
 refine rA 2 ?_
 obtain ⟨r2,er2,H⟩ := bs H
 refine vA [.rd] (zJ5 n x0.F r2 er2) ?_
 refine uA 2 14 14 ?_
 refine rA 2 ?_
 obtain ⟨r3,er3,H⟩ := bs H
 refine vA [.rd] (zJ6 n x0.V r3 er3) ?_
 refine uA 2 12 12 ?_
 refine gA 2 4 4 ?_
 exact te (fJ [(true,[cI x0.Id,cS x0.Name,cL 8 (([] : List Pt) ++ x0.Ps) Pt.row,cL 5 r2 zB.row,cL 3 r3.Rows zF.row,cL 1 r3.Pv intRow,cI x0.Tk,cI x0.Pa,cI x0.Wo,cI x0.Dr,cI x0.Ve])] H)
def YY (n : Nat) (x0 : zA) (x1 : Int) : Option (Bool) :=
  ((zT n x0).bind fun r1 => (bif r1 then ((zP n x1 0 (IntKind.wrap .i64 ((x0.Ps.length : Int) - 1))).bind fun r2 => (some r2)) else (some false)))
theorem zE1 (n : Nat) (x0 : zA) (x1 : Int) (r : Bool) (H : YY n x0 x1 = some r) : zI Try.prog 189 [.val true (CV.frzRow (zA.row x0)),.val false [.lit (.int .i64 x1)]] [.val false [.lit (.bool r)]] [] := by
 refine cW Try.func189 (fun g d => sl [g 0,g 1] .ret) [.tmp 4] fun cx => ?_
 unfold YY at H
 refine gA 2 6 4 ?_
 refine rA 1 ?_
 obtain ⟨r1,er1,H⟩ := bs H
 refine vA [.rd] (zCm n x0 r1 er1) ?_
 refine lA 1 ?_
 refine sL 134 4 ⟨15,0,[sB 7 r1,sA 2 2 11 0,sI 1 x1],[(2,(CV.frzRow (zA.row x0)))]⟩ ?_
 cases h1 : r1
 ·have H := zG h1 H
  refine uA 8 16 0 ?_
  exact te (fF H)
 have H := zH h1 H
 refine lA 3 ?_
 refine kF x0.Ps Pt.row ?_
 refine lA 1 ?_
 obtain ⟨r2,er2,H⟩ := bs H
 refine vA [.rd,.rd,.rd] (zQ n x1 0 (IntKind.wrap .i64 ((x0.Ps.length : Int) - 1)) r2 er2) ?_
 refine uA 2 16 0 ?_
 exact te (fJ [(false,[cB r2])] H)
def Yh (n : Nat) (x0 : Int) : Option (Int) :=
  (bif (decide (x0 ≥ 1000000)) then (some x0) else (some (IntKind.wrap .i64 (x0 + 1))))
theorem zGV (n : Nat) (x0 : Int) (r : Int) (H : Yh n x0 = some r) : zI Try.prog 191 [.val false [.lit (.int .i64 x0)]] [.val false [.lit (.int .i64 r)]] [] := by
 refine cW Try.func191 (fun g d => sl [g 0,sl [g 1] (cn 4 (sl [g 2] .ret) .skip),g 3] .ret) [.tmp 2] fun cx => ?_
 unfold Yh at H
 refine gA 1 1 0 ?_
 refine tS ?_
 refine gA 2 17 0 ?_
 obtain ⟨h1,H⟩ | ⟨h1,H⟩ := bC H
 ·refine nA h1 ?_
  refine tK ?_
  refine gA 3 4 0 ?_
  exact te (fJ [(false,[cI (IntKind.wrap .i64 (x0 + 1))])] H)
 refine tA h1 ?_
 refine gA 2 4 0 ?_
 exact te (fJ [(false,[cI x0])] H)
def ZT (n : Nat) (x0 : Vec) (x1 : Int) : Option (Vec × Bool) :=
  ((zl n x0).bind fun r1 => (bif (!r1) then (some (x0,false)) else ((zP n x1 1 1000).bind fun r2 => (bif (!r2) then (some (x0,false)) else ((zl n (⟨x0.Root,(IntKind.wrap .i64 (x0.Co + x1)),(IntKind.wrap .i64 (x0.Hops + 1)),x0.Bridge,x0.Port⟩ : Vec)).bind fun r3 => (bif (!r3) then (some (x0,false)) else (some ((⟨x0.Root,(IntKind.wrap .i64 (x0.Co + x1)),(IntKind.wrap .i64 (x0.Hops + 1)),x0.Bridge,x0.Port⟩ : Vec),true))))))))
theorem zFg (n : Nat) (x0 : Vec) (x1 : Int) (r : Vec × Bool) (H : ZT n x0 x1 = some r) : zI Try.prog 204 [.val true (CV.frzRow (Vec.row x0)),.val false [.lit (.int .i64 x1)]] [.val true (Vec.row r.1),.val false [.lit (.bool r.2)]] [] := by
 refine cW Try.func204 (fun g d => sl [g 0,sl [g 1] (cn 14 (sl [g 2] .ret) .skip),g 3,g 4,g 5,sl [g 6] (cn 28 (sl [g 7] .ret) .skip),g 8] .ret) [.cell 4 46,.tmp 5] fun cx => ?_
 unfold ZT at H
 refine gA 3 22 20 ?_
 refine tS ?_
 refine rA 1 ?_
 obtain ⟨r1,er1,H⟩ := bs H
 refine vA [.rd] (zBj n x0 r1 er1) ?_
 refine lA 2 ?_
 refine sL 1046 20 ⟨31,0,[sB 10 (!r1),sA 4 4 5 0,sA 2 2 5 0,sI 1 x1],[(4,[cI 0,cI 0,cI 0,cI 0,cI 0]),(2,(Vec.row x0))]⟩ ?_
 cases h1 : (!r1)
 ·have H := zG h1 H
  refine lA 1 ?_
  obtain ⟨r2,er2,H⟩ := bs H
  refine vA [.rd,.rd,.rd] (zQ n x1 1 1000 r2 er2) ?_
  refine uA 2 16406 20 ?_
  obtain ⟨h2,H⟩ | ⟨h2,H⟩ := bC H
  ·refine nA h2 ?_
   refine tK ?_
   refine gA 3 86 84 ?_
   refine gA 6 84 84 ?_
   refine gA 5 84 84 ?_
   refine tS ?_
   refine rA 1 ?_
   obtain ⟨r3,er3,H⟩ := bs H
   refine vA [.rd] (zBj n (⟨x0.Root,(IntKind.wrap .i64 (x0.Co + x1)),(IntKind.wrap .i64 (x0.Hops + 1)),x0.Bridge,x0.Port⟩ : Vec) r3 er3) ?_
   refine uA 1 268435540 84 ?_
   obtain ⟨h3,H⟩ | ⟨h3,H⟩ := bC H
   ·refine nA h3 ?_
    refine tK ?_
    refine gA 3 48 16 ?_
    exact te (fJ [(true,[cI x0.Root,cI (IntKind.wrap .i64 (x0.Co + x1)),cI (IntKind.wrap .i64 (x0.Hops + 1)),cI x0.Bridge,cI x0.Port]),(false,[cB true])] H)
   refine tA h3 ?_
   refine gA 3 48 16 ?_
   exact te (fJ [(true,(Vec.row x0)),(false,[cB false])] H)
  refine tA h2 ?_
  refine gA 3 48 16 ?_
  exact te (fJ [(true,(Vec.row x0)),(false,[cB false])] H)
 have H := zH h1 H
 refine uA 4 16406 20 ?_
 refine tB_ ?_
 refine gA 3 48 16 ?_
 exact te (fJ [(true,(Vec.row x0)),(false,[cB false])] H)
def QN (n : Nat) (x0 : Vec) (x1 : Vec) : Option (Bool) :=
  (bif (x0.Root != x1.Root) then (some (decide (x0.Root < x1.Root))) else (bif (x0.Co != x1.Co) then (some (decide (x0.Co < x1.Co))) else (bif (x0.Bridge != x1.Bridge) then (some (decide (x0.Bridge < x1.Bridge))) else (some (decide (x0.Port < x1.Port))))))
theorem zFf (n : Nat) (x0 : Vec) (x1 : Vec) (r : Bool) (H : QN n x0 x1 = some r) : zI Try.prog 197 [.val true (CV.frzRow (Vec.row x0)),.val true (CV.frzRow (Vec.row x1))] [.val false [.lit (.bool r)]] [] := by
 refine cW Try.func197 (fun g d => sl [g 0,.block 0 (sl [g 1] (cn 5 (sl [g 2] .ret) (sl [g 3] (cn 16 (sl [g 4] .ret) (sl [g 5] (cn 27 (sl [g 6] .ret) .skip)))))),g 7] .ret) [.tmp 4] fun cx => ?_
 unfold QN at H
 refine gA 3 12 12 ?_
 refine tS ?_
 refine tB ?_
 refine gA 6 44 12 ?_
 obtain ⟨h1,H⟩ | ⟨h1,H⟩ := bC H
 ·refine nA h1 ?_
  refine gA 6 65548 12 ?_
  obtain ⟨h2,H⟩ | ⟨h2,H⟩ := bC H
  ·refine nA h2 ?_
   refine gA 6 134217740 12 ?_
   obtain ⟨h3,H⟩ | ⟨h3,H⟩ := bC H
   ·refine nA h3 ?_
    refine tK ?_
    refine gA 6 16 0 ?_
    exact te (fJ [(false,[cB (decide (x0.Port < x1.Port))])] H)
   refine tA h3 ?_
   refine gA 6 16 0 ?_
   exact te (fJ [(false,[cB (decide (x0.Bridge < x1.Bridge))])] H)
  refine tA h2 ?_
  refine gA 6 16 0 ?_
  exact te (fJ [(false,[cB (decide (x0.Co < x1.Co))])] H)
 refine tA h1 ?_
 refine gA 6 16 0 ?_
 exact te (fJ [(false,[cB (decide (x0.Root < x1.Root))])] H)
def J2 (n : Nat) (x0 : Int) (y11 : Int) (y12 : Int) (y13 : Int) (y14 : Int) : Option (Vec × Int) :=
  (some ((⟨y12,y13,y14,x0,0⟩ : Vec),y11))
def ZI (n : Nat) (k : (Int × Int × Int × Int × Int × Int × Int × Int × Int × Int → Option ((Int × Int × Int × Int) ⊕ (Vec × Int)))) (r20 : Vec × Bool) (y1 : Int) (y10 : Int) (y2 : Int) (y3 : Int) (y4 : Int) (y5 : Int) (y6 : Int) (y7 : Int) (y8 : Int) (y9 : Int) (y21 : Bool) (y22 : Bool) (y23 : Bool) (y24 : Bool) (y25 : Bool) (y26 : Bool) (y27 : Bool) : Option ((Int × Int × Int × Int) ⊕ (Vec × Int)) :=
  (bif y21 then (k ((IntKind.wrap .i64 (y1 + 1)),y1,r20.1.Root,r20.1.Co,r20.1.Hops,r20.1.Bridge,r20.1.Port,r20.1.Root,r20.1.Co,r20.1.Hops)) else (k ((IntKind.wrap .i64 (y1 + 1)),y2,y3,y4,y5,y6,y7,y8,y9,y10)))
def zg (n : Nat) : Nat → Int → (List Pt) → Int → Int → Int → Int → Int → Int → Int → Int → Int → Int → Option ((Int × Int × Int × Int) ⊕ (Vec × Int))
  | 0,_,_,_,_,_,_,_,_,_,_,_,_ => none
  | mo15 + 1,x0,x1,y1,y2,y3,y4,y5,y6,y7,y8,y9,y10 => (bif (decide (y1 < (x1.length : Int))) then ((idx x1 y1).bind fun v16 => (bif (!v16.Up) then (zg n mo15 x0 x1 (IntKind.wrap .i64 (y1 + 1)) y2 y3 y4 y5 y6 y7 y8 y9 y10) else ((idx x1 y1).bind fun v17 => (bif (!v17.Has) then (zg n mo15 x0 x1 (IntKind.wrap .i64 (y1 + 1)) y2 y3 y4 y5 y6 y7 y8 y9 y10) else ((idx x1 y1).bind fun v18 => ((idx x1 y1).bind fun v19 => ((ZT n v18.Hd v19.Co).bind fun r20 => (bif r20.2 then (bif (decide (r20.1.Root < x0)) then (bif (decide (y2 < 0)) then (ZI n (fun v => zg n mo15 x0 x1 v.1 v.2.1 v.2.2.1 v.2.2.2.1 v.2.2.2.2.1 v.2.2.2.2.2.1 v.2.2.2.2.2.2.1 v.2.2.2.2.2.2.2.1 v.2.2.2.2.2.2.2.2.1 v.2.2.2.2.2.2.2.2.2) r20 y1 y10 y2 y3 y4 y5 y6 y7 y8 y9 true true true true true true true) else ((QN n r20.1 (⟨y3,y4,y5,y6,y7⟩ : Vec)).bind fun r28 => (ZI n (fun v => zg n mo15 x0 x1 v.1 v.2.1 v.2.2.1 v.2.2.2.1 v.2.2.2.2.1 v.2.2.2.2.2.1 v.2.2.2.2.2.2.1 v.2.2.2.2.2.2.2.1 v.2.2.2.2.2.2.2.2.1 v.2.2.2.2.2.2.2.2.2) r20 y1 y10 y2 y3 y4 y5 y6 y7 y8 y9 r28 true true true true true true))) else (ZI n (fun v => zg n mo15 x0 x1 v.1 v.2.1 v.2.2.1 v.2.2.2.1 v.2.2.2.2.1 v.2.2.2.2.2.1 v.2.2.2.2.2.2.1 v.2.2.2.2.2.2.2.1 v.2.2.2.2.2.2.2.2.1 v.2.2.2.2.2.2.2.2.2) r20 y1 y10 y2 y3 y4 y5 y6 y7 y8 y9 false false false true true true true)) else (ZI n (fun v => zg n mo15 x0 x1 v.1 v.2.1 v.2.2.1 v.2.2.2.1 v.2.2.2.2.1 v.2.2.2.2.2.1 v.2.2.2.2.2.2.1 v.2.2.2.2.2.2.2.1 v.2.2.2.2.2.2.2.2.1 v.2.2.2.2.2.2.2.2.2) r20 y1 y10 y2 y3 y4 y5 y6 y7 y8 y9 false false false false false false false))))))))) else (some (Sum.inl (y2,y8,y9,y10))))
def ZS (n : Nat) (x0 : Int) (x1 : (List Pt)) : Option (Vec × Int) :=
  ((zg n n x0 x1 0 (-1) 0 0 0 0 0 x0 0 0).bind fun o => match o with | .inl (y11,y12,y13,y14) => (J2 n x0 y11 y12 y13 y14) | .inr r => some r)
def zNB : Tab := ⟨17,[0,0,3,4,8,0,0,96,128,256,528,1024,2048,2048,0,24575,65535],[0,0,3,4,8,0,0,96,128,256,528,1024,2048,2048,0,20480,8192],[0,0,3,7,15,0,0,96,224,480,1023,2047,4095,4095,0,24575,65535]⟩
theorem Qb : zk (rg Try.f196 8) zNB = true := kr
theorem zFc (n : Nat) (x0 : Int) (x1 : (List Pt)) (r : Vec × Int) (H : ZS n x0 x1 = some r) : zI Try.prog 196 [.val false [.lit (.int .i64 x0)],.val false [.sl false 8 (CV.frzEs (x1.map Pt.row))]] [.val true (Vec.row r.1),.val false [.lit (.int .i64 r.2)]] [] := by
 refine cW Try.func196 (fun g d => sl [g 0,g 1,g 2,g 3,sl [g 4] (.block 0 (.loop (sl [sl [g 5] (cn 19 .skip (.exit 0)),.block 1 (sl [sl [g 7] (cn 35 (.exit 1) .skip),d 8,g 9] (cn 65 (sl [g 10,g 11] (g 12)) .skip))] (g 6)))),g 13] .ret) [.cell 4 46,.tmp 5] fun cx => ?_
 unfold ZS at H
 refine gA 2 51 16 ?_
 refine gA 5 115 80 ?_
 refine gA 3 243 208 ?_
 refine gA 1 499 208 ?_
 refine tS ?_
 refine gA 1 1011 208 ?_
 obtain ⟨o15,eo15,Ho15⟩ := bs H
 clear H
 refine Tr.mid (ι := Int × Int × Int × Int) (fun v => ⟨78,0,[sI 8 v.1,sA 6 6 5 0,sI 5 0,sA 4 4 5 0],[(6,[cI v.2.1,cI v.2.2.1,cI v.2.2.2,cI x0,cI 0]),(4,[cI 0,cI 0,cI 0,cI 0,cI 0])]⟩) (fun v => J2 n x0 v.1 v.2.1 v.2.2.1 v.2.2.2 = some r) ?_ ?_
 ·refine tB ?_
  refine Tr.loop (ι := Nat × (Int × Int × Int × Int × Int × Int × Int × Int × Int × Int)) (fun v => ⟨78,0,[sI 9 v.2.1,sI 8 v.2.2.1,sA 7 7 5 0,sA 6 6 5 0,sI 5 0,sA 4 4 5 0,sI 0 x0,sC 1 (cF 8 x1 Pt.row)],[(7,[cI v.2.2.2.1,cI v.2.2.2.2.1,cI v.2.2.2.2.2.1,cI v.2.2.2.2.2.2.1,cI v.2.2.2.2.2.2.2.1]),(6,[cI v.2.2.2.2.2.2.2.2.1,cI v.2.2.2.2.2.2.2.2.2.1,cI v.2.2.2.2.2.2.2.2.2.2,cI x0,cI 0]),(4,[cI 0,cI 0,cI 0,cI 0,cI 0])]⟩) (fun v => zg n v.1 x0 x1 v.2.1 v.2.2.1 v.2.2.2.1 v.2.2.2.2.1 v.2.2.2.2.2.1 v.2.2.2.2.2.2.1 v.2.2.2.2.2.2.2.1 v.2.2.2.2.2.2.2.2.1 v.2.2.2.2.2.2.2.2.2.1 v.2.2.2.2.2.2.2.2.2.2 = some o15) (fun v => v.1) (n,(0,(-1),0,0,0,0,0,x0,0,0)) eo15 (St.sub_of [9,8,7,6,5,4,0,1] [7,6,4] kr) ?_
  rintro ⟨mo15,y1,y2,y3,y4,y5,y6,y7,y8,y9,y10⟩ H
  have H : zg n mo15 x0 x1 y1 y2 y3 y4 y5 y6 y7 y8 y9 y10 = some o15 := H
  obtain _ | mo15 := mo15
  ·exact nN H
  rw [zg] at H
  refine tS ?_
  refine rA 2 ?_
  refine kF x1 Pt.row ?_
  refine uA 1 984051 208 ?_
  obtain ⟨h1,H⟩ | ⟨h1,H⟩ := bC H
  ·refine nA h1 ?_
   refine Tr.exit ?_
   refine aJ ?_
   obtain rfl := si H
   have H := Ho15
   dsimp only at H
   exact jA (y2,y8,y9,y10) H [8,6,5,4] [6,4]
  refine tA h1 ?_
  refine tK ?_
  refine tS ?_
  refine tB ?_
  refine tS ?_
  refine rA 2 ?_
  obtain ⟨v16,ev16,H⟩ := bs H
  refine iA Pt.row ev16 ?_
  refine lA 4 ?_
  refine sL 533660659 208 ⟨78,0,[sB 28 (!v16.Up),sB 27 (!v16.Up),sB 26 v16.Up,(25,.fad ((Pt.row v16))),(24,.fad ((Pt.row v16))),sI 23 y1,sC 22 (cF 8 x1 Pt.row),sB 19 (decide (y1 < (x1.length : Int))),sI 18 (x1.length : Int),sC 17 (cF 8 x1 Pt.row),sI 16 y1,sI 9 y1,sI 8 y2,sA 7 7 5 0,sA 6 6 5 0,sI 5 0,sA 4 4 5 0,sI 0 x0,sC 1 (cF 8 x1 Pt.row)],[(7,[cI y3,cI y4,cI y5,cI y6,cI y7]),(6,[cI y8,cI y9,cI y10,cI x0,cI 0]),(4,[cI 0,cI 0,cI 0,cI 0,cI 0])]⟩ ?_
  cases h2 : (!v16.Up)
  ·have H := zG h2 H
   refine lA 2 ?_
   obtain ⟨v17,ev17,H⟩ := bs H
   refine iA Pt.row ev17 ?_
   refine uA 4 68716266483 208 ?_
   obtain ⟨h3,H⟩ | ⟨h3,H⟩ := bC H
   ·refine nA h3 ?_
    refine tK ?_
    obtain ⟨v18,ev18,H⟩ := bs H
    obtain ⟨v19,ev19,H⟩ := bs H
    obtain ⟨r20,er20,H⟩ := bs H
    refine Tr.draws mixed 17 kr ⟨78,0,[sB 11 r20.2,sA 10 10 5 0,sB 49 r20.2,(36,.tup [(true,[.dead,.dead,.dead,.dead,.dead]),(false,[.dead])]),sV 48 (Vec.row r20.1),sI 46 v19.Co,(45,.fad (((Pt.row v19).drop 1))),(44,.fad ((Pt.row v19))),sI 43 y1,sC 42 (cF 8 x1 Pt.row),sV 41 ((Pt.row v18).drop 3),(40,.fad (((Pt.row v18).drop 3))),(39,.fad ((Pt.row v18))),sI 38 y1,sC 37 (cF 8 x1 Pt.row),sB 35 (!v17.Has),sB 34 (!v17.Has),sB 33 v17.Has,(32,.fad (((Pt.row v17).drop 2))),(31,.fad ((Pt.row v17))),sI 30 y1,sC 29 (cF 8 x1 Pt.row),sB 28 false,sB 27 false,sB 26 v16.Up,(25,.fad ((Pt.row v16))),(24,.fad ((Pt.row v16))),sI 23 y1,sC 22 (cF 8 x1 Pt.row),sB 19 (decide (y1 < (x1.length : Int))),sI 18 (x1.length : Int),sC 17 (cF 8 x1 Pt.row),sI 16 y1,sI 9 y1,sI 8 y2,sA 7 7 5 0,sA 6 6 5 0,sI 5 0,sA 4 4 5 0,sI 0 x0,sC 1 (cF 8 x1 Pt.row)],[(10,(Vec.row r20.1)),(7,[cI y3,cI y4,cI y5,cI y6,cI y7]),(6,[cI y8,cI y9,cI y10,cI x0,cI 0]),(4,[cI 0,cI 0,cI 0,cI 0,cI 0])]⟩ (fun cx => ?_) ?_
    ·refine mA Qb [(0,[]),(1,[])] 15 [] fun cx => ?_
     refine iN Qb 2 Pt.row ev18 fun cx => ?_
     refine mA Qb [(3,[]),(4,[]),(5,[]),(6,[])] 10 [] fun cx => ?_
     refine iN Qb 7 Pt.row ev19 fun cx => ?_
     refine mA Qb [(8,[]),(9,[])] 7 [] fun cx => ?_
     refine mB2 tOk Qb 10 14 kr (And.intro kr ?_) (And.intro kr ?_)
     ·refine vA [.rd,.rd] (zFg n v18.Hd v19.Co r20 er20) ?_
      refine fA ?_
      refine AT.movT tOk 11 (ty := 198) (t := 47) (d := 36) (g := none) [(true,(Vec.row r20.1)),(false,[cB r20.2])] _ kr (oM Qb kr) (dM Qb kr) (.inl rfl) kr kr kr kr rfl (fun cx => ?_)
      refine mA Qb [(12,[]),(13,[])] 3 [] fun cx => ?_
      refine mC Qb 14 ?_
      refine lA 1 ?_
      refine fA ?_
      refine mC Qb 15 ?_
      refine lA 1 ?_
      refine fA ?_
      refine mA Qb [(16,[])] 0 [] fun cx => ?_
      exact mE Qb [11,10,49,36,48,46,45,44,43,42,41,40,39,38,37,35,34,33,32,31,30,29,28,27,26,25,24,23,22,19,18,17,16,9,8,7,6,5,4,0,1] [10,7,6,4]
     ·refine lA 1 ?_
      refine fA ?_
      refine mC Qb 10 ?_
      refine vA [.rd,.rd] (zFg n v18.Hd v19.Co r20 er20) ?_
      refine fA ?_
      refine AT.movT tOk 11 (ty := 198) (t := 47) (d := 36) (g := none) [(true,(Vec.row r20.1)),(false,[cB r20.2])] _ kr (oM Qb kr) (dM Qb kr) (.inl rfl) kr kr kr kr rfl (fun cx => ?_)
      refine mA Qb [(12,[]),(13,[])] 2 [] fun cx => ?_
      refine mC Qb 15 ?_
      refine lA 1 ?_
      refine fA ?_
      refine mA Qb [(16,[])] 0 [] fun cx => ?_
      exact mE Qb [11,10,49,36,48,46,45,44,43,42,41,40,39,38,37,35,34,33,32,31,30,29,28,27,26,25,24,23,22,19,18,17,16,9,8,7,6,5,4,0,1] [10,7,6,4]
    refine tS ?_
    refine Tr.mid (ι := Bool × Bool × Bool × Bool × Bool × Bool × Bool) (fun v => ⟨78,0,[sB 65 v.1,sB 57 v.2.1,sB 56 v.2.2.1,sB 51 v.2.2.2.1,sB 50 v.2.2.2.2.1,sB 11 v.2.2.2.2.2.1,sA 10 10 5 0,sB 49 v.2.2.2.2.2.2,(36,.tup [(true,[.dead,.dead,.dead,.dead,.dead]),(false,[.dead])]),sV 48 (Vec.row r20.1),sI 46 v19.Co,(45,.fad (((Pt.row v19).drop 1))),(44,.fad ((Pt.row v19))),sI 43 y1,sC 42 (cF 8 x1 Pt.row),sV 41 ((Pt.row v18).drop 3),(40,.fad (((Pt.row v18).drop 3))),(39,.fad ((Pt.row v18))),sI 38 y1,sC 37 (cF 8 x1 Pt.row),sB 35 false,sB 34 false,sB 33 v17.Has,(32,.fad (((Pt.row v17).drop 2))),(31,.fad ((Pt.row v17))),sI 30 y1,sC 29 (cF 8 x1 Pt.row),sB 28 false,sB 27 false,sB 26 v16.Up,(25,.fad ((Pt.row v16))),(24,.fad ((Pt.row v16))),sI 23 y1,sC 22 (cF 8 x1 Pt.row),sB 19 true,sI 18 (x1.length : Int),sC 17 (cF 8 x1 Pt.row),sI 16 y1,sI 9 y1,sI 8 y2,sA 7 7 5 0,sA 6 6 5 0,sI 5 0,sA 4 4 5 0,sI 0 x0,sC 1 (cF 8 x1 Pt.row)],[(10,(Vec.row r20.1)),(7,[cI y3,cI y4,cI y5,cI y6,cI y7]),(6,[cI y8,cI y9,cI y10,cI x0,cI 0]),(4,[cI 0,cI 0,cI 0,cI 0,cI 0])]⟩) (fun v => ZI n (fun v => zg n mo15 x0 x1 v.1 v.2.1 v.2.2.1 v.2.2.2.1 v.2.2.2.2.1 v.2.2.2.2.2.1 v.2.2.2.2.2.2.1 v.2.2.2.2.2.2.2.1 v.2.2.2.2.2.2.2.2.1 v.2.2.2.2.2.2.2.2.2) r20 y1 y10 y2 y3 y4 y5 y6 y7 y8 y9 v.1 v.2.1 v.2.2.1 v.2.2.2.1 v.2.2.2.2.1 v.2.2.2.2.2.1 v.2.2.2.2.2.2 = some o15) ?_ ?_
    ·refine Tr.at ?_
     refine lA 2 ?_
     refine sL 0xf7fffffcf0ff3 1232 ⟨78,0,[sB 51 r20.2,sB 50 r20.2,sB 11 r20.2,sA 10 10 5 0,sB 49 r20.2,(36,.tup [(true,[.dead,.dead,.dead,.dead,.dead]),(false,[.dead])]),sV 48 (Vec.row r20.1),sI 46 v19.Co,(45,.fad (((Pt.row v19).drop 1))),(44,.fad ((Pt.row v19))),sI 43 y1,sC 42 (cF 8 x1 Pt.row),sV 41 ((Pt.row v18).drop 3),(40,.fad (((Pt.row v18).drop 3))),(39,.fad ((Pt.row v18))),sI 38 y1,sC 37 (cF 8 x1 Pt.row),sB 35 (!v17.Has),sB 34 (!v17.Has),sB 33 v17.Has,(32,.fad (((Pt.row v17).drop 2))),(31,.fad ((Pt.row v17))),sI 30 y1,sC 29 (cF 8 x1 Pt.row),sB 28 false,sB 27 false,sB 26 v16.Up,(25,.fad ((Pt.row v16))),(24,.fad ((Pt.row v16))),sI 23 y1,sC 22 (cF 8 x1 Pt.row),sB 19 (decide (y1 < (x1.length : Int))),sI 18 (x1.length : Int),sC 17 (cF 8 x1 Pt.row),sI 16 y1,sI 9 y1,sI 8 y2,sA 7 7 5 0,sA 6 6 5 0,sI 5 0,sA 4 4 5 0,sI 0 x0,sC 1 (cF 8 x1 Pt.row)],[(10,(Vec.row r20.1)),(7,[cI y3,cI y4,cI y5,cI y6,cI y7]),(6,[cI y8,cI y9,cI y10,cI x0,cI 0]),(4,[cI 0,cI 0,cI 0,cI 0,cI 0])]⟩ ?_
     cases h5 : r20.2
     ·have H := zG h5 H
      refine uA 14 0x3ffff7fffffcf0ff3 1232 ?_
      refine sB' 0x3ffff7fffffcf0ff3 1232 ⟨78,0,[sB 65 false,(64,.tup []),(63,.tup []),(62,.tup []),(61,.tup []),(60,.tup []),(59,.tup []),(58,.tup []),sB 57 false,sB 56 false,(55,.tup []),(54,.tup []),(53,.tup []),(52,.tup []),sB 51 false,sB 50 false,sB 11 false,sA 10 10 5 0,sB 49 false,(36,.tup [(true,[.dead,.dead,.dead,.dead,.dead]),(false,[.dead])]),sV 48 (Vec.row r20.1),sI 46 v19.Co,(45,.fad (((Pt.row v19).drop 1))),(44,.fad ((Pt.row v19))),sI 43 y1,sC 42 (cF 8 x1 Pt.row),sV 41 ((Pt.row v18).drop 3),(40,.fad (((Pt.row v18).drop 3))),(39,.fad ((Pt.row v18))),sI 38 y1,sC 37 (cF 8 x1 Pt.row),sB 35 (!v17.Has),sB 34 (!v17.Has),sB 33 v17.Has,(32,.fad (((Pt.row v17).drop 2))),(31,.fad ((Pt.row v17))),sI 30 y1,sC 29 (cF 8 x1 Pt.row),sB 28 false,sB 27 false,sB 26 v16.Up,(25,.fad ((Pt.row v16))),(24,.fad ((Pt.row v16))),sI 23 y1,sC 22 (cF 8 x1 Pt.row),sB 19 (decide (y1 < (x1.length : Int))),sI 18 (x1.length : Int),sC 17 (cF 8 x1 Pt.row),sI 16 y1,sI 9 y1,sI 8 y2,sA 7 7 5 0,sA 6 6 5 0,sI 5 0,sA 4 4 5 0,sI 0 x0,sC 1 (cF 8 x1 Pt.row)],[(10,(Vec.row r20.1)),(7,[cI y3,cI y4,cI y5,cI y6,cI y7]),(6,[cI y8,cI y9,cI y10,cI x0,cI 0]),(4,[cI 0,cI 0,cI 0,cI 0,cI 0])]⟩ ?_
      rw [h1]
      rw [h3]
      exact jA (false,false,false,false,false,false,false) H [65,57,56,51,50,11,10,49,36,48,46,45,44,43,42,41,40,39,38,37,35,34,33,32,31,30,29,28,27,26,25,24,23,22,19,18,17,16,9,8,7,6,5,4,0,1] [10,7,6,4]
     have H := zH h5 H
     refine lA 6 ?_
     refine sL 0x3ff7fffffcf0ff3 1232 ⟨78,0,[sB 57 (decide (r20.1.Root < x0)),sB 56 (decide (r20.1.Root < x0)),sB 55 (decide (r20.1.Root < x0)),sI 54 x0,sI 53 r20.1.Root,sA 52 10 5 0,sB 51 true,sB 50 true,sB 11 true,sA 10 10 5 0,sB 49 true,(36,.tup [(true,[.dead,.dead,.dead,.dead,.dead]),(false,[.dead])]),sV 48 (Vec.row r20.1),sI 46 v19.Co,(45,.fad (((Pt.row v19).drop 1))),(44,.fad ((Pt.row v19))),sI 43 y1,sC 42 (cF 8 x1 Pt.row),sV 41 ((Pt.row v18).drop 3),(40,.fad (((Pt.row v18).drop 3))),(39,.fad ((Pt.row v18))),sI 38 y1,sC 37 (cF 8 x1 Pt.row),sB 35 (!v17.Has),sB 34 (!v17.Has),sB 33 v17.Has,(32,.fad (((Pt.row v17).drop 2))),(31,.fad ((Pt.row v17))),sI 30 y1,sC 29 (cF 8 x1 Pt.row),sB 28 false,sB 27 false,sB 26 v16.Up,(25,.fad ((Pt.row v16))),(24,.fad ((Pt.row v16))),sI 23 y1,sC 22 (cF 8 x1 Pt.row),sB 19 (decide (y1 < (x1.length : Int))),sI 18 (x1.length : Int),sC 17 (cF 8 x1 Pt.row),sI 16 y1,sI 9 y1,sI 8 y2,sA 7 7 5 0,sA 6 6 5 0,sI 5 0,sA 4 4 5 0,sI 0 x0,sC 1 (cF 8 x1 Pt.row)],[(10,(Vec.row r20.1)),(7,[cI y3,cI y4,cI y5,cI y6,cI y7]),(6,[cI y8,cI y9,cI y10,cI x0,cI 0]),(4,[cI 0,cI 0,cI 0,cI 0,cI 0])]⟩ ?_
     cases h6 : (decide (r20.1.Root < x0))
     ·have H := zG h6 H
      refine uA 8 0x3ffff7fffffcf0ff3 1232 ?_
      refine sB' 0x3ffff7fffffcf0ff3 1232 ⟨78,0,[sB 65 false,(64,.tup []),(63,.tup []),(62,.tup []),(61,.tup []),(60,.tup []),(59,.tup []),(58,.tup []),sB 57 false,sB 56 false,sB 55 false,sI 54 x0,sI 53 r20.1.Root,sA 52 10 5 0,sB 51 true,sB 50 true,sB 11 true,sA 10 10 5 0,sB 49 true,(36,.tup [(true,[.dead,.dead,.dead,.dead,.dead]),(false,[.dead])]),sV 48 (Vec.row r20.1),sI 46 v19.Co,(45,.fad (((Pt.row v19).drop 1))),(44,.fad ((Pt.row v19))),sI 43 y1,sC 42 (cF 8 x1 Pt.row),sV 41 ((Pt.row v18).drop 3),(40,.fad (((Pt.row v18).drop 3))),(39,.fad ((Pt.row v18))),sI 38 y1,sC 37 (cF 8 x1 Pt.row),sB 35 (!v17.Has),sB 34 (!v17.Has),sB 33 v17.Has,(32,.fad (((Pt.row v17).drop 2))),(31,.fad ((Pt.row v17))),sI 30 y1,sC 29 (cF 8 x1 Pt.row),sB 28 false,sB 27 false,sB 26 v16.Up,(25,.fad ((Pt.row v16))),(24,.fad ((Pt.row v16))),sI 23 y1,sC 22 (cF 8 x1 Pt.row),sB 19 (decide (y1 < (x1.length : Int))),sI 18 (x1.length : Int),sC 17 (cF 8 x1 Pt.row),sI 16 y1,sI 9 y1,sI 8 y2,sA 7 7 5 0,sA 6 6 5 0,sI 5 0,sA 4 4 5 0,sI 0 x0,sC 1 (cF 8 x1 Pt.row)],[(10,(Vec.row r20.1)),(7,[cI y3,cI y4,cI y5,cI y6,cI y7]),(6,[cI y8,cI y9,cI y10,cI x0,cI 0]),(4,[cI 0,cI 0,cI 0,cI 0,cI 0])]⟩ ?_
      rw [h1]
      rw [h3]
      exact jA (false,false,false,true,true,true,true) H [65,57,56,51,50,11,10,49,36,48,46,45,44,43,42,41,40,39,38,37,35,34,33,32,31,30,29,28,27,26,25,24,23,22,19,18,17,16,9,8,7,6,5,4,0,1] [10,7,6,4]
     have H := zH h6 H
     refine lA 3 ?_
     refine sL 0x1fff7fffffcf0ff3 1232 ⟨78,0,[sB 60 (decide (y2 < 0)),sB 59 (decide (y2 < 0)),sI 58 y2,sB 57 true,sB 56 true,sB 55 true,sI 54 x0,sI 53 r20.1.Root,sA 52 10 5 0,sB 51 true,sB 50 true,sB 11 true,sA 10 10 5 0,sB 49 true,(36,.tup [(true,[.dead,.dead,.dead,.dead,.dead]),(false,[.dead])]),sV 48 (Vec.row r20.1),sI 46 v19.Co,(45,.fad (((Pt.row v19).drop 1))),(44,.fad ((Pt.row v19))),sI 43 y1,sC 42 (cF 8 x1 Pt.row),sV 41 ((Pt.row v18).drop 3),(40,.fad (((Pt.row v18).drop 3))),(39,.fad ((Pt.row v18))),sI 38 y1,sC 37 (cF 8 x1 Pt.row),sB 35 (!v17.Has),sB 34 (!v17.Has),sB 33 v17.Has,(32,.fad (((Pt.row v17).drop 2))),(31,.fad ((Pt.row v17))),sI 30 y1,sC 29 (cF 8 x1 Pt.row),sB 28 false,sB 27 false,sB 26 v16.Up,(25,.fad ((Pt.row v16))),(24,.fad ((Pt.row v16))),sI 23 y1,sC 22 (cF 8 x1 Pt.row),sB 19 (decide (y1 < (x1.length : Int))),sI 18 (x1.length : Int),sC 17 (cF 8 x1 Pt.row),sI 16 y1,sI 9 y1,sI 8 y2,sA 7 7 5 0,sA 6 6 5 0,sI 5 0,sA 4 4 5 0,sI 0 x0,sC 1 (cF 8 x1 Pt.row)],[(10,(Vec.row r20.1)),(7,[cI y3,cI y4,cI y5,cI y6,cI y7]),(6,[cI y8,cI y9,cI y10,cI x0,cI 0]),(4,[cI 0,cI 0,cI 0,cI 0,cI 0])]⟩ ?_
     cases h7 : (decide (y2 < 0))
     ·have H := zG h7 H
      refine lA 2 ?_
      obtain ⟨r28,er28,H⟩ := bs H
      refine vA [.rd,.rd] (zFf n r20.1 (⟨y3,y4,y5,y6,y7⟩ : Vec) r28 er28) ?_
      refine uA 2 0x3ffff7fffffcf0ff3 1232 ?_
      refine sB' 0x3ffff7fffffcf0ff3 1232 ⟨78,0,[sB 65 r28,sB 64 r28,sB 63 r28,sV 62 [cI y3,cI y4,cI y5,cI y6,cI y7],sV 61 (Vec.row r20.1),sB 60 false,sB 59 false,sI 58 y2,sB 57 true,sB 56 true,sB 55 true,sI 54 x0,sI 53 r20.1.Root,sA 52 10 5 0,sB 51 true,sB 50 true,sB 11 true,sA 10 10 5 0,sB 49 true,(36,.tup [(true,[.dead,.dead,.dead,.dead,.dead]),(false,[.dead])]),sV 48 (Vec.row r20.1),sI 46 v19.Co,(45,.fad (((Pt.row v19).drop 1))),(44,.fad ((Pt.row v19))),sI 43 y1,sC 42 (cF 8 x1 Pt.row),sV 41 ((Pt.row v18).drop 3),(40,.fad (((Pt.row v18).drop 3))),(39,.fad ((Pt.row v18))),sI 38 y1,sC 37 (cF 8 x1 Pt.row),sB 35 (!v17.Has),sB 34 (!v17.Has),sB 33 v17.Has,(32,.fad (((Pt.row v17).drop 2))),(31,.fad ((Pt.row v17))),sI 30 y1,sC 29 (cF 8 x1 Pt.row),sB 28 false,sB 27 false,sB 26 v16.Up,(25,.fad ((Pt.row v16))),(24,.fad ((Pt.row v16))),sI 23 y1,sC 22 (cF 8 x1 Pt.row),sB 19 (decide (y1 < (x1.length : Int))),sI 18 (x1.length : Int),sC 17 (cF 8 x1 Pt.row),sI 16 y1,sI 9 y1,sI 8 y2,sA 7 7 5 0,sA 6 6 5 0,sI 5 0,sA 4 4 5 0,sI 0 x0,sC 1 (cF 8 x1 Pt.row)],[(10,(Vec.row r20.1)),(7,[cI y3,cI y4,cI y5,cI y6,cI y7]),(6,[cI y8,cI y9,cI y10,cI x0,cI 0]),(4,[cI 0,cI 0,cI 0,cI 0,cI 0])]⟩ ?_
      rw [h1]
      rw [h3]
      exact jA (r28,true,true,true,true,true,true) H [65,57,56,51,50,11,10,49,36,48,46,45,44,43,42,41,40,39,38,37,35,34,33,32,31,30,29,28,27,26,25,24,23,22,19,18,17,16,9,8,7,6,5,4,0,1] [10,7,6,4]
     have H := zH h7 H
     refine uA 5 0x3ffff7fffffcf0ff3 1232 ?_
     refine sB' 0x3ffff7fffffcf0ff3 1232 ⟨78,0,[sB 65 true,sB 64 true,(63,.tup []),(62,.tup []),(61,.tup []),sB 60 true,sB 59 true,sI 58 y2,sB 57 true,sB 56 true,sB 55 true,sI 54 x0,sI 53 r20.1.Root,sA 52 10 5 0,sB 51 true,sB 50 true,sB 11 true,sA 10 10 5 0,sB 49 true,(36,.tup [(true,[.dead,.dead,.dead,.dead,.dead]),(false,[.dead])]),sV 48 (Vec.row r20.1),sI 46 v19.Co,(45,.fad (((Pt.row v19).drop 1))),(44,.fad ((Pt.row v19))),sI 43 y1,sC 42 (cF 8 x1 Pt.row),sV 41 ((Pt.row v18).drop 3),(40,.fad (((Pt.row v18).drop 3))),(39,.fad ((Pt.row v18))),sI 38 y1,sC 37 (cF 8 x1 Pt.row),sB 35 (!v17.Has),sB 34 (!v17.Has),sB 33 v17.Has,(32,.fad (((Pt.row v17).drop 2))),(31,.fad ((Pt.row v17))),sI 30 y1,sC 29 (cF 8 x1 Pt.row),sB 28 false,sB 27 false,sB 26 v16.Up,(25,.fad ((Pt.row v16))),(24,.fad ((Pt.row v16))),sI 23 y1,sC 22 (cF 8 x1 Pt.row),sB 19 (decide (y1 < (x1.length : Int))),sI 18 (x1.length : Int),sC 17 (cF 8 x1 Pt.row),sI 16 y1,sI 9 y1,sI 8 y2,sA 7 7 5 0,sA 6 6 5 0,sI 5 0,sA 4 4 5 0,sI 0 x0,sC 1 (cF 8 x1 Pt.row)],[(10,(Vec.row r20.1)),(7,[cI y3,cI y4,cI y5,cI y6,cI y7]),(6,[cI y8,cI y9,cI y10,cI x0,cI 0]),(4,[cI 0,cI 0,cI 0,cI 0,cI 0])]⟩ ?_
     rw [h1]
     rw [h3]
     exact jA (true,true,true,true,true,true,true) H [65,57,56,51,50,11,10,49,36,48,46,45,44,43,42,41,40,39,38,37,35,34,33,32,31,30,29,28,27,26,25,24,23,22,19,18,17,16,9,8,7,6,5,4,0,1] [10,7,6,4]
    rintro ⟨y21,y22,y23,y24,y25,y26,y27⟩ H
    have H : (ZI n (fun v => zg n mo15 x0 x1 v.1 v.2.1 v.2.2.1 v.2.2.2.1 v.2.2.2.2.1 v.2.2.2.2.2.1 v.2.2.2.2.2.2.1 v.2.2.2.2.2.2.2.1 v.2.2.2.2.2.2.2.2.1 v.2.2.2.2.2.2.2.2.2) r20 y1 y10 y2 y3 y4 y5 y6 y7 y8 y9 y21 y22 y23 y24 y25 y26 y27) = some o15 := H
    unfold ZI at H
    cases h4 : y21
    ·have H := zG h4 H
     refine nB_ ?_
     refine tK ?_
     refine eA 3 0x2030f7fffffff0ff3 1232 ?_
     exact jB mo15 ((IntKind.wrap .i64 (y1 + 1)),y2,y3,y4,y5,y6,y7,y8,y9,y10) H [9,8,7,6,5,4,0,1] [7,6,4]
    have H := zH h4 H
    refine tB_ ?_
    refine gA 2 0x6030f7fffffcf0ff3 1232 ?_
    refine gA 2 0xe030f7fffffcf0ff3 1232 ?_
    refine eA 9 0xffe030f7fffffcf0ff3 1232 ?_
    refine eA 3 0xffe030f7fffffff0ff3 1232 ?_
    exact jB mo15 ((IntKind.wrap .i64 (y1 + 1)),y1,r20.1.Root,r20.1.Co,r20.1.Hops,r20.1.Bridge,r20.1.Port,r20.1.Root,r20.1.Co,r20.1.Hops) H [9,8,7,6,5,4,0,1] [7,6,4]
   refine tA h3 ?_
   refine Tr.exit ?_
   refine aJ ?_
   refine eA 3 68719412211 208 ?_
   exact jB mo15 ((IntKind.wrap .i64 (y1 + 1)),y2,y3,y4,y5,y6,y7,y8,y9,y10) H [9,8,7,6,5,4,0,1] [7,6,4]
  have H := zH h2 H
  refine uA 7 68716266483 208 ?_
  refine tB_ ?_
  refine Tr.exit ?_
  refine aJ ?_
  refine eA 3 68719412211 208 ?_
  exact jB mo15 ((IntKind.wrap .i64 (y1 + 1)),y2,y3,y4,y5,y6,y7,y8,y9,y10) H [9,8,7,6,5,4,0,1] [7,6,4]
 rintro ⟨y11,y12,y13,y14⟩ H
 have H : (J2 n x0 y11 y12 y13 y14) = some r := H
 unfold J2 at H
 refine gA 4 48 16 ?_
 exact te (fJ [(true,[cI y12,cI y13,cI y14,cI x0,cI 0]),(false,[cI y11])] H)
def qX (n : Nat) (x0 : Int) (x1 : (List Pt)) (x2 : Int) : Option (Vec) :=
  ((ZS n x0 x1).bind fun r1 => (some (⟨r1.1.Root,r1.1.Co,r1.1.Hops,r1.1.Bridge,x2⟩ : Vec)))
theorem zD9 (n : Nat) (x0 : Int) (x1 : (List Pt)) (x2 : Int) (r : Vec) (H : qX n x0 x1 x2 = some r) : zI Try.prog 198 [.val false [.lit (.int .i64 x0)],.val false [.sl false 8 (CV.frzEs (x1.map Pt.row))],.val false [.lit (.int .i64 x2)]] [.val true (Vec.row r)] [] := by
 refine cW Try.func198 (fun g d => sl [g 0,g 1,g 2,g 3] .ret) [.cell 6 46] fun cx => ?_
 unfold qX at H
 refine gA 1 71 64 ?_
 refine rA 2 ?_
 obtain ⟨r1,er1,H⟩ := bs H
 refine vA [.rd,.rd] (zFc n x0 x1 r1 er1) ?_
 refine LAt.movT tOk (ty := 157) (t := 12) (d := 9) (g := none) [(true,(Vec.row r1.1)),(false,[cI r1.2])] _ kr (.inl rfl) kr kr kr kr rfl ?_
 refine uA 5 196 192 ?_
 refine gA 3 192 192 ?_
 refine gA 2 64 64 ?_
 exact te (fJ [(true,[cI r1.1.Root,cI r1.1.Co,cI r1.1.Hops,cI r1.1.Bridge,cI x2])] H)
def Yf (n : Nat) (x0 : Int) (x1 : (List Pt)) (x2 : Int) : Option (Int) :=
  ((zP n x2 0 (IntKind.wrap .i64 ((x1.length : Int) - 1))).bind fun r1 => (bif (!r1) then (some 4) else ((idx x1 x2).bind fun v2 => (bif (!v2.Up) then (some 4) else ((ZS n x0 x1).bind fun r3 => (bif (r3.2 == x2) then (some 1) else ((idx x1 x2).bind fun v4 => (bif (!v4.Has) then (some 2) else ((qX n x0 x1 x2).bind fun r5 => ((idx x1 x2).bind fun v6 => ((QN n r5 v6.Hd).bind fun r7 => (bif r7 then (some 2) else (some 3)))))))))))))
def zM5 : Tab := ⟨19,[0,0,3,4,8,16,32,64,64,64,960,64,64,6208,8256,16448,33856,65600,196608],[0,0,3,4,8,16,32,64,64,64,960,64,64,6208,8256,16448,33856,65600,131072],[0,0,3,7,15,31,63,127,127,127,1023,127,127,6271,14463,30847,65535,131071,262143]⟩
theorem Yc : zk (rg Try.f184 6) zM5 = true := kr
theorem zJ1 (n : Nat) (x0 : Int) (x1 : (List Pt)) (x2 : Int) (r : Int) (H : Yf n x0 x1 x2 = some r) : zI Try.prog 184 [.val false [.lit (.int .i64 x0)],.val false [.sl false 8 (CV.frzEs (x1.map Pt.row))],.val false [.lit (.int .i64 x2)]] [.val false [.lit (.int .i64 r)]] [] := by
 refine cW Try.func184 (fun g d => sl [g 0,sl [g 1] (cn 22 (sl [g 2] .ret) .skip),g 3,.block 0 (sl [g 4] (cn 29 (sl [g 5] .ret) (sl [d 6] (cn 33 (sl [g 7] .ret) .skip)))),g 8] .ret) [.tmp 6] fun cx => ?_
 unfold Yf at H
 refine gA 1 7 0 ?_
 refine tS ?_
 refine rA 2 ?_
 refine kF x1 Pt.row ?_
 refine lA 1 ?_
 obtain ⟨r1,er1,H⟩ := bs H
 refine vA [.rd,.rd,.rd] (zQ n x2 0 (IntKind.wrap .i64 ((x1.length : Int) - 1)) r1 er1) ?_
 refine lA 2 ?_
 refine sL 32775 0 ⟨52,0,[sB 15 (!r1),sI 0 x0,sC 1 (cF 8 x1 Pt.row),sI 2 x2],[]⟩ ?_
 cases h1 : (!r1)
 ·have H := zG h1 H
  refine lA 2 ?_
  obtain ⟨v2,ev2,H⟩ := bs H
  refine iA Pt.row ev2 ?_
  refine uA 4 4194311 0 ?_
  obtain ⟨h2,H⟩ | ⟨h2,H⟩ := bC H
  ·refine nA h2 ?_
   refine tK ?_
   refine rA 2 ?_
   obtain ⟨r3,er3,H⟩ := bs H
   refine vA [.rd,.rd] (zFc n x0 x1 r3 er3) ?_
   refine LAt.movT tOk (ty := 157) (t := 26) (d := 23) (g := none) [(true,(Vec.row r3.1)),(false,[cI r3.2])] _ kr (.inl rfl) kr kr kr kr rfl ?_
   refine uA 5 263 0 ?_
   refine tS ?_
   refine tB ?_
   refine gA 4 536870919 0 ?_
   obtain ⟨h3,H⟩ | ⟨h3,H⟩ := bC H
   ·refine nA h3 ?_
    obtain ⟨v4,ev4,H⟩ := bs H
    refine sT ⟨52,0,[sB 29 (r3.2 == x2),sI 0 x0,sC 1 (cF 8 x1 Pt.row),sI 2 x2],[]⟩ ?_
    cases h4 : (!v4.Has)
    ·have H := zG h4 H
     obtain ⟨r5,er5,H⟩ := bs H
     obtain ⟨v6,ev6,H⟩ := bs H
     obtain ⟨r7,er7,H⟩ := bs H
     refine Tr.draws mixed 19 kr ⟨52,0,[sB 33 r7],[]⟩ (fun cx => ?_) ?_
     ·refine mA Yc [(0,[]),(1,[])] 17 [] fun cx => ?_
      refine iN Yc 2 Pt.row ev4 fun cx => ?_
      refine mA Yc [(3,[]),(4,[]),(5,[]),(6,[])] 12 [] fun cx => ?_
      refine sA_ 1099511627783 0 ⟨52,0,[sB 40 (!v4.Has),sI 0 x0,sC 1 (cF 8 x1 Pt.row),sI 2 x2],[]⟩ ?_
      rw [h4]
      refine mA Yc [(7,[]),(8,[]),(9,[]),(11,[]),(12,[])] 7 [] fun cx => ?_
      refine iN Yc 13 Pt.row ev6 fun cx => ?_
      refine mA Yc [(14,[]),(15,[])] 4 [] fun cx => ?_
      refine mC Yc 10 ?_
      refine vA [.rd,.rd,.rd] (zD9 n x0 x1 x2 r5 er5) ?_
      refine fA ?_
      refine mC Yc 16 ?_
      refine vA [.rd,.rd] (zFf n r5 v6.Hd r7 er7) ?_
      refine fA ?_
      refine mA Yc [(17,[]),(18,[])] 0 [] fun cx => ?_
      exact mE Yc [33] []
     cases h5 : r7
     ·have H := zG h5 H
      refine nB_ ?_
      refine tK ?_
      refine gA 1 64 0 ?_
      exact te (fJ [(false,[cI 3])] H)
     have H := zH h5 H
     refine tB_ ?_
     refine gA 1 64 0 ?_
     exact te (fJ [(false,[cI 2])] H)
    have H := zH h4 H
    refine Tr.draws mixed 19 kr ⟨52,0,[sB 33 true],[]⟩ (fun cx => ?_) ?_
    ·refine mA Yc [(0,[]),(1,[])] 17 [] fun cx => ?_
     refine iN Yc 2 Pt.row ev4 fun cx => ?_
     refine mA Yc [(3,[]),(4,[]),(5,[]),(6,[])] 12 [] fun cx => ?_
     refine sA_ 1099511627783 0 ⟨52,0,[sB 40 (!v4.Has),sI 0 x0,sC 1 (cF 8 x1 Pt.row),sI 2 x2],[]⟩ ?_
     rw [h4]
     refine mA Yc [(7,[]),(8,[]),(9,[]),(10,[]),(11,[]),(12,[]),(13,[]),(14,[]),(15,[]),(16,[]),(17,[]),(18,[])] 0 [] fun cx => ?_
     exact mE Yc [33] []
    refine tB_ ?_
    refine gA 1 64 0 ?_
    exact te (fJ [(false,[cI 2])] H)
   refine tA h3 ?_
   refine gA 1 64 0 ?_
   exact te (fJ [(false,[cI 1])] H)
  refine tA h2 ?_
  refine gA 1 64 0 ?_
  exact te (fJ [(false,[cI 4])] H)
 have H := zH h1 H
 refine uA 7 4194311 0 ?_
 refine tB_ ?_
 refine gA 1 64 0 ?_
 exact te (fJ [(false,[cI 4])] H)
def zBC (n : Nat) (y3 : Int) : Option (Int) :=
  (some y3)
def ZF (n : Nat) : Nat → Int → (List Pt) → Int → Int → Option ((Int) ⊕ (Int))
  | 0,_,_,_,_ => none
  | mo4 + 1,x0,x1,y1,y2 => (bif (decide (y1 < (x1.length : Int))) then (bif (decide (y1 < 6)) then ((Yf n x0 x1 y1).bind fun r5 => (bif (decide (r5 ≤ 2)) then (bif (decide ((0 : Int) ≤ (IntKind.wrap .u64 y1))) then (ZF n mo4 x0 x1 (IntKind.wrap .i64 (y1 + 1)) (IntKind.wrap .i64 (BitVec.ofInt (IntKind.bits .i64) y2 ||| BitVec.ofInt (IntKind.bits .i64) (IntKind.wrap .i64 (1 * 2 ^ min (((IntKind.wrap .u64 y1) : Int)).toNat (IntKind.bits .i64)))).toNat)) else none) else (ZF n mo4 x0 x1 (IntKind.wrap .i64 (y1 + 1)) y2))) else (some (Sum.inl y2))) else (some (Sum.inl y2)))
def ZJ (n : Nat) (x0 : Int) (x1 : (List Pt)) : Option (Int) :=
  ((ZF n n x0 x1 0 0).bind fun o => match o with | .inl y3 => (zBC n y3) | .inr r => some r)
theorem zKx (n : Nat) (x0 : Int) (x1 : (List Pt)) (r : Int) (H : ZJ n x0 x1 = some r) : zI Try.prog 199 [.val false [.lit (.int .i64 x0)],.val false [.sl false 8 (CV.frzEs (x1.map Pt.row))]] [.val false [.lit (.int .i64 r)]] [] := by
 refine cW Try.func199 (fun g d => sl [g 0,g 1,sl [g 2] (.block 0 (.loop (sl [sl [g 3] (cn 14 .skip (.exit 0)),.block 1 (sl [g 5] (cn 21 (g 6) .skip))] (g 4)))),g 7] .ret) [.tmp 4] fun cx => ?_
 unfold ZJ at H
 refine gA 1 3 0 ?_
 refine gA 1 35 0 ?_
 refine tS ?_
 refine gA 1 99 0 ?_
 obtain ⟨o4,eo4,Ho4⟩ := bs H
 clear H
 refine Tr.mid (ι := Int) (fun v => ⟨28,0,[sI 5 v],[]⟩) (fun v => zBC n v = some r) ?_ ?_
 ·refine tB ?_
  refine Tr.loop (ι := Nat × (Int × Int)) (fun v => ⟨28,0,[sI 6 v.2.1,sI 5 v.2.2,sI 0 x0,sC 1 (cF 8 x1 Pt.row)],[]⟩) (fun v => ZF n v.1 x0 x1 v.2.1 v.2.2 = some o4) (fun v => v.1) (n,(0,0)) eo4 (St.sub_of [6,5,0,1] [] kr) ?_
  rintro ⟨mo4,y1,y2⟩ H
  have H : ZF n mo4 x0 x1 y1 y2 = some o4 := H
  obtain _ | mo4 := mo4
  ·exact nN H
  rw [ZF] at H
  refine tS ?_
  refine rA 2 ?_
  refine kF x1 Pt.row ?_
  refine lA 2 ?_
  refine sL 2147 0 ⟨28,0,[sB 11 (decide (y1 < (x1.length : Int))),sI 6 y1,sI 5 y2,sI 0 x0,sC 1 (cF 8 x1 Pt.row)],[]⟩ ?_
  cases h1 : (decide (y1 < (x1.length : Int)))
  ·have H := zG h1 H
   refine uA 3 16483 0 ?_
   refine nB_ ?_
   refine Tr.exit ?_
   refine aJ ?_
   obtain rfl := si H
   have H := Ho4
   dsimp only at H
   exact jA y2 H [5] []
  have H := zH h1 H
  refine uA 3 16483 0 ?_
  obtain ⟨h2,H⟩ | ⟨h2,H⟩ := bC H
  ·refine nA h2 ?_
   refine Tr.exit ?_
   refine aJ ?_
   obtain rfl := si H
   have H := Ho4
   dsimp only at H
   exact jA y2 H [5] []
  refine tA h2 ?_
  refine tK ?_
  refine tS ?_
  refine tB ?_
  refine rA 3 ?_
  obtain ⟨r5,er5,H⟩ := bs H
  refine vA [.rd,.rd,.rd] (zJ1 n x0 x1 y1 r5 er5) ?_
  refine uA 1 2097251 0 ?_
  obtain ⟨h3,H⟩ | ⟨h3,H⟩ := bC H
  ·refine nA h3 ?_
   refine tK ?_
   refine eA 3 99 0 ?_
   exact jB mo4 ((IntKind.wrap .i64 (y1 + 1)),y2) H [6,5,0,1] []
  refine tA h3 ?_
  refine Tr.at ?_
  refine lA 3 ?_
  obtain ⟨hg6,H⟩ := gs H
  refine LAt.binC tOk (op := .shl) (t := 3) (ty := 103) (ty' := 3) (x := (.const (.int .i64 1))) (y := (.tmp 24)) (d := 25) (g := none) (.int .i64 1) (.int .u64 (IntKind.wrap .u64 y1)) (.int .i64 (IntKind.wrap .i64 (1 * 2 ^ min (((IntKind.wrap .u64 y1) : Int)).toNat (IntKind.bits .i64)))) _ kr kr kr kr kr (φ := (0 : Int) ≤ (IntKind.wrap .u64 y1)) kr (of_decide_eq_true hg6) rfl ?_
  refine uA 2 99 0 ?_
  refine eA 3 99 0 ?_
  exact jB mo4 ((IntKind.wrap .i64 (y1 + 1)),(IntKind.wrap .i64 (BitVec.ofInt (IntKind.bits .i64) y2 ||| BitVec.ofInt (IntKind.bits .i64) (IntKind.wrap .i64 (1 * 2 ^ min (((IntKind.wrap .u64 y1) : Int)).toNat (IntKind.bits .i64)))).toNat)) H [6,5,0,1] []
 rintro y3 H
 have H : (zBC n y3) = some r := H
 unfold zBC at H
 refine gA 2 16 0 ?_
 exact te (fJ [(false,[cI y3])] H)
def YV (n : Nat) (x0 : Int) (x1 : Int) : Option (Bool) :=
  ((zP n x1 0 7).bind fun r1 => (bif r1 then (bif (decide ((0 : Int) ≤ (IntKind.wrap .u64 x1))) then (some ((IntKind.wrap .i64 (BitVec.ofInt (IntKind.bits .i64) (Int.fdiv x0 (2 ^ min (((IntKind.wrap .u64 x1) : Int)).toNat (IntKind.bits .i64))) &&& BitVec.ofInt (IntKind.bits .i64) 1).toNat) == 1)) else none) else (some false)))
theorem zKz (n : Nat) (x0 : Int) (x1 : Int) (r : Bool) (H : YV n x0 x1 = some r) : zI Try.prog 200 [.val false [.lit (.int .i64 x0)],.val false [.lit (.int .i64 x1)]] [.val false [.lit (.bool r)]] [] := by
 refine cW Try.func200 (fun g d => sl [g 0,g 1] .ret) [.tmp 4] fun cx => ?_
 unfold YV at H
 refine gA 1 3 0 ?_
 refine rA 1 ?_
 obtain ⟨r1,er1,H⟩ := bs H
 refine vA [.rd,.rd,.rd] (zQ n x1 0 7 r1 er1) ?_
 refine lA 1 ?_
 refine sL 131 0 ⟨15,0,[sB 7 r1,sI 0 x0,sI 1 x1],[]⟩ ?_
 cases h1 : r1
 ·have H := zG h1 H
  refine uA 8 16 0 ?_
  exact te (fF H)
 have H := zH h1 H
 refine lA 3 ?_
 obtain ⟨hg2,H⟩ := gs H
 refine LAt.binC tOk (op := .shr) (t := 3) (ty := 103) (ty' := 3) (x := (.tmp 8)) (y := (.tmp 10)) (d := 11) (g := (some (2,true))) (.int .i64 x0) (.int .u64 (IntKind.wrap .u64 x1)) (.int .i64 (Int.fdiv x0 (2 ^ min (((IntKind.wrap .u64 x1) : Int)).toNat (IntKind.bits .i64)))) _ kr kr kr kr kr (φ := (0 : Int) ≤ (IntKind.wrap .u64 x1)) kr (of_decide_eq_true hg2) rfl ?_
 refine uA 4 16 0 ?_
 exact te (fJ [(false,[cB ((IntKind.wrap .i64 (BitVec.ofInt (IntKind.bits .i64) (Int.fdiv x0 (2 ^ min (((IntKind.wrap .u64 x1) : Int)).toNat (IntKind.bits .i64))) &&& BitVec.ofInt (IntKind.bits .i64) 1).toNat) == 1)])] H)
def YR (n : Nat) (y3 : (List zB)) : Option ((List zB)) :=
  (some y3)
def qr (n : Nat) : Nat → (List zB) → Int → Int → (List zB) → Option (((List zB)) ⊕ ((List zB)))
  | 0,_,_,_,_ => none
  | mo4 + 1,x0,x1,y1,y2 => (bif (decide (y1 < (x0.length : Int))) then ((idx x0 y1).bind fun v5 => (bif v5.Sc then ((idx x0 y1).bind fun v9 => (bif (decide (y2.length + [v9].length ≤ 268435456)) then (qr n mo4 x0 x1 (IntKind.wrap .i64 (y1 + 1)) (y2 ++ [v9])) else none)) else ((idx x0 y1).bind fun v6 => (bif (v6.Port != x1) then ((idx x0 y1).bind fun v7 => (bif (decide (y2.length + [v7].length ≤ 268435456)) then (qr n mo4 x0 x1 (IntKind.wrap .i64 (y1 + 1)) (y2 ++ [v7])) else none)) else (qr n mo4 x0 x1 (IntKind.wrap .i64 (y1 + 1)) y2))))) else (some (Sum.inl y2)))
def Yz (n : Nat) (x0 : (List zB)) (x1 : Int) : Option ((List zB)) :=
  ((qr n n x0 x1 0 ([] : List zB)).bind fun o => match o with | .inl y3 => (YR n y3) | .inr r => some r)
theorem zH5 (n : Nat) (x0 : (List zB)) (x1 : Int) (r : (List zB)) (H : Yz n x0 x1 = some r) : zI Try.prog 201 [.val false [.sl false 5 (CV.frzEs (x0.map zB.row))],.val false [.lit (.int .i64 x1)]] [.val false [.sl true 5 (r.map zB.row)]] [] := by
 refine cW Try.func201 (fun g d => sl [g 0,g 1,sl [g 2] (.block 0 (.loop (sl [sl [g 3] (cn 11 .skip (.exit 0)),.block 1 (sl [g 5] (cn 27 (g 6) .skip))] (g 4)))),g 7] .ret) [.tmp 4] fun cx => ?_
 unfold Yz at H
 refine gA 1 3 0 ?_
 refine rA 1 ?_
 refine LAt.moveU (T := lk tab) (ty := 36) (x := (.tmp 7)) (d := 5) (g := none) false [cL 5 ([] : List zB) zB.row] kr kr kr kr kr ?_
 refine dA 35 0 ?_
 refine tS ?_
 refine gA 1 99 0 ?_
 obtain ⟨o4,eo4,Ho4⟩ := bs H
 clear H
 refine Tr.mid (ι := (List zB)) (fun v => ⟨36,0,[sC 5 (cL 5 v zB.row)],[]⟩) (fun v => YR n v = some r) ?_ ?_
 ·refine tB ?_
  refine Tr.loop (ι := Nat × (Int × (List zB))) (fun v => ⟨36,0,[sI 6 v.2.1,sC 5 (cL 5 v.2.2 zB.row),sC 0 (cF 5 x0 zB.row),sI 1 x1],[]⟩) (fun v => qr n v.1 x0 x1 v.2.1 v.2.2 = some o4) (fun v => v.1) (n,(0,([] : List zB))) eo4 (St.sub_of [6,5,0,1] [] kr) ?_
  rintro ⟨mo4,y1,y2⟩ H
  have H : qr n mo4 x0 x1 y1 y2 = some o4 := H
  obtain _ | mo4 := mo4
  ·exact nN H
  rw [qr] at H
  refine tS ?_
  refine rA 2 ?_
  refine kF x0 zB.row ?_
  refine uA 1 2147 0 ?_
  obtain ⟨h1,H⟩ | ⟨h1,H⟩ := bC H
  ·refine nA h1 ?_
   refine Tr.exit ?_
   refine aJ ?_
   obtain rfl := si H
   have H := Ho4
   dsimp only at H
   exact jA y2 H [5] []
  refine tA h1 ?_
  refine tK ?_
  refine tS ?_
  refine tB ?_
  refine tS ?_
  refine Tr.at ?_
  refine lA 2 ?_
  obtain ⟨v5,ev5,H⟩ := bs H
  refine iA zB.row ev5 ?_
  refine lA 3 ?_
  refine sL 524387 0 ⟨36,0,[sB 19 v5.Sc,sI 6 y1,sC 5 (cL 5 y2 zB.row),sC 0 (cF 5 x0 zB.row),sI 1 x1],[]⟩ ?_
  cases h2 : v5.Sc
  ·have H := zG h2 H
   refine lA 2 ?_
   obtain ⟨v6,ev6,H⟩ := bs H
   refine iA zB.row ev6 ?_
   refine uA 5 134217827 0 ?_
   obtain ⟨h3,H⟩ | ⟨h3,H⟩ := bC H
   ·refine nA h3 ?_
    refine tK ?_
    refine eA 3 99 0 ?_
    exact jB mo4 ((IntKind.wrap .i64 (y1 + 1)),y2) H [6,5,0,1] []
   refine tA h3 ?_
   refine Tr.at ?_
   refine lA 3 ?_
   obtain ⟨v7,ev7,H⟩ := bs H
   refine iA zB.row ev7 ?_
   refine lA 2 ?_
   obtain ⟨hg8,H⟩ := gs H
   refine LAt.appMU tOk (t := 36) (ty := 36) (e := 60) (x := (.tmp 28)) (y := (.tmp 33)) (d := 34) (g := none) (tI 60) zB.row y2 [v7] kr kr kr kr kr kr kr kr kr kr hg8 ?_
   refine LAt.moveU (T := lk tab) (ty := 36) (x := (.tmp 34)) (d := 5) (g := none) false [cL 5 (y2 ++ [v7]) zB.row] kr kr kr kr kr ?_
   refine dA 99 0 ?_
   refine eA 3 99 0 ?_
   exact jB mo4 ((IntKind.wrap .i64 (y1 + 1)),(y2 ++ [v7])) H [6,5,0,1] []
  have H := zH h2 H
  refine uA 8 134217827 0 ?_
  refine tB_ ?_
  refine Tr.at ?_
  refine lA 3 ?_
  obtain ⟨v9,ev9,H⟩ := bs H
  refine iA zB.row ev9 ?_
  refine lA 2 ?_
  obtain ⟨hg10,H⟩ := gs H
  refine LAt.appMU tOk (t := 36) (ty := 36) (e := 60) (x := (.tmp 28)) (y := (.tmp 33)) (d := 34) (g := none) (tI 60) zB.row y2 [v9] kr kr kr kr kr kr kr kr kr kr hg10 ?_
  refine LAt.moveU (T := lk tab) (ty := 36) (x := (.tmp 34)) (d := 5) (g := none) false [cL 5 (y2 ++ [v9]) zB.row] kr kr kr kr kr ?_
  refine dA 99 0 ?_
  refine eA 3 99 0 ?_
  exact jB mo4 ((IntKind.wrap .i64 (y1 + 1)),(y2 ++ [v9])) H [6,5,0,1] []
 rintro y3 H
 have H : (YR n y3) = some r := H
 unfold YR at H
 refine gA 2 48 0 ?_
 exact te (fJ [(false,[cL 5 y3 zB.row])] H)
def JA (n : Nat) (r1 : Int) (x0 : zA) (y5 : (List zB)) : Option (zA) :=
  (some (⟨x0.Id,x0.Name,x0.Ps,y5,x0.V,x0.Tk,x0.Pa,x0.Wo,x0.Dr,r1⟩ : zA))
def qZ (n : Nat) : Nat → Int → zA → Int → (List zB) → Option (((List zB)) ⊕ (zA))
  | 0,_,_,_,_ => none
  | mo6 + 1,r2,x0,y3,y4 => (bif (decide (y3 < (x0.Ps.length : Int))) then ((YV n r2 y3).bind fun r7 => (bif (!r7) then ((Yz n y4 y3).bind fun r8 => (qZ n mo6 r2 x0 (IntKind.wrap .i64 (y3 + 1)) r8)) else (qZ n mo6 r2 x0 (IntKind.wrap .i64 (y3 + 1)) y4))) else (some (Sum.inl y4)))
def qx (n : Nat) (x0 : zA) : Option (zA) :=
  ((Yh n x0.Ve).bind fun r1 => ((ZJ n x0.Id x0.Ps).bind fun r2 => ((qZ n n r2 x0 0 x0.F).bind fun o => match o with | .inl y5 => (JA n r1 x0 y5) | .inr r => some r)))
theorem zCA (n : Nat) (x0 : zA) (r : zA) (H : qx n x0 = some r) : zI Try.prog 190 [.own true (zA.row x0)] [.val true (zA.row r)] [] := by
 refine cW Try.func190 (fun g d => sl [g 0,g 1,g 2,sl [g 3] (.block 0 (.loop (sl [sl [g 4] (cn 18 .skip (.exit 0)),.block 1 (sl [g 6] (cn 24 (g 7) .skip))] (g 5)))),g 8] .ret) [.cell 2 42] fun cx => ?_
 unfold qx at H
 refine gA 2 6 6 ?_
 refine rA 2 ?_
 obtain ⟨r1,er1,H⟩ := bs H
 refine vA [.rd] (zGV n x0.Ve r1 er1) ?_
 refine uA 2 6 6 ?_
 refine rA 4 ?_
 obtain ⟨r2,er2,H⟩ := bs H
 refine vB [.rd,.rd] [.box 1] (zKx n x0.Id x0.Ps r2 er2) (.inr (qV (zK zR qW) qh)) ?_
 refine uA 1 14 6 ?_
 refine tS ?_
 refine gA 1 30 6 ?_
 obtain ⟨o6,eo6,Ho6⟩ := bs H
 clear H
 refine Tr.mid (ι := (List zB)) (fun v => ⟨31,0,[sA 2 2 11 0,sA 1 1 11 0],[(1,[cI x0.Id,cS x0.Name,cL 8 x0.Ps Pt.row,cL 5 v zB.row,cL 3 x0.V.Rows zF.row,cL 1 x0.V.Pv intRow,cI x0.Tk,cI x0.Pa,cI x0.Wo,cI x0.Dr,cI r1]),(2,[cI 0,cS (⟨#[]⟩ : ByteArray),cL 8 ([] : List Pt) Pt.row,cL 5 ([] : List zB) zB.row,cL 3 ([] : List zF) zF.row,cL 1 ([] : List Int) intRow,cI 0,cI 0,cI 0,cI 0,cI 0])]⟩) (fun v => JA n r1 x0 v = some r) ?_ ?_
 ·refine tB ?_
  refine Tr.loop (ι := Nat × (Int × (List zB))) (fun v => ⟨31,0,[sI 4 v.2.1,sI 3 r2,sA 2 2 11 0,sA 1 1 11 0],[(1,[cI x0.Id,cS x0.Name,cL 8 x0.Ps Pt.row,cL 5 v.2.2 zB.row,cL 3 x0.V.Rows zF.row,cL 1 x0.V.Pv intRow,cI x0.Tk,cI x0.Pa,cI x0.Wo,cI x0.Dr,cI r1]),(2,[cI 0,cS (⟨#[]⟩ : ByteArray),cL 8 ([] : List Pt) Pt.row,cL 5 ([] : List zB) zB.row,cL 3 ([] : List zF) zF.row,cL 1 ([] : List Int) intRow,cI 0,cI 0,cI 0,cI 0,cI 0])]⟩) (fun v => qZ n v.1 r2 x0 v.2.1 v.2.2 = some o6) (fun v => v.1) (n,(0,x0.F)) eo6 (St.sub_of [4,3,2,1] [1,2] kr) ?_
  rintro ⟨mo6,y3,y4⟩ H
  have H : qZ n mo6 r2 x0 y3 y4 = some o6 := H
  obtain _ | mo6 := mo6
  ·exact nN H
  rw [qZ] at H
  refine tS ?_
  refine rA 3 ?_
  refine kO x0.Ps Pt.row ?_
  refine uA 1 262174 6 ?_
  obtain ⟨h1,H⟩ | ⟨h1,H⟩ := bC H
  ·refine nA h1 ?_
   refine Tr.exit ?_
   refine aJ ?_
   obtain rfl := si H
   have H := Ho6
   dsimp only at H
   exact jA y4 H [2,1] [1,2]
  refine tA h1 ?_
  refine tK ?_
  refine tS ?_
  refine tB ?_
  refine rA 2 ?_
  obtain ⟨r7,er7,H⟩ := bs H
  refine vA [.rd,.rd] (zKz n r2 y3 r7 er7) ?_
  refine uA 1 16777246 6 ?_
  obtain ⟨h2,H⟩ | ⟨h2,H⟩ := bC H
  ·refine nA h2 ?_
   refine tK ?_
   refine eA 3 30 6 ?_
   exact jB mo6 ((IntKind.wrap .i64 (y3 + 1)),y4) H [4,3,2,1] [1,2]
  refine tA h2 ?_
  refine Tr.at ?_
  refine lA 3 ?_
  obtain ⟨r8,er8,H⟩ := bs H
  refine vB [.rd,.rd] [.box 1] (zH5 n y4 y3 r8 er8) (.inr (qV (zK (YG (QU zB.row_mine _)) qW) qh)) ?_
  refine uA 2 30 6 ?_
  refine eA 3 30 6 ?_
  exact jB mo6 ((IntKind.wrap .i64 (y3 + 1)),r8) H [4,3,2,1] [1,2]
 rintro y5 H
 have H : (JA n r1 x0 y5) = some r := H
 unfold JA at H
 refine gA 2 4 4 ?_
 exact te (fJ [(true,[cI x0.Id,cS x0.Name,cL 8 x0.Ps Pt.row,cL 5 y5 zB.row,cL 3 x0.V.Rows zF.row,cL 1 x0.V.Pv intRow,cI x0.Tk,cI x0.Pa,cI x0.Wo,cI x0.Dr,cI r1])] H)
end Go.Proofs.Ytajadnlejdpceaa.Tw
