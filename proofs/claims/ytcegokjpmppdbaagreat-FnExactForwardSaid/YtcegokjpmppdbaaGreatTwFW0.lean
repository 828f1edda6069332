import Derived.Test.YtcegokjpmppdbaaGreatProg
import Derived.Test.YtcegokjpmppdbaaGreatTlRule
import Derived.Test.YtcegokjpmppdbaaGreatTlU9
import Derived.WalkKit
set_option linter.unusedVariables false
set_option linter.unusedSimpArgs false
set_option maxRecDepth 100000
set_option maxHeartbeats 1000000
namespace Go.Proofs.YtcegokjpmppdbaaGreat.Tw
open Go Go.TL Go.Proofs
def tab : List (Nat × TI) := [(2,⟨.int .i64,1,8,[.lit (.int .i64 0)]⟩),
  (3,⟨.int .i64,1,8,[.lit (.int .i64 0)]⟩),
  (4,⟨.bool,1,1,[.lit (.bool false)]⟩),
  (5,⟨.int .u8,1,1,[.lit (.int .u8 0)]⟩),
  (6,⟨.int .u8,1,1,[.lit (.int .u8 0)]⟩),
  (7,⟨.st [(0,1,2),(1,1,3),(2,1,4),(3,1,6)],4,24,[.lit (.int .i64 0),.lit (.int .i64 0),.lit (.bool false),.lit (.int .u8 0)]⟩),
  (8,⟨.st [(0,1,2),(1,1,3),(2,1,4),(3,1,6)],4,24,[.lit (.int .i64 0),.lit (.int .i64 0),.lit (.bool false),.lit (.int .u8 0)]⟩),
  (9,⟨.str,1,16,[.lit (.string ⟨#[]⟩)]⟩),
  (22,⟨.sl 200,1,24,[.sl true 8 []]⟩),
  (23,⟨.sl 202,1,24,[.sl true 5 []]⟩),
  (24,⟨.sl 244,1,24,[.sl true 3 []]⟩),
  (25,⟨.sl 3,1,24,[.sl true 1 []]⟩),
  (27,⟨.st [(0,1,24),(1,1,25)],2,48,[.sl true 3 [],.sl true 1 []]⟩),
  (29,⟨.st [(0,1,3),(1,1,9),(2,1,22),(3,1,23),(4,2,27),(6,1,3),(7,1,3),(8,1,3),(9,1,3),(10,1,3)],11,160,[.lit (.int .i64 0),.lit (.string ⟨#[]⟩),.sl true 8 [],.sl true 5 [],.sl true 3 [],.sl true 1 [],.lit (.int .i64 0),.lit (.int .i64 0),.lit (.int .i64 0),.lit (.int .i64 0),.lit (.int .i64 0)]⟩),
  (30,⟨.sl 5,1,24,[.sl true 1 []]⟩),
  (32,⟨.st [(0,1,3),(1,1,3),(2,1,3),(3,1,30)],4,48,[.lit (.int .i64 0),.lit (.int .i64 0),.lit (.int .i64 0),.sl true 1 []]⟩),
  (35,⟨.sl 167,1,24,[.sl true 8 []]⟩),
  (36,⟨.sl 169,1,24,[.sl true 5 []]⟩),
  (37,⟨.sl 175,1,24,[.sl true 3 []]⟩),
  (39,⟨.st [(0,1,37),(1,1,25)],2,48,[.sl true 3 [],.sl true 1 []]⟩),
  (41,⟨.st [(0,1,3),(1,1,9),(2,1,35),(3,1,36),(4,2,39),(6,1,3),(7,1,3),(8,1,3),(9,1,3),(10,1,3)],11,160,[.lit (.int .i64 0),.lit (.string ⟨#[]⟩),.sl true 8 [],.sl true 5 [],.sl true 3 [],.sl true 1 [],.lit (.int .i64 0),.lit (.int .i64 0),.lit (.int .i64 0),.lit (.int .i64 0),.lit (.int .i64 0)]⟩),
  (42,⟨.sl 94,1,24,[.sl true 5 []]⟩),
  (46,⟨.st [(0,1,3),(1,1,3),(2,1,3),(3,1,30)],4,48,[.lit (.int .i64 0),.lit (.int .i64 0),.lit (.int .i64 0),.sl true 1 []]⟩),
  (94,⟨.st [(0,1,3),(1,4,46)],5,56,[.lit (.int .i64 0),.lit (.int .i64 0),.lit (.int .i64 0),.lit (.int .i64 0),.sl true 1 []]⟩),
  (124,⟨.int .u64,1,8,[.lit (.int .u64 0)]⟩),
  (165,⟨.st [(0,1,3),(1,1,3),(2,1,3),(3,1,3),(4,1,3)],5,40,[.lit (.int .i64 0),.lit (.int .i64 0),.lit (.int .i64 0),.lit (.int .i64 0),.lit (.int .i64 0)]⟩),
  (167,⟨.st [(0,1,4),(1,1,3),(2,1,4),(3,5,165)],8,64,[.lit (.bool false),.lit (.int .i64 0),.lit (.bool false),.lit (.int .i64 0),.lit (.int .i64 0),.lit (.int .i64 0),.lit (.int .i64 0),.lit (.int .i64 0)]⟩),
  (169,⟨.st [(0,1,3),(1,1,3),(2,1,3),(3,1,3),(4,1,4)],5,40,[.lit (.int .i64 0),.lit (.int .i64 0),.lit (.int .i64 0),.lit (.int .i64 0),.lit (.bool false)]⟩),
  (175,⟨.st [(0,1,3),(1,1,3),(2,1,3)],3,24,[.lit (.int .i64 0),.lit (.int .i64 0),.lit (.int .i64 0)]⟩),
  (198,⟨.st [(0,1,3),(1,1,3),(2,1,3),(3,1,3),(4,1,3)],5,40,[.lit (.int .i64 0),.lit (.int .i64 0),.lit (.int .i64 0),.lit (.int .i64 0),.lit (.int .i64 0)]⟩),
  (200,⟨.st [(0,1,4),(1,1,3),(2,1,4),(3,5,198)],8,64,[.lit (.bool false),.lit (.int .i64 0),.lit (.bool false),.lit (.int .i64 0),.lit (.int .i64 0),.lit (.int .i64 0),.lit (.int .i64 0),.lit (.int .i64 0)]⟩),
  (202,⟨.st [(0,1,3),(1,1,3),(2,1,3),(3,1,3),(4,1,4)],5,40,[.lit (.int .i64 0),.lit (.int .i64 0),.lit (.int .i64 0),.lit (.int .i64 0),.lit (.bool false)]⟩),
  (244,⟨.st [(0,1,3),(1,1,3),(2,1,3)],3,24,[.lit (.int .i64 0),.lit (.int .i64 0),.lit (.int .i64 0)]⟩)]
def tI (t : Nat) : TI := (lk tab t).getD ⟨.bool,1,1,[]⟩
theorem mixed : Tryz.prog.follows .mixedOrders = true := by kernel_rfl
theorem tOk : TOk Tryz.prog (lk tab) := tok_of (by kernel_rfl)
structure Vec where
  Root : Int
  Cost : Int
  Hops : Int
  Bridge : Int
  Port : Int
def Vec.row (v : Vec) : List CV := [.lit (.int .i64 v.Root),.lit (.int .i64 v.Cost),.lit (.int .i64 v.Hops),.lit (.int .i64 v.Bridge),.lit (.int .i64 v.Port)]
def Vec.wf (v : Vec) : Prop := intWf v.Root ∧ intWf v.Cost ∧ intWf v.Hops ∧ intWf v.Bridge ∧ intWf v.Port ∧ True
theorem Vec.enc : Enc Vec [.int .i64,.int .i64,.int .i64,.int .i64,.int .i64] Vec.row Vec.wf := fun cs h => by
  obtain ⟨c0,r0,rfl,k0,h⟩ := fitR_cons h
  obtain ⟨c1,r1,rfl,k1,h⟩ := fitR_cons h
  obtain ⟨c2,r2,rfl,k2,h⟩ := fitR_cons h
  obtain ⟨c3,r3,rfl,k3,h⟩ := fitR_cons h
  obtain ⟨c4,r4,rfl,k4,h⟩ := fitR_cons h
  obtain rfl := fitR_nil h
  obtain ⟨x0,rfl,w0⟩ := fitC_int k0
  obtain ⟨x1,rfl,w1⟩ := fitC_int k1
  obtain ⟨x2,rfl,w2⟩ := fitC_int k2
  obtain ⟨x3,rfl,w3⟩ := fitC_int k3
  obtain ⟨x4,rfl,w4⟩ := fitC_int k4
  exact ⟨⟨x0,x1,x2,x3,x4⟩,rfl,⟨w0,w1,w2,w3,w4,trivial⟩⟩
theorem Vec.row_mine (v : Vec) : CV.mineRow (Vec.row v) := mine_cons mine_lit (mine_cons mine_lit (mine_cons mine_lit (mine_cons mine_lit (mine_cons mine_lit (mine_nil)))))
structure Pt where
  Up : Bool
  Cost : Int
  Has : Bool
  Heard : Vec
def Pt.row (v : Pt) : List CV := [.lit (.bool v.Up),.lit (.int .i64 v.Cost),.lit (.bool v.Has),.lit (.int .i64 v.Heard.Root),.lit (.int .i64 v.Heard.Cost),.lit (.int .i64 v.Heard.Hops),.lit (.int .i64 v.Heard.Bridge),.lit (.int .i64 v.Heard.Port)]
def Pt.wf (v : Pt) : Prop := intWf v.Cost ∧ intWf v.Heard.Root ∧ intWf v.Heard.Cost ∧ intWf v.Heard.Hops ∧ intWf v.Heard.Bridge ∧ intWf v.Heard.Port ∧ True
theorem Pt.enc : Enc Pt [.bool,.int .i64,.bool,.int .i64,.int .i64,.int .i64,.int .i64,.int .i64] Pt.row Pt.wf := fun cs h => by
  obtain ⟨c0,r0,rfl,k0,h⟩ := fitR_cons h
  obtain ⟨c1,r1,rfl,k1,h⟩ := fitR_cons h
  obtain ⟨c2,r2,rfl,k2,h⟩ := fitR_cons h
  obtain ⟨c3,r3,rfl,k3,h⟩ := fitR_cons h
  obtain ⟨c4,r4,rfl,k4,h⟩ := fitR_cons h
  obtain ⟨c5,r5,rfl,k5,h⟩ := fitR_cons h
  obtain ⟨c6,r6,rfl,k6,h⟩ := fitR_cons h
  obtain ⟨c7,r7,rfl,k7,h⟩ := fitR_cons h
  obtain rfl := fitR_nil h
  obtain ⟨x0,rfl⟩ := fitC_bool k0
  obtain ⟨x1,rfl,w1⟩ := fitC_int k1
  obtain ⟨x2,rfl⟩ := fitC_bool k2
  obtain ⟨x3,rfl,w3⟩ := fitC_int k3
  obtain ⟨x4,rfl,w4⟩ := fitC_int k4
  obtain ⟨x5,rfl,w5⟩ := fitC_int k5
  obtain ⟨x6,rfl,w6⟩ := fitC_int k6
  obtain ⟨x7,rfl,w7⟩ := fitC_int k7
  exact ⟨⟨x0,x1,x2,⟨x3,x4,x5,x6,x7⟩⟩,rfl,⟨w1,w3,w4,w5,w6,w7,trivial⟩⟩
theorem Pt.row_mine (v : Pt) : CV.mineRow (Pt.row v) := mine_cons mine_lit (mine_cons mine_lit (mine_cons mine_lit (mine_cons mine_lit (mine_cons mine_lit (mine_cons mine_lit (mine_cons mine_lit (mine_cons mine_lit (mine_nil))))))))
structure Fent where
  Tag : Int
  Mac : Int
  Port : Int
  Age : Int
  Static : Bool
def Fent.row (v : Fent) : List CV := [.lit (.int .i64 v.Tag),.lit (.int .i64 v.Mac),.lit (.int .i64 v.Port),.lit (.int .i64 v.Age),.lit (.bool v.Static)]
def Fent.wf (v : Fent) : Prop := intWf v.Tag ∧ intWf v.Mac ∧ intWf v.Port ∧ intWf v.Age ∧ True
theorem Fent.enc : Enc Fent [.int .i64,.int .i64,.int .i64,.int .i64,.bool] Fent.row Fent.wf := fun cs h => by
  obtain ⟨c0,r0,rfl,k0,h⟩ := fitR_cons h
  obtain ⟨c1,r1,rfl,k1,h⟩ := fitR_cons h
  obtain ⟨c2,r2,rfl,k2,h⟩ := fitR_cons h
  obtain ⟨c3,r3,rfl,k3,h⟩ := fitR_cons h
  obtain ⟨c4,r4,rfl,k4,h⟩ := fitR_cons h
  obtain rfl := fitR_nil h
  obtain ⟨x0,rfl,w0⟩ := fitC_int k0
  obtain ⟨x1,rfl,w1⟩ := fitC_int k1
  obtain ⟨x2,rfl,w2⟩ := fitC_int k2
  obtain ⟨x3,rfl,w3⟩ := fitC_int k3
  obtain ⟨x4,rfl⟩ := fitC_bool k4
  exact ⟨⟨x0,x1,x2,x3,x4⟩,rfl,⟨w0,w1,w2,w3,trivial⟩⟩
theorem Fent.row_mine (v : Fent) : CV.mineRow (Fent.row v) := mine_cons mine_lit (mine_cons mine_lit (mine_cons mine_lit (mine_cons mine_lit (mine_cons mine_lit (mine_nil)))))
structure Vrow where
  Id : Int
  Members : Int
  Bare : Int
def Vrow.row (v : Vrow) : List CV := [.lit (.int .i64 v.Id),.lit (.int .i64 v.Members),.lit (.int .i64 v.Bare)]
def Vrow.wf (v : Vrow) : Prop := intWf v.Id ∧ intWf v.Members ∧ intWf v.Bare ∧ True
theorem Vrow.enc : Enc Vrow [.int .i64,.int .i64,.int .i64] Vrow.row Vrow.wf := fun cs h => by
  obtain ⟨c0,r0,rfl,k0,h⟩ := fitR_cons h
  obtain ⟨c1,r1,rfl,k1,h⟩ := fitR_cons h
  obtain ⟨c2,r2,rfl,k2,h⟩ := fitR_cons h
  obtain rfl := fitR_nil h
  obtain ⟨x0,rfl,w0⟩ := fitC_int k0
  obtain ⟨x1,rfl,w1⟩ := fitC_int k1
  obtain ⟨x2,rfl,w2⟩ := fitC_int k2
  exact ⟨⟨x0,x1,x2⟩,rfl,⟨w0,w1,w2,trivial⟩⟩
theorem Vrow.row_mine (v : Vrow) : CV.mineRow (Vrow.row v) := mine_cons mine_lit (mine_cons mine_lit (mine_cons mine_lit (mine_nil)))
structure Vtab where
  Rows : (List Vrow)
  Pvid : (List Int)
def Vtab.row (v : Vtab) : List CV := [.sl true 3 (v.Rows.map Vrow.row),.sl true 1 (v.Pvid.map intRow)]
def Vtab.wf (v : Vtab) : Prop := listWf Vrow.wf v.Rows ∧ listWf intWf v.Pvid ∧ True
theorem Vtab.enc : Enc Vtab [.sl 3 [.int .i64,.int .i64,.int .i64],.sl 1 [.int .i64]] Vtab.row Vtab.wf := fun cs h => by
  obtain ⟨c0,r0,rfl,k0,h⟩ := fitR_cons h
  obtain ⟨c1,r1,rfl,k1,h⟩ := fitR_cons h
  obtain rfl := fitR_nil h
  obtain ⟨x0,rfl,w0⟩ := Enc.sl Vrow.enc k0
  obtain ⟨x1,rfl,w1⟩ := Enc.sl encInt k1
  exact ⟨⟨x0,x1⟩,rfl,⟨w0,w1,trivial⟩⟩
theorem Vtab.row_mine (v : Vtab) : CV.mineRow (Vtab.row v) := mine_cons (mine_sl (mine_map Vrow.row_mine _)) (mine_cons (mine_sl (mine_map intRow_mine _)) (mine_nil))
structure Bridge where
  Id : Int
  Name : ByteArray
  Ports : (List Pt)
  F : (List Fent)
  V : Vtab
  Ticks : Int
  Parse : Int
  Word : Int
  Drops : Int
  Vers : Int
def Bridge.row (v : Bridge) : List CV := [.lit (.int .i64 v.Id),.lit (.string v.Name),.sl true 8 (v.Ports.map Pt.row),.sl true 5 (v.F.map Fent.row),.sl true 3 (v.V.Rows.map Vrow.row),.sl true 1 (v.V.Pvid.map intRow),.lit (.int .i64 v.Ticks),.lit (.int .i64 v.Parse),.lit (.int .i64 v.Word),.lit (.int .i64 v.Drops),.lit (.int .i64 v.Vers)]
def Bridge.wf (v : Bridge) : Prop := intWf v.Id ∧ v.Name.size ≤ maxLen ∧ listWf Pt.wf v.Ports ∧ listWf Fent.wf v.F ∧ listWf Vrow.wf v.V.Rows ∧ listWf intWf v.V.Pvid ∧ intWf v.Ticks ∧ intWf v.Parse ∧ intWf v.Word ∧ intWf v.Drops ∧ intWf v.Vers ∧ True
theorem Bridge.enc : Enc Bridge [.int .i64,.str,.sl 8 [.bool,.int .i64,.bool,.int .i64,.int .i64,.int .i64,.int .i64,.int .i64],.sl 5 [.int .i64,.int .i64,.int .i64,.int .i64,.bool],.sl 3 [.int .i64,.int .i64,.int .i64],.sl 1 [.int .i64],.int .i64,.int .i64,.int .i64,.int .i64,.int .i64] Bridge.row Bridge.wf := fun cs h => by
  obtain ⟨c0,r0,rfl,k0,h⟩ := fitR_cons h
  obtain ⟨c1,r1,rfl,k1,h⟩ := fitR_cons h
  obtain ⟨c2,r2,rfl,k2,h⟩ := fitR_cons h
  obtain ⟨c3,r3,rfl,k3,h⟩ := fitR_cons h
  obtain ⟨c4,r4,rfl,k4,h⟩ := fitR_cons h
  obtain ⟨c5,r5,rfl,k5,h⟩ := fitR_cons h
  obtain ⟨c6,r6,rfl,k6,h⟩ := fitR_cons h
  obtain ⟨c7,r7,rfl,k7,h⟩ := fitR_cons h
  obtain ⟨c8,r8,rfl,k8,h⟩ := fitR_cons h
  obtain ⟨c9,r9,rfl,k9,h⟩ := fitR_cons h
  obtain ⟨c10,r10,rfl,k10,h⟩ := fitR_cons h
  obtain rfl := fitR_nil h
  obtain ⟨x0,rfl,w0⟩ := fitC_int k0
  obtain ⟨x1,rfl,w1⟩ := fitC_str k1
  obtain ⟨x2,rfl,w2⟩ := Enc.sl Pt.enc k2
  obtain ⟨x3,rfl,w3⟩ := Enc.sl Fent.enc k3
  obtain ⟨x4,rfl,w4⟩ := Enc.sl Vrow.enc k4
  obtain ⟨x5,rfl,w5⟩ := Enc.sl encInt k5
  obtain ⟨x6,rfl,w6⟩ := fitC_int k6
  obtain ⟨x7,rfl,w7⟩ := fitC_int k7
  obtain ⟨x8,rfl,w8⟩ := fitC_int k8
  obtain ⟨x9,rfl,w9⟩ := fitC_int k9
  obtain ⟨x10,rfl,w10⟩ := fitC_int k10
  exact ⟨⟨x0,x1,x2,x3,⟨x4,x5⟩,x6,x7,x8,x9,x10⟩,rfl,⟨w0,w1,w2,w3,w4,w5,w6,w7,w8,w9,w10,trivial⟩⟩
theorem Bridge.row_mine (v : Bridge) : CV.mineRow (Bridge.row v) := mine_cons mine_lit (mine_cons mine_lit (mine_cons (mine_sl (mine_map Pt.row_mine _)) (mine_cons (mine_sl (mine_map Fent.row_mine _)) (mine_cons (mine_sl (mine_map Vrow.row_mine _)) (mine_cons (mine_sl (mine_map intRow_mine _)) (mine_cons mine_lit (mine_cons mine_lit (mine_cons mine_lit (mine_cons mine_lit (mine_cons mine_lit (mine_nil)))))))))))
structure Frame where
  Dst : Int
  Src : Int
  Tag : Int
  Data : (List Int)
def Frame.row (v : Frame) : List CV := [.lit (.int .i64 v.Dst),.lit (.int .i64 v.Src),.lit (.int .i64 v.Tag),.sl true 1 (v.Data.map byteRow)]
def Frame.wf (v : Frame) : Prop := intWf v.Dst ∧ intWf v.Src ∧ intWf v.Tag ∧ listWf byteWf v.Data ∧ True
theorem Frame.enc : Enc Frame [.int .i64,.int .i64,.int .i64,.sl 1 [.int .u8]] Frame.row Frame.wf := fun cs h => by
  obtain ⟨c0,r0,rfl,k0,h⟩ := fitR_cons h
  obtain ⟨c1,r1,rfl,k1,h⟩ := fitR_cons h
  obtain ⟨c2,r2,rfl,k2,h⟩ := fitR_cons h
  obtain ⟨c3,r3,rfl,k3,h⟩ := fitR_cons h
  obtain rfl := fitR_nil h
  obtain ⟨x0,rfl,w0⟩ := fitC_int k0
  obtain ⟨x1,rfl,w1⟩ := fitC_int k1
  obtain ⟨x2,rfl,w2⟩ := fitC_int k2
  obtain ⟨x3,rfl,w3⟩ := Enc.sl encByte k3
  exact ⟨⟨x0,x1,x2,x3⟩,rfl,⟨w0,w1,w2,w3,trivial⟩⟩
theorem Frame.row_mine (v : Frame) : CV.mineRow (Frame.row v) := mine_cons mine_lit (mine_cons mine_lit (mine_cons mine_lit (mine_cons (mine_sl (mine_map byteRow_mine _)) (mine_nil))))
structure Out where
  Port : Int
  F : Frame
def Out.row (v : Out) : List CV := [.lit (.int .i64 v.Port),.lit (.int .i64 v.F.Dst),.lit (.int .i64 v.F.Src),.lit (.int .i64 v.F.Tag),.sl true 1 (v.F.Data.map byteRow)]
def Out.wf (v : Out) : Prop := intWf v.Port ∧ intWf v.F.Dst ∧ intWf v.F.Src ∧ intWf v.F.Tag ∧ listWf byteWf v.F.Data ∧ True
theorem Out.enc : Enc Out [.int .i64,.int .i64,.int .i64,.int .i64,.sl 1 [.int .u8]] Out.row Out.wf := fun cs h => by
  obtain ⟨c0,r0,rfl,k0,h⟩ := fitR_cons h
  obtain ⟨c1,r1,rfl,k1,h⟩ := fitR_cons h
  obtain ⟨c2,r2,rfl,k2,h⟩ := fitR_cons h
  obtain ⟨c3,r3,rfl,k3,h⟩ := fitR_cons h
  obtain ⟨c4,r4,rfl,k4,h⟩ := fitR_cons h
  obtain rfl := fitR_nil h
  obtain ⟨x0,rfl,w0⟩ := fitC_int k0
  obtain ⟨x1,rfl,w1⟩ := fitC_int k1
  obtain ⟨x2,rfl,w2⟩ := fitC_int k2
  obtain ⟨x3,rfl,w3⟩ := fitC_int k3
  obtain ⟨x4,rfl,w4⟩ := Enc.sl encByte k4
  exact ⟨⟨x0,⟨x1,x2,x3,x4⟩⟩,rfl,⟨w0,w1,w2,w3,w4,trivial⟩⟩
theorem Out.row_mine (v : Out) : CV.mineRow (Out.row v) := mine_cons mine_lit (mine_cons mine_lit (mine_cons mine_lit (mine_cons mine_lit (mine_cons (mine_sl (mine_map byteRow_mine _)) (mine_nil)))))
def laws_szPtSF (n : Nat) (x0 : (List Pt)) (x1 : Int) : Option (Int) :=
  (bif (decide ((IntKind.wrap .i64 (x1 - (x0.length : Int))) < 0)) then (some (-1)) else (some (IntKind.wrap .i64 (x1 - (x0.length : Int)))))
noncomputable abbrev G64 (k : Nat) := Rg Tryz.f64 k
theorem laws_szPtS (n : Nat) (x0 : (List Pt)) (x1 : Int) (r : Int) (H : laws_szPtSF n x0 x1 = some r) : LCall Tryz.prog 64 [.val false [.sl false 8 (CV.frzEs (x0.map Pt.row))],.val false [.lit (.int .i64 x1)]] [.val false [.lit (.int .i64 r)]] [] := by
 refine LCall.of_body tOk Tryz.func64 rfl (c := (.seq (G64 0) (.seq (G64 1) (.seq (.seq (G64 2) (.cond (.tmp 10) (.seq (G64 3) .ret) .skip)) (.seq (G64 4) .ret))))) kr (Nat.le_of_ble_eq_true kr) 0 (rs := [.tmp 4]) rfl [] .nil [(false,[.lit (.int .i64 r)])] [] [] fun cx => ?_
 show Tr _ _ _ ⟨12,0,[sC 0 (cF 8 x0 Pt.row),sI 1 x1],[]⟩ _
 unfold laws_szPtSF at H
 refine tG tOk 1 3 0 kr kr ?_
 refine rU tOk 2 kr ?_
 refine lL tOk 22 3 200 6 7 none ⟨(.slot 6),[],0,false,8,(CV.frzEs (x0.map Pt.row))⟩ (x0).length _ kr kr kr kr kr (frz_len _ _) rfl ?_
 refine uD tOk 2 2 0 kr kr ?_
 refine tS ?_
 refine tG tOk 2 1026 0 kr kr ?_
 obtain ⟨h1,H⟩ | ⟨h1,H⟩ := bC H
 ·refine tF h1 kr ?_
  refine tK ?_
  refine tG tOk 2 16 0 kr kr ?_
  exact te (by obtain rfl := si H; exact fO [(false,[cI (IntKind.wrap .i64 (x1 - (x0.length : Int)))])] kr rfl rfl)
 refine tT h1 kr ?_
 refine tG tOk 1 16 0 kr kr ?_
 exact te (by obtain rfl := si H; exact fO [(false,[cI (-1)])] kr rfl rfl)
def laws_szFentSF (n : Nat) (x0 : (List Fent)) (x1 : Int) : Option (Int) :=
  (bif (decide ((IntKind.wrap .i64 (x1 - (x0.length : Int))) < 0)) then (some (-1)) else (some (IntKind.wrap .i64 (x1 - (x0.length : Int)))))
noncomputable abbrev G65 (k : Nat) := Rg Tryz.f65 k
theorem laws_szFentS (n : Nat) (x0 : (List Fent)) (x1 : Int) (r : Int) (H : laws_szFentSF n x0 x1 = some r) : LCall Tryz.prog 65 [.val false [.sl false 5 (CV.frzEs (x0.map Fent.row))],.val false [.lit (.int .i64 x1)]] [.val false [.lit (.int .i64 r)]] [] := by
 refine LCall.of_body tOk Tryz.func65 rfl (c := (.seq (G65 0) (.seq (G65 1) (.seq (.seq (G65 2) (.cond (.tmp 10) (.seq (G65 3) .ret) .skip)) (.seq (G65 4) .ret))))) kr (Nat.le_of_ble_eq_true kr) 0 (rs := [.tmp 4]) rfl [] .nil [(false,[.lit (.int .i64 r)])] [] [] fun cx => ?_
 show Tr _ _ _ ⟨12,0,[sC 0 (cF 5 x0 Fent.row),sI 1 x1],[]⟩ _
 unfold laws_szFentSF at H
 refine tG tOk 1 3 0 kr kr ?_
 refine rU tOk 2 kr ?_
 refine lL tOk 23 3 202 6 7 none ⟨(.slot 6),[],0,false,5,(CV.frzEs (x0.map Fent.row))⟩ (x0).length _ kr kr kr kr kr (frz_len _ _) rfl ?_
 refine uD tOk 2 2 0 kr kr ?_
 refine tS ?_
 refine tG tOk 2 1026 0 kr kr ?_
 obtain ⟨h1,H⟩ | ⟨h1,H⟩ := bC H
 ·refine tF h1 kr ?_
  refine tK ?_
  refine tG tOk 2 16 0 kr kr ?_
  exact te (by obtain rfl := si H; exact fO [(false,[cI (IntKind.wrap .i64 (x1 - (x0.length : Int)))])] kr rfl rfl)
 refine tT h1 kr ?_
 refine tG tOk 1 16 0 kr kr ?_
 exact te (by obtain rfl := si H; exact fO [(false,[cI (-1)])] kr rfl rfl)
def laws_szVrowSF (n : Nat) (x0 : (List Vrow)) (x1 : Int) : Option (Int) :=
  (bif (decide ((IntKind.wrap .i64 (x1 - (x0.length : Int))) < 0)) then (some (-1)) else (some (IntKind.wrap .i64 (x1 - (x0.length : Int)))))
noncomputable abbrev G164 (k : Nat) := Rg Tryz.f164 k
theorem laws_szVrowS (n : Nat) (x0 : (List Vrow)) (x1 : Int) (r : Int) (H : laws_szVrowSF n x0 x1 = some r) : LCall Tryz.prog 164 [.val false [.sl false 3 (CV.frzEs (x0.map Vrow.row))],.val false [.lit (.int .i64 x1)]] [.val false [.lit (.int .i64 r)]] [] := by
 refine LCall.of_body tOk Tryz.func164 rfl (c := (.seq (G164 0) (.seq (G164 1) (.seq (.seq (G164 2) (.cond (.tmp 10) (.seq (G164 3) .ret) .skip)) (.seq (G164 4) .ret))))) kr (Nat.le_of_ble_eq_true kr) 0 (rs := [.tmp 4]) rfl [] .nil [(false,[.lit (.int .i64 r)])] [] [] fun cx => ?_
 show Tr _ _ _ ⟨12,0,[sC 0 (cF 3 x0 Vrow.row),sI 1 x1],[]⟩ _
 unfold laws_szVrowSF at H
 refine tG tOk 1 3 0 kr kr ?_
 refine rU tOk 2 kr ?_
 refine lL tOk 24 3 244 6 7 none ⟨(.slot 6),[],0,false,3,(CV.frzEs (x0.map Vrow.row))⟩ (x0).length _ kr kr kr kr kr (frz_len _ _) rfl ?_
 refine uD tOk 2 2 0 kr kr ?_
 refine tS ?_
 refine tG tOk 2 1026 0 kr kr ?_
 obtain ⟨h1,H⟩ | ⟨h1,H⟩ := bC H
 ·refine tF h1 kr ?_
  refine tK ?_
  refine tG tOk 2 16 0 kr kr ?_
  exact te (by obtain rfl := si H; exact fO [(false,[cI (IntKind.wrap .i64 (x1 - (x0.length : Int)))])] kr rfl rfl)
 refine tT h1 kr ?_
 refine tG tOk 1 16 0 kr kr ?_
 exact te (by obtain rfl := si H; exact fO [(false,[cI (-1)])] kr rfl rfl)
def laws_szIntSF (n : Nat) (x0 : (List Int)) (x1 : Int) : Option (Int) :=
  (bif (decide ((IntKind.wrap .i64 (x1 - (x0.length : Int))) < 0)) then (some (-1)) else (some (IntKind.wrap .i64 (x1 - (x0.length : Int)))))
noncomputable abbrev G165 (k : Nat) := Rg Tryz.f165 k
theorem laws_szIntS (n : Nat) (x0 : (List Int)) (x1 : Int) (r : Int) (H : laws_szIntSF n x0 x1 = some r) : LCall Tryz.prog 165 [.val false [.sl false 1 (CV.frzEs (x0.map intRow))],.val false [.lit (.int .i64 x1)]] [.val false [.lit (.int .i64 r)]] [] := by
 refine LCall.of_body tOk Tryz.func165 rfl (c := (.seq (G165 0) (.seq (G165 1) (.seq (.seq (G165 2) (.cond (.tmp 10) (.seq (G165 3) .ret) .skip)) (.seq (G165 4) .ret))))) kr (Nat.le_of_ble_eq_true kr) 0 (rs := [.tmp 4]) rfl [] .nil [(false,[.lit (.int .i64 r)])] [] [] fun cx => ?_
 show Tr _ _ _ ⟨12,0,[sC 0 (cF 1 x0 intRow),sI 1 x1],[]⟩ _
 unfold laws_szIntSF at H
 refine tG tOk 1 3 0 kr kr ?_
 refine rU tOk 2 kr ?_
 refine lL tOk 25 3 3 6 7 none ⟨(.slot 6),[],0,false,1,(CV.frzEs (x0.map intRow))⟩ (x0).length _ kr kr kr kr kr (frz_len _ _) rfl ?_
 refine uD tOk 2 2 0 kr kr ?_
 refine tS ?_
 refine tG tOk 2 1026 0 kr kr ?_
 obtain ⟨h1,H⟩ | ⟨h1,H⟩ := bC H
 ·refine tF h1 kr ?_
  refine tK ?_
  refine tG tOk 2 16 0 kr kr ?_
  exact te (by obtain rfl := si H; exact fO [(false,[cI (IntKind.wrap .i64 (x1 - (x0.length : Int)))])] kr rfl rfl)
 refine tT h1 kr ?_
 refine tG tOk 1 16 0 kr kr ?_
 exact te (by obtain rfl := si H; exact fO [(false,[cI (-1)])] kr rfl rfl)
def laws_szVtabF (n : Nat) (x0 : Vtab) (x1 : Int) : Option (Int) :=
  ((laws_szVrowSF n x0.Rows x1).bind fun r1 => (bif (decide (r1 < 0)) then (some (-1)) else ((laws_szIntSF n x0.Pvid r1).bind fun r2 => (bif (decide (r2 < 0)) then (some (-1)) else (some r2)))))
noncomputable abbrev G66 (k : Nat) := Rg Tryz.f66 k
theorem laws_szVtab (n : Nat) (x0 : Vtab) (x1 : Int) (r : Int) (H : laws_szVtabF n x0 x1 = some r) : LCall Tryz.prog 66 [.val true (CV.frzRow (Vtab.row x0)),.val false [.lit (.int .i64 x1)]] [.val false [.lit (.int .i64 r)]] [] := by
 refine LCall.of_body tOk Tryz.func66 rfl (c := (.seq (G66 0) (.seq (G66 1) (.seq (.seq (G66 2) (.cond (.tmp 10) (.seq (G66 3) .ret) .skip)) (.seq (G66 4) (.seq (.seq (G66 5) (.cond (.tmp 16) (.seq (G66 6) .ret) .skip)) (.seq (G66 7) .ret))))))) kr (Nat.le_of_ble_eq_true kr) 0 (rs := [.tmp 4]) rfl [] .nil [(false,[.lit (.int .i64 r)])] [] [] fun cx => ?_
 show Tr _ _ _ ⟨18,0,[sV 0 (CV.frzRow (Vtab.row x0)),sI 1 x1],[]⟩ _
 unfold laws_szVtabF at H
 refine tG tOk 2 6 4 kr kr ?_
 refine rU tOk 3 kr ?_
 obtain ⟨r1,er1,H⟩ := bind_some H
 refine lV tOk [.rd,.rd] [] (laws_szVrowS n x0.Rows x1 r1 er1) kr kr kr kr (.inl rfl) ?_
 refine uD tOk 1 6 4 kr kr ?_
 refine tS ?_
 refine tG tOk 2 1030 4 kr kr ?_
 obtain ⟨h1,H⟩ | ⟨h1,H⟩ := bC H
 ·refine tF h1 kr ?_
  refine tK ?_
  refine rU tOk 3 kr ?_
  obtain ⟨r2,er2,H⟩ := bind_some H
  refine lV tOk [.rd,.rd] [] (laws_szIntS n x0.Pvid r1 r2 er2) kr kr kr kr (.inl rfl) ?_
  refine uD tOk 1 2 0 kr kr ?_
  refine tS ?_
  refine tG tOk 2 65538 0 kr kr ?_
  obtain ⟨h2,H⟩ | ⟨h2,H⟩ := bC H
  ·refine tF h2 kr ?_
   refine tK ?_
   refine tG tOk 2 16 0 kr kr ?_
   exact te (by obtain rfl := si H; exact fO [(false,[cI r2])] kr rfl rfl)
  refine tT h2 kr ?_
  refine tG tOk 1 16 0 kr kr ?_
  exact te (by obtain rfl := si H; exact fO [(false,[cI (-1)])] kr rfl rfl)
 refine tT h1 kr ?_
 refine tG tOk 1 16 0 kr kr ?_
 exact te (by obtain rfl := si H; exact fO [(false,[cI (-1)])] kr rfl rfl)
def laws_szBridgeF (n : Nat) (x0 : Bridge) (x1 : Int) : Option (Int) :=
  (bif (decide ((IntKind.wrap .i64 (x1 - (x0.Name.size : Int))) < 0)) then (some (-1)) else ((laws_szPtSF n x0.Ports (IntKind.wrap .i64 (x1 - (x0.Name.size : Int)))).bind fun r1 => (bif (decide (r1 < 0)) then (some (-1)) else ((laws_szFentSF n x0.F r1).bind fun r2 => (bif (decide (r2 < 0)) then (some (-1)) else ((laws_szVtabF n x0.V r2).bind fun r3 => (bif (decide (r3 < 0)) then (some (-1)) else (some r3))))))))
noncomputable abbrev G9 (k : Nat) := Rg Tryz.f9 k
theorem laws_szBridge (n : Nat) (x0 : Bridge) (x1 : Int) (r : Int) (H : laws_szBridgeF n x0 x1 = some r) : LCall Tryz.prog 9 [.val true (CV.frzRow (Bridge.row x0)),.val false [.lit (.int .i64 x1)]] [.val false [.lit (.int .i64 r)]] [] := by
 refine LCall.of_body tOk Tryz.func9 rfl (c := (.seq (G9 0) (.seq (G9 1) (.seq (.seq (G9 2) (.cond (.tmp 11) (.seq (G9 3) .ret) .skip)) (.seq (G9 4) (.seq (.seq (G9 5) (.cond (.tmp 17) (.seq (G9 6) .ret) .skip)) (.seq (G9 7) (.seq (.seq (G9 8) (.cond (.tmp 23) (.seq (G9 9) .ret) .skip)) (.seq (G9 10) (.seq (.seq (G9 11) (.cond (.tmp 29) (.seq (G9 12) .ret) .skip)) (.seq (G9 13) .ret))))))))))) kr (Nat.le_of_ble_eq_true kr) 0 (rs := [.tmp 4]) rfl [] .nil [(false,[.lit (.int .i64 r)])] [] [] fun cx => ?_
 show Tr _ _ _ ⟨31,0,[sV 0 (CV.frzRow (Bridge.row x0)),sI 1 x1],[]⟩ _
 unfold laws_szBridgeF at H
 refine tG tOk 2 6 4 kr kr ?_
 refine tG tOk 6 6 4 kr kr ?_
 refine tS ?_
 refine tG tOk 2 2054 4 kr kr ?_
 obtain ⟨h1,H⟩ | ⟨h1,H⟩ := bC H
 ·refine tF h1 kr ?_
  refine tK ?_
  refine rU tOk 3 kr ?_
  obtain ⟨r1,er1,H⟩ := bind_some H
  refine lV tOk [.rd,.rd] [] (laws_szPtS n x0.Ports (IntKind.wrap .i64 (x1 - (x0.Name.size : Int))) r1 er1) kr kr kr kr (.inl rfl) ?_
  refine uD tOk 1 6 4 kr kr ?_
  refine tS ?_
  refine tG tOk 2 131078 4 kr kr ?_
  obtain ⟨h2,H⟩ | ⟨h2,H⟩ := bC H
  ·refine tF h2 kr ?_
   refine tK ?_
   refine rU tOk 3 kr ?_
   obtain ⟨r2,er2,H⟩ := bind_some H
   refine lV tOk [.rd,.rd] [] (laws_szFentS n x0.F r1 r2 er2) kr kr kr kr (.inl rfl) ?_
   refine uD tOk 1 6 4 kr kr ?_
   refine tS ?_
   refine tG tOk 2 8388614 4 kr kr ?_
   obtain ⟨h3,H⟩ | ⟨h3,H⟩ := bC H
   ·refine tF h3 kr ?_
    refine tK ?_
    refine rU tOk 3 kr ?_
    obtain ⟨r3,er3,H⟩ := bind_some H
    refine lV tOk [.rd,.rd] [] (laws_szVtab n x0.V r2 r3 er3) kr kr kr kr (.inl rfl) ?_
    refine uD tOk 1 2 0 kr kr ?_
    refine tS ?_
    refine tG tOk 2 536870914 0 kr kr ?_
    obtain ⟨h4,H⟩ | ⟨h4,H⟩ := bC H
    ·refine tF h4 kr ?_
     refine tK ?_
     refine tG tOk 2 16 0 kr kr ?_
     exact te (by obtain rfl := si H; exact fO [(false,[cI r3])] kr rfl rfl)
    refine tT h4 kr ?_
    refine tG tOk 1 16 0 kr kr ?_
    exact te (by obtain rfl := si H; exact fO [(false,[cI (-1)])] kr rfl rfl)
   refine tT h3 kr ?_
   refine tG tOk 1 16 0 kr kr ?_
   exact te (by obtain rfl := si H; exact fO [(false,[cI (-1)])] kr rfl rfl)
  refine tT h2 kr ?_
  refine tG tOk 1 16 0 kr kr ?_
  exact te (by obtain rfl := si H; exact fO [(false,[cI (-1)])] kr rfl rfl)
 refine tT h1 kr ?_
 refine tG tOk 1 16 0 kr kr ?_
 exact te (by obtain rfl := si H; exact fO [(false,[cI (-1)])] kr rfl rfl)
def laws_szByteSF (n : Nat) (x0 : (List Int)) (x1 : Int) : Option (Int) :=
  (bif (decide ((IntKind.wrap .i64 (x1 - (x0.length : Int))) < 0)) then (some (-1)) else (some (IntKind.wrap .i64 (x1 - (x0.length : Int)))))
noncomputable abbrev G67 (k : Nat) := Rg Tryz.f67 k
theorem laws_szByteS (n : Nat) (x0 : (List Int)) (x1 : Int) (r : Int) (H : laws_szByteSF n x0 x1 = some r) : LCall Tryz.prog 67 [.val false [.sl false 1 (CV.frzEs (x0.map byteRow))],.val false [.lit (.int .i64 x1)]] [.val false [.lit (.int .i64 r)]] [] := by
 refine LCall.of_body tOk Tryz.func67 rfl (c := (.seq (G67 0) (.seq (G67 1) (.seq (.seq (G67 2) (.cond (.tmp 10) (.seq (G67 3) .ret) .skip)) (.seq (G67 4) .ret))))) kr (Nat.le_of_ble_eq_true kr) 0 (rs := [.tmp 4]) rfl [] .nil [(false,[.lit (.int .i64 r)])] [] [] fun cx => ?_
 show Tr _ _ _ ⟨12,0,[sC 0 (cF 1 x0 byteRow),sI 1 x1],[]⟩ _
 unfold laws_szByteSF at H
 refine tG tOk 1 3 0 kr kr ?_
 refine rU tOk 2 kr ?_
 refine lL tOk 30 3 5 6 7 none ⟨(.slot 6),[],0,false,1,(CV.frzEs (x0.map byteRow))⟩ (x0).length _ kr kr kr kr kr (frz_len _ _) rfl ?_
 refine uD tOk 2 2 0 kr kr ?_
 refine tS ?_
 refine tG tOk 2 1026 0 kr kr ?_
 obtain ⟨h1,H⟩ | ⟨h1,H⟩ := bC H
 ·refine tF h1 kr ?_
  refine tK ?_
  refine tG tOk 2 16 0 kr kr ?_
  exact te (by obtain rfl := si H; exact fO [(false,[cI (IntKind.wrap .i64 (x1 - (x0.length : Int)))])] kr rfl rfl)
 refine tT h1 kr ?_
 refine tG tOk 1 16 0 kr kr ?_
 exact te (by obtain rfl := si H; exact fO [(false,[cI (-1)])] kr rfl rfl)
def laws_szFrameF (n : Nat) (x0 : Frame) (x1 : Int) : Option (Int) :=
  ((laws_szByteSF n x0.Data x1).bind fun r1 => (bif (decide (r1 < 0)) then (some (-1)) else (some r1)))
noncomputable abbrev G10 (k : Nat) := Rg Tryz.f10 k
theorem laws_szFrame (n : Nat) (x0 : Frame) (x1 : Int) (r : Int) (H : laws_szFrameF n x0 x1 = some r) : LCall Tryz.prog 10 [.val true (CV.frzRow (Frame.row x0)),.val false [.lit (.int .i64 x1)]] [.val false [.lit (.int .i64 r)]] [] := by
 refine LCall.of_body tOk Tryz.func10 rfl (c := (.seq (G10 0) (.seq (G10 1) (.seq (.seq (G10 2) (.cond (.tmp 10) (.seq (G10 3) .ret) .skip)) (.seq (G10 4) .ret))))) kr (Nat.le_of_ble_eq_true kr) 0 (rs := [.tmp 4]) rfl [] .nil [(false,[.lit (.int .i64 r)])] [] [] fun cx => ?_
 show Tr _ _ _ ⟨12,0,[sV 0 (CV.frzRow (Frame.row x0)),sI 1 x1],[]⟩ _
 unfold laws_szFrameF at H
 refine tG tOk 2 6 4 kr kr ?_
 refine rU tOk 3 kr ?_
 obtain ⟨r1,er1,H⟩ := bind_some H
 refine lV tOk [.rd,.rd] [] (laws_szByteS n x0.Data x1 r1 er1) kr kr kr kr (.inl rfl) ?_
 refine uD tOk 1 2 0 kr kr ?_
 refine tS ?_
 refine tG tOk 2 1026 0 kr kr ?_
 obtain ⟨h1,H⟩ | ⟨h1,H⟩ := bC H
 ·refine tF h1 kr ?_
  refine tK ?_
  refine tG tOk 2 16 0 kr kr ?_
  exact te (by obtain rfl := si H; exact fO [(false,[cI r1])] kr rfl rfl)
 refine tT h1 kr ?_
 refine tG tOk 1 16 0 kr kr ?_
 exact te (by obtain rfl := si H; exact fO [(false,[cI (-1)])] kr rfl rfl)
def laws_toVecF (n : Nat) (x0 : Vec) : Option (Vec) :=
  (some x0)
noncomputable abbrev G234 (k : Nat) := Rg Tryz.f234 k
theorem laws_toVec (n : Nat) (x0 : Vec) (r : Vec) (H : laws_toVecF n x0 = some r) : LCall Tryz.prog 234 [.val true (CV.frzRow (Vec.row x0))] [.val true (Vec.row r)] [] := by
 refine LCall.of_body tOk Tryz.func234 rfl (c := (.seq (G234 0) (.seq (G234 1) (.seq (G234 2) (.seq (G234 3) (.seq (G234 4) (.seq (G234 5) (.seq (G234 6) (.seq (G234 7) .ret))))))))) kr (Nat.le_of_ble_eq_true kr) 0 (rs := [.cell 2 165]) rfl [] .nil [(true,(Vec.row r))] [] [] fun cx => ?_
 show Tr _ _ _ ⟨20,0,[sV 0 (Vec.row x0)],[]⟩ _
 unfold laws_toVecF at H
 refine tG tOk 2 6 6 kr kr ?_
 refine tG tOk 1 14 14 kr kr ?_
 refine tG tOk 4 14 14 kr kr ?_
 refine tG tOk 4 14 14 kr kr ?_
 refine tG tOk 4 14 14 kr kr ?_
 refine tG tOk 4 14 14 kr kr ?_
 refine tG tOk 4 12 12 kr kr ?_
 refine tG tOk 2 4 4 kr kr ?_
 exact te (by obtain rfl := si H; exact fO [(true,(Vec.row x0))] kr rfl rfl)
def laws_toPtF (n : Nat) (x0 : Pt) : Option (Pt) :=
  ((laws_toVecF n x0.Heard).bind fun r1 => (some (⟨x0.Up,x0.Cost,x0.Has,r1⟩ : Pt)))
noncomputable abbrev G177 (k : Nat) := Rg Tryz.f177 k
theorem laws_toPt (n : Nat) (x0 : Pt) (r : Pt) (H : laws_toPtF n x0 = some r) : LCall Tryz.prog 177 [.val true (CV.frzRow (Pt.row x0))] [.val true (Pt.row r)] [] := by
 refine LCall.of_body tOk Tryz.func177 rfl (c := (.seq (G177 0) (.seq (G177 1) (.seq (G177 2) (.seq (G177 3) (.seq (G177 4) (.seq (G177 5) (.seq (G177 6) .ret)))))))) kr (Nat.le_of_ble_eq_true kr) 0 (rs := [.cell 2 167]) rfl [] .nil [(true,(Pt.row r))] [] [] fun cx => ?_
 show Tr _ _ _ ⟨18,0,[sV 0 (Pt.row x0)],[]⟩ _
 unfold laws_toPtF at H
 refine tG tOk 2 6 6 kr kr ?_
 refine tG tOk 1 14 14 kr kr ?_
 refine tG tOk 4 14 14 kr kr ?_
 refine tG tOk 4 14 14 kr kr ?_
 refine tG tOk 4 14 14 kr kr ?_
 refine rU tOk 2 kr ?_
 obtain ⟨r1,er1,H⟩ := bind_some H
 refine lV tOk [.rd] [] (laws_toVec n x0.Heard r1 er1) kr kr kr kr (.inl rfl) ?_
 refine uD tOk 2 12 12 kr kr ?_
 refine tG tOk 2 4 4 kr kr ?_
 exact te (by obtain rfl := si H; exact fO [(true,[cB x0.Up,cI x0.Cost,cB x0.Has,cI r1.Root,cI r1.Cost,cI r1.Hops,cI r1.Bridge,cI r1.Port])] kr rfl rfl)
def laws_toPtS_J1 (n : Nat) (y4 : (List Pt)) : Option ((List Pt)) :=
  (some y4)
def laws_toPtS_L2 (n : Nat) : Nat → (List Pt) → Int → (List Pt) → Option (((List Pt)) ⊕ ((List Pt)))
  | 0,_,_,_ => none
  | mo5 + 1,x0,y2,y3 => (bif (decide (y2 < (x0.length : Int))) then ((idx x0 y2).bind fun v6 => ((laws_toPtF n v6).bind fun r7 => ((idx y3 y2).bind fun v8 => (laws_toPtS_L2 n mo5 x0 (IntKind.wrap .i64 (y2 + 1)) (y3.set (y2.toNat) r7))))) else (some (Sum.inl y3)))
def laws_toPtSF (n : Nat) (x0 : (List Pt)) : Option ((List Pt)) :=
  (bif (decide (0 ≤ (x0.length : Int)) && decide ((x0.length : Int) ≤ 268435456)) then ((laws_toPtS_L2 n n x0 0 (List.replicate ((x0.length : Int)).toNat (⟨false,0,false,(⟨0,0,0,0,0⟩ : Vec)⟩ : Pt))).bind fun o => match o with | .inl y4 => (laws_toPtS_J1 n y4) | .inr r => some r) else none)
noncomputable abbrev G79 (k : Nat) := Rg Tryz.f79 k
theorem laws_toPtS (n : Nat) (x0 : (List Pt)) (r : (List Pt)) (H : laws_toPtSF n x0 = some r) : LCall Tryz.prog 79 [.val false [.sl false 8 (CV.frzEs (x0.map Pt.row))]] [.val false [.sl true 8 (r.map Pt.row)]] [] := by
 refine LCall.of_body tOk Tryz.func79 rfl (c := (.seq (G79 0) (.seq (G79 1) (.seq (.seq (G79 2) (.block 0 (.loop (.seq (.seq (G79 3) (.cond (.tmp 11) .skip (.exit 0))) (.seq (.block 1 (G79 5)) (G79 4)))))) (.seq (G79 6) .ret))))) kr (Nat.le_of_ble_eq_true kr) 0 (rs := [.tmp 2]) rfl [] .nil [(false,[.sl true 8 (r.map Pt.row)])] [] [] fun cx => ?_
 show Tr _ _ _ ⟨23,0,[sC 0 (cF 8 x0 Pt.row)],[]⟩ _
 unfold laws_toPtSF at H
 refine tG tOk 1 1 0 kr kr ?_
 refine rU tOk 1 kr ?_
 refine lL tOk 22 3 200 5 6 none ⟨(.slot 5),[],0,false,8,(CV.frzEs (x0.map Pt.row))⟩ (x0).length _ kr kr kr kr kr (frz_len _ _) rfl ?_
 obtain ⟨hg1,H⟩ := guard_some H
 refine LAt.makeG tOk (t := 35) (ty := 35) (e := 167) (x := (.tmp 6)) (d := 7) (g := none) (tI 167) (x0.length : Int) ((List.replicate ((x0.length : Int)).toNat (⟨false,0,false,(⟨0,0,0,0,0⟩ : Vec)⟩ : Pt)).map Pt.row) _ kr kr kr kr kr kr hg1 kr (rep_map _ rfl) rfl ?_
 refine LAt.moveU (T := lk tab) (ty := 35) (x := (.tmp 7)) (d := 3) (g := none) false [cL 8 (List.replicate ((x0.length : Int)).toNat (⟨false,0,false,(⟨0,0,0,0,0⟩ : Vec)⟩ : Pt)) Pt.row] kr kr kr kr kr ?_
 refine lD 9 0 kr ?_
 refine tS ?_
 refine tG tOk 1 25 0 kr kr ?_
 obtain ⟨o5,eo5,Ho5⟩ := bind_some H
 clear H
 refine Tr.mid (ι := (List Pt)) (fun v => ⟨23,0,[sC 3 (cL 8 v Pt.row)],[]⟩) (fun v => laws_toPtS_J1 n v = some r) ?_ ?_
 ·refine tB ?_
  refine Tr.loop (ι := Nat × (Int × (List Pt))) (fun v => ⟨23,0,[sI 4 v.2.1,sC 3 (cL 8 v.2.2 Pt.row),sC 0 (cF 8 x0 Pt.row)],[]⟩) (fun v => laws_toPtS_L2 n v.1 x0 v.2.1 v.2.2 = some o5) (fun v => v.1) (n,(0,(List.replicate ((x0.length : Int)).toNat (⟨false,0,false,(⟨0,0,0,0,0⟩ : Vec)⟩ : Pt)))) eo5 (St.sub_of [4,3,0] [] kr) ?_
  rintro ⟨mo5,y2,y3⟩ H
  have H : laws_toPtS_L2 n mo5 x0 y2 y3 = some o5 := H
  obtain _ | mo5 := mo5
  ·cases (show (none : Option _) = some o5 from H)
  rw [laws_toPtS_L2] at H
  refine tS ?_
  refine rU tOk 2 kr ?_
  refine lL tOk 22 3 200 9 10 none ⟨(.slot 9),[],0,false,8,(CV.frzEs (x0.map Pt.row))⟩ (x0).length _ kr kr kr kr kr (frz_len _ _) rfl ?_
  refine uD tOk 1 2073 0 kr kr ?_
  obtain ⟨h1,H⟩ | ⟨h1,H⟩ := bC H
  ·refine tF h1 kr ?_
   refine Tr.exit ?_
   refine And.intro (fun _ => ?_) (fun h => absurd rfl h)
   obtain rfl := si H
   have H := Ho5
   dsimp only at H
   exact jn y3 H (sB_ [3] [] kr)
  refine tT h1 kr ?_
  refine tK ?_
  refine tS ?_
  refine tB ?_
  refine Tr.at ?_
  refine lU tOk 4 kr ?_
  obtain ⟨v6,ev6,H⟩ := bind_some H
  refine lI tOk 22 0 16 17 18 none ⟨(.slot 16),[],0,false,8,(CV.frzEs (x0.map Pt.row))⟩ y2 (Pt.row v6) _ kr kr kr kr rfl (idx_isF ev6) rfl ?_
  refine lU tOk 1 kr ?_
  obtain ⟨r7,er7,H⟩ := bind_some H
  refine lV tOk [.rd] [] (laws_toPt n v6 r7 er7) kr kr kr kr (.inl rfl) ?_
  obtain ⟨v8,ev8,H⟩ := bind_some H
  refine lO tOk 35 0 14 15 21 none ⟨(.slot 3),[],0,true,8,(y3.map Pt.row)⟩ y2 (y2.toNat) (Pt.row v8) _ kr kr kr kr rfl kr (idx_isE ev8) rfl rfl ?_
  refine lW tOk (t := 167) (ty := 0) (ad := (.tmp 21)) (x := (.tmp 20)) (g := none) (tI 167) true (Pt.row r7) 3 0 (y2.toNat) 8 0 8 y3 Pt.row v8 r7 kr kr kr kr kr kr kr kr (idx_get ev8).2 kr kr kr kr ?_
  refine lD 25 0 kr ?_
  refine tE tOk 3 25 0 kr kr ?_
  exact jn (mo5,((IntKind.wrap .i64 (y2 + 1)),(y3.set (y2.toNat) r7))) H (sM mo5 [4,3,0] [] kr)
 rintro y4 H
 have H : (laws_toPtS_J1 n y4) = some r := H
 unfold laws_toPtS_J1 at H
 refine tG tOk 2 12 0 kr kr ?_
 exact te (by obtain rfl := si H; exact fO [(false,[cL 8 y4 Pt.row])] kr rfl rfl)
def laws_toFentF (n : Nat) (x0 : Fent) : Option (Fent) :=
  (some x0)
noncomputable abbrev G178 (k : Nat) := Rg Tryz.f178 k
theorem laws_toFent (n : Nat) (x0 : Fent) (r : Fent) (H : laws_toFentF n x0 = some r) : LCall Tryz.prog 178 [.val true (CV.frzRow (Fent.row x0))] [.val true (Fent.row r)] [] := by
 refine LCall.of_body tOk Tryz.func178 rfl (c := (.seq (G178 0) (.seq (G178 1) (.seq (G178 2) (.seq (G178 3) (.seq (G178 4) (.seq (G178 5) (.seq (G178 6) (.seq (G178 7) .ret))))))))) kr (Nat.le_of_ble_eq_true kr) 0 (rs := [.cell 2 169]) rfl [] .nil [(true,(Fent.row r))] [] [] fun cx => ?_
 show Tr _ _ _ ⟨20,0,[sV 0 (Fent.row x0)],[]⟩ _
 unfold laws_toFentF at H
 refine tG tOk 2 6 6 kr kr ?_
 refine tG tOk 1 14 14 kr kr ?_
 refine tG tOk 4 14 14 kr kr ?_
 refine tG tOk 4 14 14 kr kr ?_
 refine tG tOk 4 14 14 kr kr ?_
 refine tG tOk 4 14 14 kr kr ?_
 refine tG tOk 4 12 12 kr kr ?_
 refine tG tOk 2 4 4 kr kr ?_
 exact te (by obtain rfl := si H; exact fO [(true,(Fent.row x0))] kr rfl rfl)
def laws_toFentS_J1 (n : Nat) (y4 : (List Fent)) : Option ((List Fent)) :=
  (some y4)
def laws_toFentS_L2 (n : Nat) : Nat → (List Fent) → Int → (List Fent) → Option (((List Fent)) ⊕ ((List Fent)))
  | 0,_,_,_ => none
  | mo5 + 1,x0,y2,y3 => (bif (decide (y2 < (x0.length : Int))) then ((idx x0 y2).bind fun v6 => ((laws_toFentF n v6).bind fun r7 => ((idx y3 y2).bind fun v8 => (laws_toFentS_L2 n mo5 x0 (IntKind.wrap .i64 (y2 + 1)) (y3.set (y2.toNat) r7))))) else (some (Sum.inl y3)))
def laws_toFentSF (n : Nat) (x0 : (List Fent)) : Option ((List Fent)) :=
  (bif (decide (0 ≤ (x0.length : Int)) && decide ((x0.length : Int) ≤ 268435456)) then ((laws_toFentS_L2 n n x0 0 (List.replicate ((x0.length : Int)).toNat (⟨0,0,0,0,false⟩ : Fent))).bind fun o => match o with | .inl y4 => (laws_toFentS_J1 n y4) | .inr r => some r) else none)
noncomputable abbrev G80 (k : Nat) := Rg Tryz.f80 k
theorem laws_toFentS (n : Nat) (x0 : (List Fent)) (r : (List Fent)) (H : laws_toFentSF n x0 = some r) : LCall Tryz.prog 80 [.val false [.sl false 5 (CV.frzEs (x0.map Fent.row))]] [.val false [.sl true 5 (r.map Fent.row)]] [] := by
 refine LCall.of_body tOk Tryz.func80 rfl (c := (.seq (G80 0) (.seq (G80 1) (.seq (.seq (G80 2) (.block 0 (.loop (.seq (.seq (G80 3) (.cond (.tmp 11) .skip (.exit 0))) (.seq (.block 1 (G80 5)) (G80 4)))))) (.seq (G80 6) .ret))))) kr (Nat.le_of_ble_eq_true kr) 0 (rs := [.tmp 2]) rfl [] .nil [(false,[.sl true 5 (r.map Fent.row)])] [] [] fun cx => ?_
 show Tr _ _ _ ⟨23,0,[sC 0 (cF 5 x0 Fent.row)],[]⟩ _
 unfold laws_toFentSF at H
 refine tG tOk 1 1 0 kr kr ?_
 refine rU tOk 1 kr ?_
 refine lL tOk 23 3 202 5 6 none ⟨(.slot 5),[],0,false,5,(CV.frzEs (x0.map Fent.row))⟩ (x0).length _ kr kr kr kr kr (frz_len _ _) rfl ?_
 obtain ⟨hg1,H⟩ := guard_some H
 refine LAt.makeG tOk (t := 36) (ty := 36) (e := 169) (x := (.tmp 6)) (d := 7) (g := none) (tI 169) (x0.length : Int) ((List.replicate ((x0.length : Int)).toNat (⟨0,0,0,0,false⟩ : Fent)).map Fent.row) _ kr kr kr kr kr kr hg1 kr (rep_map _ rfl) rfl ?_
 refine LAt.moveU (T := lk tab) (ty := 36) (x := (.tmp 7)) (d := 3) (g := none) false [cL 5 (List.replicate ((x0.length : Int)).toNat (⟨0,0,0,0,false⟩ : Fent)) Fent.row] kr kr kr kr kr ?_
 refine lD 9 0 kr ?_
 refine tS ?_
 refine tG tOk 1 25 0 kr kr ?_
 obtain ⟨o5,eo5,Ho5⟩ := bind_some H
 clear H
 refine Tr.mid (ι := (List Fent)) (fun v => ⟨23,0,[sC 3 (cL 5 v Fent.row)],[]⟩) (fun v => laws_toFentS_J1 n v = some r) ?_ ?_
 ·refine tB ?_
  refine Tr.loop (ι := Nat × (Int × (List Fent))) (fun v => ⟨23,0,[sI 4 v.2.1,sC 3 (cL 5 v.2.2 Fent.row),sC 0 (cF 5 x0 Fent.row)],[]⟩) (fun v => laws_toFentS_L2 n v.1 x0 v.2.1 v.2.2 = some o5) (fun v => v.1) (n,(0,(List.replicate ((x0.length : Int)).toNat (⟨0,0,0,0,false⟩ : Fent)))) eo5 (St.sub_of [4,3,0] [] kr) ?_
  rintro ⟨mo5,y2,y3⟩ H
  have H : laws_toFentS_L2 n mo5 x0 y2 y3 = some o5 := H
  obtain _ | mo5 := mo5
  ·cases (show (none : Option _) = some o5 from H)
  rw [laws_toFentS_L2] at H
  refine tS ?_
  refine rU tOk 2 kr ?_
  refine lL tOk 23 3 202 9 10 none ⟨(.slot 9),[],0,false,5,(CV.frzEs (x0.map Fent.row))⟩ (x0).length _ kr kr kr kr kr (frz_len _ _) rfl ?_
  refine uD tOk 1 2073 0 kr kr ?_
  obtain ⟨h1,H⟩ | ⟨h1,H⟩ := bC H
  ·refine tF h1 kr ?_
   refine Tr.exit ?_
   refine And.intro (fun _ => ?_) (fun h => absurd rfl h)
   obtain rfl := si H
   have H := Ho5
   dsimp only at H
   exact jn y3 H (sB_ [3] [] kr)
  refine tT h1 kr ?_
  refine tK ?_
  refine tS ?_
  refine tB ?_
  refine Tr.at ?_
  refine lU tOk 4 kr ?_
  obtain ⟨v6,ev6,H⟩ := bind_some H
  refine lI tOk 23 0 16 17 18 none ⟨(.slot 16),[],0,false,5,(CV.frzEs (x0.map Fent.row))⟩ y2 (Fent.row v6) _ kr kr kr kr rfl (idx_isF ev6) rfl ?_
  refine lU tOk 1 kr ?_
  obtain ⟨r7,er7,H⟩ := bind_some H
  refine lV tOk [.rd] [] (laws_toFent n v6 r7 er7) kr kr kr kr (.inl rfl) ?_
  obtain ⟨v8,ev8,H⟩ := bind_some H
  refine lO tOk 36 0 14 15 21 none ⟨(.slot 3),[],0,true,5,(y3.map Fent.row)⟩ y2 (y2.toNat) (Fent.row v8) _ kr kr kr kr rfl kr (idx_isE ev8) rfl rfl ?_
  refine lW tOk (t := 169) (ty := 0) (ad := (.tmp 21)) (x := (.tmp 20)) (g := none) (tI 169) true (Fent.row r7) 3 0 (y2.toNat) 5 0 5 y3 Fent.row v8 r7 kr kr kr kr kr kr kr kr (idx_get ev8).2 kr kr kr kr ?_
  refine lD 25 0 kr ?_
  refine tE tOk 3 25 0 kr kr ?_
  exact jn (mo5,((IntKind.wrap .i64 (y2 + 1)),(y3.set (y2.toNat) r7))) H (sM mo5 [4,3,0] [] kr)
 rintro y4 H
 have H : (laws_toFentS_J1 n y4) = some r := H
 unfold laws_toFentS_J1 at H
 refine tG tOk 2 12 0 kr kr ?_
 exact te (by obtain rfl := si H; exact fO [(false,[cL 5 y4 Fent.row])] kr rfl rfl)
def laws_toVrowF (n : Nat) (x0 : Vrow) : Option (Vrow) :=
  (some x0)
noncomputable abbrev G235 (k : Nat) := Rg Tryz.f235 k
theorem laws_toVrow (n : Nat) (x0 : Vrow) (r : Vrow) (H : laws_toVrowF n x0 = some r) : LCall Tryz.prog 235 [.val true (CV.frzRow (Vrow.row x0))] [.val true (Vrow.row r)] [] := by
 refine LCall.of_body tOk Tryz.func235 rfl (c := (.seq (G235 0) (.seq (G235 1) (.seq (G235 2) (.seq (G235 3) (.seq (G235 4) (.seq (G235 5) .ret))))))) kr (Nat.le_of_ble_eq_true kr) 0 (rs := [.cell 2 175]) rfl [] .nil [(true,(Vrow.row r))] [] [] fun cx => ?_
 show Tr _ _ _ ⟨14,0,[sV 0 (Vrow.row x0)],[]⟩ _
 unfold laws_toVrowF at H
 refine tG tOk 2 6 6 kr kr ?_
 refine tG tOk 1 14 14 kr kr ?_
 refine tG tOk 4 14 14 kr kr ?_
 refine tG tOk 4 14 14 kr kr ?_
 refine tG tOk 4 12 12 kr kr ?_
 refine tG tOk 2 4 4 kr kr ?_
 exact te (by obtain rfl := si H; exact fO [(true,(Vrow.row x0))] kr rfl rfl)
def laws_toVrowS_J1 (n : Nat) (y4 : (List Vrow)) : Option ((List Vrow)) :=
  (some y4)
def laws_toVrowS_L2 (n : Nat) : Nat → (List Vrow) → Int → (List Vrow) → Option (((List Vrow)) ⊕ ((List Vrow)))
  | 0,_,_,_ => none
  | mo5 + 1,x0,y2,y3 => (bif (decide (y2 < (x0.length : Int))) then ((idx x0 y2).bind fun v6 => ((laws_toVrowF n v6).bind fun r7 => ((idx y3 y2).bind fun v8 => (laws_toVrowS_L2 n mo5 x0 (IntKind.wrap .i64 (y2 + 1)) (y3.set (y2.toNat) r7))))) else (some (Sum.inl y3)))
def laws_toVrowSF (n : Nat) (x0 : (List Vrow)) : Option ((List Vrow)) :=
  (bif (decide (0 ≤ (x0.length : Int)) && decide ((x0.length : Int) ≤ 268435456)) then ((laws_toVrowS_L2 n n x0 0 (List.replicate ((x0.length : Int)).toNat (⟨0,0,0⟩ : Vrow))).bind fun o => match o with | .inl y4 => (laws_toVrowS_J1 n y4) | .inr r => some r) else none)
noncomputable abbrev G179 (k : Nat) := Rg Tryz.f179 k
theorem laws_toVrowS (n : Nat) (x0 : (List Vrow)) (r : (List Vrow)) (H : laws_toVrowSF n x0 = some r) : LCall Tryz.prog 179 [.val false [.sl false 3 (CV.frzEs (x0.map Vrow.row))]] [.val false [.sl true 3 (r.map Vrow.row)]] [] := by
 refine LCall.of_body tOk Tryz.func179 rfl (c := (.seq (G179 0) (.seq (G179 1) (.seq (.seq (G179 2) (.block 0 (.loop (.seq (.seq (G179 3) (.cond (.tmp 11) .skip (.exit 0))) (.seq (.block 1 (G179 5)) (G179 4)))))) (.seq (G179 6) .ret))))) kr (Nat.le_of_ble_eq_true kr) 0 (rs := [.tmp 2]) rfl [] .nil [(false,[.sl true 3 (r.map Vrow.row)])] [] [] fun cx => ?_
 show Tr _ _ _ ⟨23,0,[sC 0 (cF 3 x0 Vrow.row)],[]⟩ _
 unfold laws_toVrowSF at H
 refine tG tOk 1 1 0 kr kr ?_
 refine rU tOk 1 kr ?_
 refine lL tOk 24 3 244 5 6 none ⟨(.slot 5),[],0,false,3,(CV.frzEs (x0.map Vrow.row))⟩ (x0).length _ kr kr kr kr kr (frz_len _ _) rfl ?_
 obtain ⟨hg1,H⟩ := guard_some H
 refine LAt.makeG tOk (t := 37) (ty := 37) (e := 175) (x := (.tmp 6)) (d := 7) (g := none) (tI 175) (x0.length : Int) ((List.replicate ((x0.length : Int)).toNat (⟨0,0,0⟩ : Vrow)).map Vrow.row) _ kr kr kr kr kr kr hg1 kr (rep_map _ rfl) rfl ?_
 refine LAt.moveU (T := lk tab) (ty := 37) (x := (.tmp 7)) (d := 3) (g := none) false [cL 3 (List.replicate ((x0.length : Int)).toNat (⟨0,0,0⟩ : Vrow)) Vrow.row] kr kr kr kr kr ?_
 refine lD 9 0 kr ?_
 refine tS ?_
 refine tG tOk 1 25 0 kr kr ?_
 obtain ⟨o5,eo5,Ho5⟩ := bind_some H
 clear H
 refine Tr.mid (ι := (List Vrow)) (fun v => ⟨23,0,[sC 3 (cL 3 v Vrow.row)],[]⟩) (fun v => laws_toVrowS_J1 n v = some r) ?_ ?_
 ·refine tB ?_
  refine Tr.loop (ι := Nat × (Int × (List Vrow))) (fun v => ⟨23,0,[sI 4 v.2.1,sC 3 (cL 3 v.2.2 Vrow.row),sC 0 (cF 3 x0 Vrow.row)],[]⟩) (fun v => laws_toVrowS_L2 n v.1 x0 v.2.1 v.2.2 = some o5) (fun v => v.1) (n,(0,(List.replicate ((x0.length : Int)).toNat (⟨0,0,0⟩ : Vrow)))) eo5 (St.sub_of [4,3,0] [] kr) ?_
  rintro ⟨mo5,y2,y3⟩ H
  have H : laws_toVrowS_L2 n mo5 x0 y2 y3 = some o5 := H
  obtain _ | mo5 := mo5
  ·cases (show (none : Option _) = some o5 from H)
  rw [laws_toVrowS_L2] at H
  refine tS ?_
  refine rU tOk 2 kr ?_
  refine lL tOk 24 3 244 9 10 none ⟨(.slot 9),[],0,false,3,(CV.frzEs (x0.map Vrow.row))⟩ (x0).length _ kr kr kr kr kr (frz_len _ _) rfl ?_
  refine uD tOk 1 2073 0 kr kr ?_
  obtain ⟨h1,H⟩ | ⟨h1,H⟩ := bC H
  ·refine tF h1 kr ?_
   refine Tr.exit ?_
   refine And.intro (fun _ => ?_) (fun h => absurd rfl h)
   obtain rfl := si H
   have H := Ho5
   dsimp only at H
   exact jn y3 H (sB_ [3] [] kr)
  refine tT h1 kr ?_
  refine tK ?_
  refine tS ?_
  refine tB ?_
  refine Tr.at ?_
  refine lU tOk 4 kr ?_
  obtain ⟨v6,ev6,H⟩ := bind_some H
  refine lI tOk 24 0 16 17 18 none ⟨(.slot 16),[],0,false,3,(CV.frzEs (x0.map Vrow.row))⟩ y2 (Vrow.row v6) _ kr kr kr kr rfl (idx_isF ev6) rfl ?_
  refine lU tOk 1 kr ?_
  obtain ⟨r7,er7,H⟩ := bind_some H
  refine lV tOk [.rd] [] (laws_toVrow n v6 r7 er7) kr kr kr kr (.inl rfl) ?_
  obtain ⟨v8,ev8,H⟩ := bind_some H
  refine lO tOk 37 0 14 15 21 none ⟨(.slot 3),[],0,true,3,(y3.map Vrow.row)⟩ y2 (y2.toNat) (Vrow.row v8) _ kr kr kr kr rfl kr (idx_isE ev8) rfl rfl ?_
  refine lW tOk (t := 175) (ty := 0) (ad := (.tmp 21)) (x := (.tmp 20)) (g := none) (tI 175) true (Vrow.row r7) 3 0 (y2.toNat) 3 0 3 y3 Vrow.row v8 r7 kr kr kr kr kr kr kr kr (idx_get ev8).2 kr kr kr kr ?_
  refine lD 25 0 kr ?_
  refine tE tOk 3 25 0 kr kr ?_
  exact jn (mo5,((IntKind.wrap .i64 (y2 + 1)),(y3.set (y2.toNat) r7))) H (sM mo5 [4,3,0] [] kr)
 rintro y4 H
 have H : (laws_toVrowS_J1 n y4) = some r := H
 unfold laws_toVrowS_J1 at H
 refine tG tOk 2 12 0 kr kr ?_
 exact te (by obtain rfl := si H; exact fO [(false,[cL 3 y4 Vrow.row])] kr rfl rfl)
def laws_toIntS_J1 (n : Nat) (y4 : (List Int)) : Option ((List Int)) :=
  (some y4)
def laws_toIntS_L2 (n : Nat) : Nat → (List Int) → Int → (List Int) → Option (((List Int)) ⊕ ((List Int)))
  | 0,_,_,_ => none
  | mo5 + 1,x0,y2,y3 => (bif (decide (y2 < (x0.length : Int))) then ((idx x0 y2).bind fun v6 => ((idx y3 y2).bind fun v7 => (laws_toIntS_L2 n mo5 x0 (IntKind.wrap .i64 (y2 + 1)) (y3.set (y2.toNat) v6)))) else (some (Sum.inl y3)))
def laws_toIntSF (n : Nat) (x0 : (List Int)) : Option ((List Int)) :=
  (bif (decide (0 ≤ (x0.length : Int)) && decide ((x0.length : Int) ≤ 268435456)) then ((laws_toIntS_L2 n n x0 0 (List.replicate ((x0.length : Int)).toNat 0)).bind fun o => match o with | .inl y4 => (laws_toIntS_J1 n y4) | .inr r => some r) else none)
noncomputable abbrev G180 (k : Nat) := Rg Tryz.f180 k
theorem laws_toIntS (n : Nat) (x0 : (List Int)) (r : (List Int)) (H : laws_toIntSF n x0 = some r) : LCall Tryz.prog 180 [.val false [.sl false 1 (CV.frzEs (x0.map intRow))]] [.val false [.sl true 1 (r.map intRow)]] [] := by
 refine LCall.of_body tOk Tryz.func180 rfl (c := (.seq (G180 0) (.seq (G180 1) (.seq (.seq (G180 2) (.block 0 (.loop (.seq (.seq (G180 3) (.cond (.tmp 11) .skip (.exit 0))) (.seq (.block 1 (G180 5)) (G180 4)))))) (.seq (G180 6) .ret))))) kr (Nat.le_of_ble_eq_true kr) 0 (rs := [.tmp 2]) rfl [] .nil [(false,[.sl true 1 (r.map intRow)])] [] [] fun cx => ?_
 show Tr _ _ _ ⟨22,0,[sC 0 (cF 1 x0 intRow)],[]⟩ _
 unfold laws_toIntSF at H
 refine tG tOk 1 1 0 kr kr ?_
 refine rU tOk 1 kr ?_
 refine lL tOk 25 3 3 5 6 none ⟨(.slot 5),[],0,false,1,(CV.frzEs (x0.map intRow))⟩ (x0).length _ kr kr kr kr kr (frz_len _ _) rfl ?_
 obtain ⟨hg1,H⟩ := guard_some H
 refine LAt.makeG tOk (t := 25) (ty := 25) (e := 3) (x := (.tmp 6)) (d := 7) (g := none) (tI 3) (x0.length : Int) ((List.replicate ((x0.length : Int)).toNat 0).map intRow) _ kr kr kr kr kr kr hg1 kr (rep_map _ rfl) rfl ?_
 refine LAt.moveU (T := lk tab) (ty := 25) (x := (.tmp 7)) (d := 3) (g := none) false [cL 1 (List.replicate ((x0.length : Int)).toNat 0) intRow] kr kr kr kr kr ?_
 refine lD 9 0 kr ?_
 refine tS ?_
 refine tG tOk 1 25 0 kr kr ?_
 obtain ⟨o5,eo5,Ho5⟩ := bind_some H
 clear H
 refine Tr.mid (ι := (List Int)) (fun v => ⟨22,0,[sC 3 (cL 1 v intRow)],[]⟩) (fun v => laws_toIntS_J1 n v = some r) ?_ ?_
 ·refine tB ?_
  refine Tr.loop (ι := Nat × (Int × (List Int))) (fun v => ⟨22,0,[sI 4 v.2.1,sC 3 (cL 1 v.2.2 intRow),sC 0 (cF 1 x0 intRow)],[]⟩) (fun v => laws_toIntS_L2 n v.1 x0 v.2.1 v.2.2 = some o5) (fun v => v.1) (n,(0,(List.replicate ((x0.length : Int)).toNat 0))) eo5 (St.sub_of [4,3,0] [] kr) ?_
  rintro ⟨mo5,y2,y3⟩ H
  have H : laws_toIntS_L2 n mo5 x0 y2 y3 = some o5 := H
  obtain _ | mo5 := mo5
  ·cases (show (none : Option _) = some o5 from H)
  rw [laws_toIntS_L2] at H
  refine tS ?_
  refine rU tOk 2 kr ?_
  refine lL tOk 25 3 3 9 10 none ⟨(.slot 9),[],0,false,1,(CV.frzEs (x0.map intRow))⟩ (x0).length _ kr kr kr kr kr (frz_len _ _) rfl ?_
  refine uD tOk 1 2073 0 kr kr ?_
  obtain ⟨h1,H⟩ | ⟨h1,H⟩ := bC H
  ·refine tF h1 kr ?_
   refine Tr.exit ?_
   refine And.intro (fun _ => ?_) (fun h => absurd rfl h)
   obtain rfl := si H
   have H := Ho5
   dsimp only at H
   exact jn y3 H (sB_ [3] [] kr)
  refine tT h1 kr ?_
  refine tK ?_
  refine tS ?_
  refine tB ?_
  refine Tr.at ?_
  refine lU tOk 4 kr ?_
  obtain ⟨v6,ev6,H⟩ := bind_some H
  refine lI tOk 25 0 16 17 18 none ⟨(.slot 16),[],0,false,1,(CV.frzEs (x0.map intRow))⟩ y2 [cI v6] _ kr kr kr kr rfl (idx_isF ev6) rfl ?_
  refine lU tOk 1 kr ?_
  obtain ⟨v7,ev7,H⟩ := bind_some H
  refine lO tOk 25 0 14 15 20 none ⟨(.slot 3),[],0,true,1,(y3.map intRow)⟩ y2 (y2.toNat) (intRow v7) _ kr kr kr kr rfl kr (idx_isE ev7) rfl rfl ?_
  refine lW tOk (t := 3) (ty := 0) (ad := (.tmp 20)) (x := (.tmp 19)) (g := none) (tI 3) false [cI v6] 3 0 (y2.toNat) 1 0 1 y3 intRow v7 v6 kr kr kr kr kr kr kr kr (idx_get ev7).2 kr kr kr kr ?_
  refine lD 25 0 kr ?_
  refine tE tOk 3 25 0 kr kr ?_
  exact jn (mo5,((IntKind.wrap .i64 (y2 + 1)),(y3.set (y2.toNat) v6))) H (sM mo5 [4,3,0] [] kr)
 rintro y4 H
 have H : (laws_toIntS_J1 n y4) = some r := H
 unfold laws_toIntS_J1 at H
 refine tG tOk 2 12 0 kr kr ?_
 exact te (by obtain rfl := si H; exact fO [(false,[cL 1 y4 intRow])] kr rfl rfl)
def laws_toVtabF (n : Nat) (x0 : Vtab) : Option (Vtab) :=
  ((laws_toVrowSF n x0.Rows).bind fun r1 => ((laws_toIntSF n x0.Pvid).bind fun r2 => (some (⟨r1,r2⟩ : Vtab))))
noncomputable abbrev G81 (k : Nat) := Rg Tryz.f81 k
theorem laws_toVtab (n : Nat) (x0 : Vtab) (r : Vtab) (H : laws_toVtabF n x0 = some r) : LCall Tryz.prog 81 [.val true (CV.frzRow (Vtab.row x0))] [.val true (Vtab.row r)] [] := by
 refine LCall.of_body tOk Tryz.func81 rfl (c := (.seq (G81 0) (.seq (G81 1) (.seq (G81 2) (.seq (G81 3) (.seq (G81 4) .ret)))))) kr (Nat.le_of_ble_eq_true kr) 0 (rs := [.cell 2 39]) rfl [] .nil [(true,(Vtab.row r))] [] [] fun cx => ?_
 show Tr _ _ _ ⟨13,0,[sV 0 (CV.frzRow (Vtab.row x0))],[]⟩ _
 unfold laws_toVtabF at H
 refine tG tOk 2 6 6 kr kr ?_
 refine tG tOk 1 14 14 kr kr ?_
 refine rU tOk 2 kr ?_
 obtain ⟨r1,er1,H⟩ := bind_some H
 refine lV tOk [.rd] [] (laws_toVrowS n x0.Rows r1 er1) kr kr kr kr (.inl rfl) ?_
 refine uD tOk 2 14 14 kr kr ?_
 refine rU tOk 2 kr ?_
 obtain ⟨r2,er2,H⟩ := bind_some H
 refine lV tOk [.rd] [] (laws_toIntS n x0.Pvid r2 er2) kr kr kr kr (.inl rfl) ?_
 refine uD tOk 2 12 12 kr kr ?_
 refine tG tOk 2 4 4 kr kr ?_
 exact te (by obtain rfl := si H; exact fO [(true,[cL 3 r1 Vrow.row,cL 1 r2 intRow])] kr rfl rfl)
def laws_toBridgeF (n : Nat) (x0 : Bridge) : Option (Bridge) :=
  ((laws_toPtSF n x0.Ports).bind fun r1 => ((laws_toFentSF n x0.F).bind fun r2 => ((laws_toVtabF n x0.V).bind fun r3 => (some (⟨x0.Id,x0.Name,r1,r2,r3,x0.Ticks,x0.Parse,x0.Word,x0.Drops,x0.Vers⟩ : Bridge)))))
noncomputable abbrev G12 (k : Nat) := Rg Tryz.f12 k
theorem laws_toBridge (n : Nat) (x0 : Bridge) (r : Bridge) (H : laws_toBridgeF n x0 = some r) : LCall Tryz.prog 12 [.val true (CV.frzRow (Bridge.row x0))] [.val true (Bridge.row r)] [] := by
 refine LCall.of_body tOk Tryz.func12 rfl (c := (.seq (G12 0) (.seq (G12 1) (.seq (G12 2) (.seq (G12 3) (.seq (G12 4) (.seq (G12 5) (.seq (G12 6) (.seq (G12 7) (.seq (G12 8) (.seq (G12 9) (.seq (G12 10) (.seq (G12 11) (.seq (G12 12) .ret)))))))))))))) kr (Nat.le_of_ble_eq_true kr) 0 (rs := [.cell 2 41]) rfl [] .nil [(true,(Bridge.row r))] [] [] fun cx => ?_
 show Tr _ _ _ ⟨38,0,[sV 0 (CV.frzRow (Bridge.row x0))],[]⟩ _
 unfold laws_toBridgeF at H
 refine tG tOk 2 6 6 kr kr ?_
 refine tG tOk 1 14 14 kr kr ?_
 refine tG tOk 4 14 14 kr kr ?_
 refine tG tOk 4 14 14 kr kr ?_
 refine rU tOk 2 kr ?_
 obtain ⟨r1,er1,H⟩ := bind_some H
 refine lV tOk [.rd] [] (laws_toPtS n x0.Ports r1 er1) kr kr kr kr (.inl rfl) ?_
 refine uD tOk 2 14 14 kr kr ?_
 refine rU tOk 2 kr ?_
 obtain ⟨r2,er2,H⟩ := bind_some H
 refine lV tOk [.rd] [] (laws_toFentS n x0.F r2 er2) kr kr kr kr (.inl rfl) ?_
 refine uD tOk 2 14 14 kr kr ?_
 refine rU tOk 2 kr ?_
 obtain ⟨r3,er3,H⟩ := bind_some H
 refine lV tOk [.rd] [] (laws_toVtab n x0.V r3 er3) kr kr kr kr (.inl rfl) ?_
 refine uD tOk 2 14 14 kr kr ?_
 refine tG tOk 4 14 14 kr kr ?_
 refine tG tOk 4 14 14 kr kr ?_
 refine tG tOk 4 14 14 kr kr ?_
 refine tG tOk 4 14 14 kr kr ?_
 refine tG tOk 4 12 12 kr kr ?_
 refine tG tOk 2 4 4 kr kr ?_
 exact te (by obtain rfl := si H; exact fO [(true,[cI x0.Id,cS x0.Name,cL 8 r1 Pt.row,cL 5 r2 Fent.row,cL 3 r3.Rows Vrow.row,cL 1 r3.Pvid intRow,cI x0.Ticks,cI x0.Parse,cI x0.Word,cI x0.Drops,cI x0.Vers])] kr rfl rfl)
def laws_toByteS_J1 (n : Nat) (y4 : (List Int)) : Option ((List Int)) :=
  (some y4)
def laws_toByteS_L2 (n : Nat) : Nat → (List Int) → Int → (List Int) → Option (((List Int)) ⊕ ((List Int)))
  | 0,_,_,_ => none
  | mo5 + 1,x0,y2,y3 => (bif (decide (y2 < (x0.length : Int))) then ((idx x0 y2).bind fun v6 => ((idx y3 y2).bind fun v7 => (laws_toByteS_L2 n mo5 x0 (IntKind.wrap .i64 (y2 + 1)) (y3.set (y2.toNat) v6)))) else (some (Sum.inl y3)))
def laws_toByteSF (n : Nat) (x0 : (List Int)) : Option ((List Int)) :=
  (bif (decide (0 ≤ (x0.length : Int)) && decide ((x0.length : Int) ≤ 268435456)) then ((laws_toByteS_L2 n n x0 0 (List.replicate ((x0.length : Int)).toNat 0)).bind fun o => match o with | .inl y4 => (laws_toByteS_J1 n y4) | .inr r => some r) else none)
noncomputable abbrev G82 (k : Nat) := Rg Tryz.f82 k
theorem laws_toByteS (n : Nat) (x0 : (List Int)) (r : (List Int)) (H : laws_toByteSF n x0 = some r) : LCall Tryz.prog 82 [.val false [.sl false 1 (CV.frzEs (x0.map byteRow))]] [.val false [.sl true 1 (r.map byteRow)]] [] := by
 refine LCall.of_body tOk Tryz.func82 rfl (c := (.seq (G82 0) (.seq (G82 1) (.seq (.seq (G82 2) (.block 0 (.loop (.seq (.seq (G82 3) (.cond (.tmp 11) .skip (.exit 0))) (.seq (.block 1 (G82 5)) (G82 4)))))) (.seq (G82 6) .ret))))) kr (Nat.le_of_ble_eq_true kr) 0 (rs := [.tmp 2]) rfl [] .nil [(false,[.sl true 1 (r.map byteRow)])] [] [] fun cx => ?_
 show Tr _ _ _ ⟨22,0,[sC 0 (cF 1 x0 byteRow)],[]⟩ _
 unfold laws_toByteSF at H
 refine tG tOk 1 1 0 kr kr ?_
 refine rU tOk 1 kr ?_
 refine lL tOk 30 3 5 5 6 none ⟨(.slot 5),[],0,false,1,(CV.frzEs (x0.map byteRow))⟩ (x0).length _ kr kr kr kr kr (frz_len _ _) rfl ?_
 obtain ⟨hg1,H⟩ := guard_some H
 refine LAt.makeG tOk (t := 30) (ty := 30) (e := 5) (x := (.tmp 6)) (d := 7) (g := none) (tI 5) (x0.length : Int) ((List.replicate ((x0.length : Int)).toNat 0).map byteRow) _ kr kr kr kr kr kr hg1 kr (rep_map _ rfl) rfl ?_
 refine LAt.moveU (T := lk tab) (ty := 30) (x := (.tmp 7)) (d := 3) (g := none) false [cL 1 (List.replicate ((x0.length : Int)).toNat 0) byteRow] kr kr kr kr kr ?_
 refine lD 9 0 kr ?_
 refine tS ?_
 refine tG tOk 1 25 0 kr kr ?_
 obtain ⟨o5,eo5,Ho5⟩ := bind_some H
 clear H
 refine Tr.mid (ι := (List Int)) (fun v => ⟨22,0,[sC 3 (cL 1 v byteRow)],[]⟩) (fun v => laws_toByteS_J1 n v = some r) ?_ ?_
 ·refine tB ?_
  refine Tr.loop (ι := Nat × (Int × (List Int))) (fun v => ⟨22,0,[sI 4 v.2.1,sC 3 (cL 1 v.2.2 byteRow),sC 0 (cF 1 x0 byteRow)],[]⟩) (fun v => laws_toByteS_L2 n v.1 x0 v.2.1 v.2.2 = some o5) (fun v => v.1) (n,(0,(List.replicate ((x0.length : Int)).toNat 0))) eo5 (St.sub_of [4,3,0] [] kr) ?_
  rintro ⟨mo5,y2,y3⟩ H
  have H : laws_toByteS_L2 n mo5 x0 y2 y3 = some o5 := H
  obtain _ | mo5 := mo5
  ·cases (show (none : Option _) = some o5 from H)
  rw [laws_toByteS_L2] at H
  refine tS ?_
  refine rU tOk 2 kr ?_
  refine lL tOk 30 3 5 9 10 none ⟨(.slot 9),[],0,false,1,(CV.frzEs (x0.map byteRow))⟩ (x0).length _ kr kr kr kr kr (frz_len _ _) rfl ?_
  refine uD tOk 1 2073 0 kr kr ?_
  obtain ⟨h1,H⟩ | ⟨h1,H⟩ := bC H
  ·refine tF h1 kr ?_
   refine Tr.exit ?_
   refine And.intro (fun _ => ?_) (fun h => absurd rfl h)
   obtain rfl := si H
   have H := Ho5
   dsimp only at H
   exact jn y3 H (sB_ [3] [] kr)
  refine tT h1 kr ?_
  refine tK ?_
  refine tS ?_
  refine tB ?_
  refine Tr.at ?_
  refine lU tOk 4 kr ?_
  obtain ⟨v6,ev6,H⟩ := bind_some H
  refine lI tOk 30 0 16 17 18 none ⟨(.slot 16),[],0,false,1,(CV.frzEs (x0.map byteRow))⟩ y2 [.lit (.int .u8 v6)] _ kr kr kr kr rfl (idx_isF ev6) rfl ?_
  refine lU tOk 1 kr ?_
  obtain ⟨v7,ev7,H⟩ := bind_some H
  refine lO tOk 30 0 14 15 20 none ⟨(.slot 3),[],0,true,1,(y3.map byteRow)⟩ y2 (y2.toNat) (byteRow v7) _ kr kr kr kr rfl kr (idx_isE ev7) rfl rfl ?_
  refine lW tOk (t := 5) (ty := 0) (ad := (.tmp 20)) (x := (.tmp 19)) (g := none) (tI 5) false [.lit (.int .u8 v6)] 3 0 (y2.toNat) 1 0 1 y3 byteRow v7 v6 kr kr kr kr kr kr kr kr (idx_get ev7).2 kr kr kr kr ?_
  refine lD 25 0 kr ?_
  refine tE tOk 3 25 0 kr kr ?_
  exact jn (mo5,((IntKind.wrap .i64 (y2 + 1)),(y3.set (y2.toNat) v6))) H (sM mo5 [4,3,0] [] kr)
 rintro y4 H
 have H : (laws_toByteS_J1 n y4) = some r := H
 unfold laws_toByteS_J1 at H
 refine tG tOk 2 12 0 kr kr ?_
 exact te (by obtain rfl := si H; exact fO [(false,[cL 1 y4 byteRow])] kr rfl rfl)
def laws_toFrameF (n : Nat) (x0 : Frame) : Option (Frame) :=
  ((laws_toByteSF n x0.Data).bind fun r1 => (some (⟨x0.Dst,x0.Src,x0.Tag,r1⟩ : Frame)))
noncomputable abbrev G13 (k : Nat) := Rg Tryz.f13 k
theorem laws_toFrame (n : Nat) (x0 : Frame) (r : Frame) (H : laws_toFrameF n x0 = some r) : LCall Tryz.prog 13 [.val true (CV.frzRow (Frame.row x0))] [.val true (Frame.row r)] [] := by
 refine LCall.of_body tOk Tryz.func13 rfl (c := (.seq (G13 0) (.seq (G13 1) (.seq (G13 2) (.seq (G13 3) (.seq (G13 4) (.seq (G13 5) (.seq (G13 6) .ret)))))))) kr (Nat.le_of_ble_eq_true kr) 0 (rs := [.cell 2 46]) rfl [] .nil [(true,(Frame.row r))] [] [] fun cx => ?_
 show Tr _ _ _ ⟨18,0,[sV 0 (CV.frzRow (Frame.row x0))],[]⟩ _
 unfold laws_toFrameF at H
 refine tG tOk 2 6 6 kr kr ?_
 refine tG tOk 1 14 14 kr kr ?_
 refine tG tOk 4 14 14 kr kr ?_
 refine tG tOk 4 14 14 kr kr ?_
 refine tG tOk 4 14 14 kr kr ?_
 refine rU tOk 2 kr ?_
 obtain ⟨r1,er1,H⟩ := bind_some H
 refine lV tOk [.rd] [] (laws_toByteS n x0.Data r1 er1) kr kr kr kr (.inl rfl) ?_
 refine uD tOk 2 12 12 kr kr ?_
 refine tG tOk 2 4 4 kr kr ?_
 exact te (by obtain rfl := si H; exact fO [(true,[cI x0.Dst,cI x0.Src,cI x0.Tag,cL 1 r1 byteRow])] kr rfl rfl)
def spec_l8CopyF (n : Nat) (x0 : (List Fent)) : Option ((List Fent)) :=
  (bif (decide (([] : List Fent).length + x0.length ≤ 268435456)) then (some (([] : List Fent) ++ x0)) else none)
noncomputable abbrev G166 (k : Nat) := Rg Tryz.f166 k
theorem spec_l8Copy (n : Nat) (x0 : (List Fent)) (r : (List Fent)) (H : spec_l8CopyF n x0 = some r) : LCall Tryz.prog 166 [.val false [.sl false 5 (CV.frzEs (x0.map Fent.row))]] [.val false [.sl true 5 (r.map Fent.row)]] [] := by
 refine LCall.of_body tOk Tryz.func166 rfl (c := (.seq (G166 0) (.seq (G166 1) .ret))) kr (Nat.le_of_ble_eq_true kr) 0 (rs := [.tmp 2]) rfl [] .nil [(false,[.sl true 5 (r.map Fent.row)])] [] [] fun cx => ?_
 show Tr _ _ _ ⟨6,0,[sC 0 (cF 5 x0 Fent.row)],[]⟩ _
 unfold spec_l8CopyF at H
 refine tG tOk 1 1 0 kr kr ?_
 refine rU tOk 2 kr ?_
 obtain ⟨hg1,H⟩ := guard_some H
 refine LAt.appCU tOk (t := 36) (ty := 36) (e := 169) (x := (.tmp 3)) (y := (.tmp 4)) (d := 5) (g := none) (tI 169) Fent.row ([] : List Fent) x0 ⟨(.slot 4),[],0,false,5,(CV.frzEs (x0.map Fent.row))⟩ kr kr kr kr kr kr kr kr kr kr kr (.inr rfl) (fun _ => rfl) (fun _ => rfl) hg1 ?_
 refine LAt.moveU (T := lk tab) (ty := 36) (x := (.tmp 5)) (d := 2) (g := none) false [cL 5 (([] : List Fent) ++ x0) Fent.row] kr kr kr kr kr ?_
 refine lD 4 0 kr ?_
 exact te (by obtain rfl := si H; exact fO [(false,[cL 5 (([] : List Fent) ++ x0) Fent.row])] kr rfl rfl)
def spec_l9CopyF (n : Nat) (x0 : Vtab) : Option (Vtab) :=
  (bif (decide (([] : List Vrow).length + x0.Rows.length ≤ 268435456)) then (bif (decide (([] : List Int).length + x0.Pvid.length ≤ 268435456)) then (some (⟨(([] : List Vrow) ++ x0.Rows),(([] : List Int) ++ x0.Pvid)⟩ : Vtab)) else none) else none)
noncomputable abbrev G167 (k : Nat) := Rg Tryz.f167 k
noncomputable abbrev D167 (k : Nat) := Rd Tryz.f167 k
theorem spec_l9Copy (n : Nat) (x0 : Vtab) (r : Vtab) (H : spec_l9CopyF n x0 = some r) : LCall Tryz.prog 167 [.val true (CV.frzRow (Vtab.row x0))] [.val true (Vtab.row r)] [] := by
 refine LCall.of_body tOk Tryz.func167 rfl (c := (.seq (G167 0) (.seq (D167 1) .ret))) kr (Nat.le_of_ble_eq_true kr) 0 (rs := [.cell 2 39]) rfl [] .nil [(true,(Vtab.row r))] [] [] fun cx => ?_
 show Tr _ _ _ ⟨12,0,[sV 0 (CV.frzRow (Vtab.row x0))],[]⟩ _
 unfold spec_l9CopyF at H
 refine tG tOk 2 6 6 kr kr ?_
 obtain ⟨hg1,H⟩ := guard_some H
 obtain ⟨hg2,H⟩ := guard_some H
 refine Tr.draws mixed 10 kr ⟨12,0,[sA 2 2 2 0],[(2,[cL 3 (([] : List Vrow) ++ x0.Rows) Vrow.row,cL 1 (([] : List Int) ++ x0.Pvid) intRow])]⟩ (fun cx => ?_) ?_
 ·refine aU tOk [(1,[]),(2,[3,7,8,9]),(5,[]),(6,[7,8,9])] 6 [⟨[7,8,9],25,8,9⟩,⟨[3,7,8,9],37,4,5⟩] [6,5,2,1] rfl kr (fun cx => ?_)
  refine AT.big2 tOk 0 4 kr (And.intro kr ?_) (And.intro kr ?_)
  ·refine lU tOk 1 kr ?_
   refine lF kr kr kr ?_
   refine AT.big2 tOk 3 4 kr (And.intro kr ?_) (And.intro kr ?_)
   ·refine LAt.appCU tOk (t := 37) (ty := 37) (e := 175) (x := (.tmp 3)) (y := (.tmp 5)) (d := 6) (g := none) (tI 175) Vrow.row ([] : List Vrow) x0.Rows ⟨(.box 1),[(0,0)],0,false,3,(CV.frzEs (x0.Rows.map Vrow.row))⟩ kr kr kr kr kr kr kr kr kr kr kr (.inr rfl) (fun _ => rfl) (fun _ => rfl) hg1 ?_
    refine lF kr kr kr ?_
    refine AT.big1 tOk 4 kr kr ?_
    refine lU tOk 1 kr ?_
    refine lF kr kr kr ?_
    refine AT.big1 tOk 7 kr kr ?_
    refine LAt.appCU tOk (t := 25) (ty := 25) (e := 3) (x := (.tmp 7)) (y := (.tmp 9)) (d := 10) (g := none) (tI 3) intRow ([] : List Int) x0.Pvid ⟨(.box 1),[(0,0)],1,false,1,(CV.frzEs (x0.Pvid.map intRow))⟩ kr kr kr kr kr kr kr kr kr kr kr (.inr rfl) (fun _ => rfl) (fun _ => rfl) hg2 ?_
    refine lF kr kr kr ?_
    refine AT.big1 tOk 8 kr kr ?_
    refine lU tOk 1 kr ?_
    refine lF kr kr kr ?_
    refine AT.big1 tOk 9 kr kr ?_
    refine lU tOk 1 kr ?_
    refine lF kr kr kr ?_
    exact AT.done [2] [2] _ kr kr rfl
   ·refine lU tOk 1 kr ?_
    refine lF kr kr kr ?_
    refine AT.big1 tOk 3 kr kr ?_
    refine LAt.appCU tOk (t := 37) (ty := 37) (e := 175) (x := (.tmp 3)) (y := (.tmp 5)) (d := 6) (g := none) (tI 175) Vrow.row ([] : List Vrow) x0.Rows ⟨(.box 1),[(0,0)],0,false,3,(CV.frzEs (x0.Rows.map Vrow.row))⟩ kr kr kr kr kr kr kr kr kr kr kr (.inr rfl) (fun _ => rfl) (fun _ => rfl) hg1 ?_
    refine lF kr kr kr ?_
    refine AT.big1 tOk 7 kr kr ?_
    refine LAt.appCU tOk (t := 25) (ty := 25) (e := 3) (x := (.tmp 7)) (y := (.tmp 9)) (d := 10) (g := none) (tI 3) intRow ([] : List Int) x0.Pvid ⟨(.box 1),[(0,0)],1,false,1,(CV.frzEs (x0.Pvid.map intRow))⟩ kr kr kr kr kr kr kr kr kr kr kr (.inr rfl) (fun _ => rfl) (fun _ => rfl) hg2 ?_
    refine lF kr kr kr ?_
    refine AT.big1 tOk 8 kr kr ?_
    refine lU tOk 1 kr ?_
    refine lF kr kr kr ?_
    refine AT.big1 tOk 9 kr kr ?_
    refine lU tOk 1 kr ?_
    refine lF kr kr kr ?_
    exact AT.done [2] [2] _ kr kr rfl
  ·refine lU tOk 1 kr ?_
   refine lF kr kr kr ?_
   refine AT.big1 tOk 0 kr kr ?_
   refine lU tOk 1 kr ?_
   refine lF kr kr kr ?_
   refine AT.big1 tOk 3 kr kr ?_
   refine LAt.appCU tOk (t := 37) (ty := 37) (e := 175) (x := (.tmp 3)) (y := (.tmp 5)) (d := 6) (g := none) (tI 175) Vrow.row ([] : List Vrow) x0.Rows ⟨(.box 1),[(0,0)],0,false,3,(CV.frzEs (x0.Rows.map Vrow.row))⟩ kr kr kr kr kr kr kr kr kr kr kr (.inr rfl) (fun _ => rfl) (fun _ => rfl) hg1 ?_
   refine lF kr kr kr ?_
   refine AT.big1 tOk 7 kr kr ?_
   refine LAt.appCU tOk (t := 25) (ty := 25) (e := 3) (x := (.tmp 7)) (y := (.tmp 9)) (d := 10) (g := none) (tI 3) intRow ([] : List Int) x0.Pvid ⟨(.box 1),[(0,0)],1,false,1,(CV.frzEs (x0.Pvid.map intRow))⟩ kr kr kr kr kr kr kr kr kr kr kr (.inr rfl) (fun _ => rfl) (fun _ => rfl) hg2 ?_
   refine lF kr kr kr ?_
   refine AT.big1 tOk 8 kr kr ?_
   refine lU tOk 1 kr ?_
   refine lF kr kr kr ?_
   refine AT.big1 tOk 9 kr kr ?_
   refine lU tOk 1 kr ?_
   refine lF kr kr kr ?_
   exact AT.done [2] [2] _ kr kr rfl
 exact te (by obtain rfl := si H; exact fO [(true,[cL 3 (([] : List Vrow) ++ x0.Rows) Vrow.row,cL 1 (([] : List Int) ++ x0.Pvid) intRow])] kr rfl rfl)
def spec_l11CopyF (n : Nat) (x0 : Bridge) : Option (Bridge) :=
  (bif (decide (([] : List Pt).length + x0.Ports.length ≤ 268435456)) then ((spec_l8CopyF n x0.F).bind fun r2 => ((spec_l9CopyF n x0.V).bind fun r3 => (some (⟨x0.Id,x0.Name,(([] : List Pt) ++ x0.Ports),r2,r3,x0.Ticks,x0.Parse,x0.Word,x0.Drops,x0.Vers⟩ : Bridge)))) else none)
noncomputable abbrev G68 (k : Nat) := Rg Tryz.f68 k
theorem spec_l11Copy (n : Nat) (x0 : Bridge) (r : Bridge) (H : spec_l11CopyF n x0 = some r) : LCall Tryz.prog 68 [.val true (CV.frzRow (Bridge.row x0))] [.val true (Bridge.row r)] [] := by
 refine LCall.of_body tOk Tryz.func68 rfl (c := (.seq (G68 0) (.seq (G68 1) (.seq (G68 2) (.seq (G68 3) (.seq (G68 4) (.seq (G68 5) .ret))))))) kr (Nat.le_of_ble_eq_true kr) 0 (rs := [.cell 2 41]) rfl [] .nil [(true,(Bridge.row r))] [] [] fun cx => ?_
 show Tr _ _ _ ⟨19,0,[sV 0 (CV.frzRow (Bridge.row x0))],[]⟩ _
 unfold spec_l11CopyF at H
 refine tG tOk 2 6 6 kr kr ?_
 refine tG tOk 3 14 14 kr kr ?_
 refine rU tOk 3 kr ?_
 obtain ⟨hg1,H⟩ := guard_some H
 refine LAt.appCU tOk (t := 35) (ty := 35) (e := 167) (x := (.tmp 5)) (y := (.tmp 7)) (d := 8) (g := none) (tI 167) Pt.row ([] : List Pt) x0.Ports ⟨(.slot 7),[],0,false,8,(CV.frzEs (x0.Ports.map Pt.row))⟩ kr kr kr kr kr kr kr kr kr kr kr (.inr rfl) (fun _ => rfl) (fun _ => rfl) hg1 ?_
 refine uD tOk 2 14 14 kr kr ?_
 refine rU tOk 2 kr ?_
 obtain ⟨r2,er2,H⟩ := bind_some H
 refine lV tOk [.rd] [] (spec_l8Copy n x0.F r2 er2) kr kr kr kr (.inl rfl) ?_
 refine uD tOk 2 14 14 kr kr ?_
 refine rU tOk 2 kr ?_
 obtain ⟨r3,er3,H⟩ := bind_some H
 refine lV tOk [.rd] [] (spec_l9Copy n x0.V r3 er3) kr kr kr kr (.inl rfl) ?_
 refine uD tOk 2 12 12 kr kr ?_
 refine tG tOk 2 4 4 kr kr ?_
 exact te (by obtain rfl := si H; exact fO [(true,[cI x0.Id,cS x0.Name,cL 8 (([] : List Pt) ++ x0.Ports) Pt.row,cL 5 r2 Fent.row,cL 3 r3.Rows Vrow.row,cL 1 r3.Pvid intRow,cI x0.Ticks,cI x0.Parse,cI x0.Word,cI x0.Drops,cI x0.Vers])] kr rfl rfl)
def spec_l1InF (n : Nat) (x0 : Int) (x1 : Int) (x2 : Int) : Option (Bool) :=
  (bif (decide (x0 ≥ x1)) then (some (decide (x0 ≤ x2))) else (some false))
noncomputable abbrev G107 (k : Nat) := Rg Tryz.f107 k
theorem spec_l1In (n : Nat) (x0 : Int) (x1 : Int) (x2 : Int) (r : Bool) (H : spec_l1InF n x0 x1 x2 = some r) : LCall Tryz.prog 107 [.val false [.lit (.int .i64 x0)],.val false [.lit (.int .i64 x1)],.val false [.lit (.int .i64 x2)]] [.val false [.lit (.bool r)]] [] := by
 refine LCall.of_body tOk Tryz.func107 rfl (c := (.seq (G107 0) (.seq (G107 1) .ret))) kr (Nat.le_of_ble_eq_true kr) 0 (rs := [.tmp 6]) rfl [] .nil [(false,[.lit (.bool r)])] [] [] fun cx => ?_
 show Tr _ _ _ ⟨15,0,[sI 0 x0,sI 1 x1,sI 2 x2],[]⟩ _
 unfold spec_l1InF at H
 refine tG tOk 1 7 0 kr kr ?_
 refine rU tOk 4 kr ?_
 refine lT ⟨15,0,[sB 10 (decide (x0 ≥ x1)),sB 9 (decide (x0 ≥ x1)),sI 8 x1,sI 7 x0,sI 0 x0,sI 1 x1,sI 2 x2],[]⟩ kr ?_
 cases h1 : (decide (x0 ≥ x1))
 ·have H := bifF h1 H
  refine uD tOk 5 64 0 kr kr ?_
  exact te (by obtain rfl := si H; exact fO [(false,[cB false])] kr rfl rfl)
 have H := bifT h1 H
 refine uD tOk 5 64 0 kr kr ?_
 exact te (by obtain rfl := si H; exact fO [(false,[cB (decide (x0 ≤ x2))])] kr rfl rfl)
def spec_VecOkF (n : Nat) (x0 : Vec) : Option (Bool) :=
  ((spec_l1InF n x0.Root 1 99).bind fun r1 => (bif r1 then ((spec_l1InF n x0.Cost 0 100000).bind fun r2 => (bif r2 then ((spec_l1InF n x0.Hops 0 10).bind fun r3 => (bif r3 then ((spec_l1InF n x0.Bridge 1 99).bind fun r4 => (bif r4 then ((spec_l1InF n x0.Port 0 7).bind fun r5 => (some r5)) else (some false))) else (some false))) else (some false))) else (some false)))
noncomputable abbrev G161 (k : Nat) := Rg Tryz.f161 k
theorem spec_VecOk (n : Nat) (x0 : Vec) (r : Bool) (H : spec_VecOkF n x0 = some r) : LCall Tryz.prog 161 [.val true (CV.frzRow (Vec.row x0))] [.val false [.lit (.bool r)]] [] := by
 refine LCall.of_body tOk Tryz.func161 rfl (c := (.seq (G161 0) (.seq (G161 1) .ret))) kr (Nat.le_of_ble_eq_true kr) 0 (rs := [.tmp 2]) rfl [] .nil [(false,[.lit (.bool r)])] [] [] fun cx => ?_
 show Tr _ _ _ ⟨26,0,[sV 0 (Vec.row x0)],[]⟩ _
 unfold spec_VecOkF at H
 refine tG tOk 2 2 2 kr kr ?_
 refine rU tOk 2 kr ?_
 obtain ⟨r1,er1,H⟩ := bind_some H
 refine lV tOk [.rd,.rd,.rd] [] (spec_l1In n x0.Root 1 99 r1 er1) kr kr kr kr (.inl rfl) ?_
 refine lU tOk 1 kr ?_
 refine lT ⟨26,0,[sB 6 r1,sB 5 r1,sI 4 x0.Root,sA 3 1 5 0,sA 1 1 5 0],[(1,(Vec.row x0))]⟩ kr ?_
 cases h1 : r1
 ·have H := bifF h1 H
  refine uD tOk 20 4 0 kr kr ?_
  exact te (by obtain rfl := si H; exact fO [(false,[cB false])] kr rfl rfl)
 have H := bifT h1 H
 refine lU tOk 2 kr ?_
 obtain ⟨r2,er2,H⟩ := bind_some H
 refine lV tOk [.rd,.rd,.rd] [] (spec_l1In n x0.Cost 0 100000 r2 er2) kr kr kr kr (.inl rfl) ?_
 refine lU tOk 2 kr ?_
 refine lT ⟨26,0,[sB 11 r2,sB 10 r2,sB 9 r2,sI 8 x0.Cost,sA 7 1 5 1,sB 6 true,sB 5 true,sI 4 x0.Root,sA 3 1 5 0,sA 1 1 5 0],[(1,(Vec.row x0))]⟩ kr ?_
 cases h2 : r2
 ·have H := bifF h2 H
  refine uD tOk 15 4 0 kr kr ?_
  exact te (by obtain rfl := si H; exact fO [(false,[cB false])] kr rfl rfl)
 have H := bifT h2 H
 refine lU tOk 2 kr ?_
 obtain ⟨r3,er3,H⟩ := bind_some H
 refine lV tOk [.rd,.rd,.rd] [] (spec_l1In n x0.Hops 0 10 r3 er3) kr kr kr kr (.inl rfl) ?_
 refine lU tOk 2 kr ?_
 refine lT ⟨26,0,[sB 16 r3,sB 15 r3,sB 14 r3,sI 13 x0.Hops,sA 12 1 5 2,sB 11 true,sB 10 true,sB 9 true,sI 8 x0.Cost,sA 7 1 5 1,sB 6 true,sB 5 true,sI 4 x0.Root,sA 3 1 5 0,sA 1 1 5 0],[(1,(Vec.row x0))]⟩ kr ?_
 cases h3 : r3
 ·have H := bifF h3 H
  refine uD tOk 10 4 0 kr kr ?_
  exact te (by obtain rfl := si H; exact fO [(false,[cB false])] kr rfl rfl)
 have H := bifT h3 H
 refine lU tOk 2 kr ?_
 obtain ⟨r4,er4,H⟩ := bind_some H
 refine lV tOk [.rd,.rd,.rd] [] (spec_l1In n x0.Bridge 1 99 r4 er4) kr kr kr kr (.inl rfl) ?_
 refine lU tOk 2 kr ?_
 refine lT ⟨26,0,[sB 21 r4,sB 20 r4,sB 19 r4,sI 18 x0.Bridge,sA 17 1 5 3,sB 16 true,sB 15 true,sB 14 true,sI 13 x0.Hops,sA 12 1 5 2,sB 11 true,sB 10 true,sB 9 true,sI 8 x0.Cost,sA 7 1 5 1,sB 6 true,sB 5 true,sI 4 x0.Root,sA 3 1 5 0,sA 1 1 5 0],[(1,(Vec.row x0))]⟩ kr ?_
 cases h4 : r4
 ·have H := bifF h4 H
  refine uD tOk 5 4 0 kr kr ?_
  exact te (by obtain rfl := si H; exact fO [(false,[cB false])] kr rfl rfl)
 have H := bifT h4 H
 refine lU tOk 2 kr ?_
 obtain ⟨r5,er5,H⟩ := bind_some H
 refine lV tOk [.rd,.rd,.rd] [] (spec_l1In n x0.Port 0 7 r5 er5) kr kr kr kr (.inl rfl) ?_
 refine uD tOk 2 4 0 kr kr ?_
 exact te (by obtain rfl := si H; exact fO [(false,[cB r5])] kr rfl rfl)
def spec_PtOkF (n : Nat) (x0 : Pt) : Option (Bool) :=
  ((spec_l1InF n x0.Cost 1 1000).bind fun r1 => (bif (!r1) then (some false) else (bif (!x0.Up) then (bif x0.Has then (some false) else (some ((x0.Heard.Root == 0) && ((x0.Heard.Cost == 0) && ((x0.Heard.Hops == 0) && ((x0.Heard.Bridge == 0) && ((x0.Heard.Port == 0) && true))))))) else (bif (!x0.Has) then (some ((x0.Heard.Root == 0) && ((x0.Heard.Cost == 0) && ((x0.Heard.Hops == 0) && ((x0.Heard.Bridge == 0) && ((x0.Heard.Port == 0) && true)))))) else ((spec_VecOkF n x0.Heard).bind fun r2 => (some r2))))))
noncomputable abbrev G226 (k : Nat) := Rg Tryz.f226 k
theorem spec_PtOk (n : Nat) (x0 : Pt) (r : Bool) (H : spec_PtOkF n x0 = some r) : LCall Tryz.prog 226 [.val true (CV.frzRow (Pt.row x0))] [.val false [.lit (.bool r)]] [] := by
 refine LCall.of_body tOk Tryz.func226 rfl (c := (.seq (G226 0) (.seq (.seq (G226 1) (.cond (.tmp 15) (.seq (G226 2) .ret) .skip)) (.seq (.seq (G226 3) (.cond (.tmp 18) (.seq (G226 4) .ret) .skip)) (.seq (G226 5) .ret))))) kr (Nat.le_of_ble_eq_true kr) 0 (rs := [.tmp 2]) rfl [] .nil [(false,[.lit (.bool r)])] [] [] fun cx => ?_
 show Tr _ _ _ ⟨26,0,[sV 0 (Pt.row x0)],[]⟩ _
 unfold spec_PtOkF at H
 refine tG tOk 2 2 2 kr kr ?_
 refine tS ?_
 refine rU tOk 2 kr ?_
 obtain ⟨r1,er1,H⟩ := bind_some H
 refine lV tOk [.rd,.rd,.rd] [] (spec_l1In n x0.Cost 1 1000 r1 er1) kr kr kr kr (.inl rfl) ?_
 refine lU tOk 2 kr ?_
 refine lT ⟨26,0,[sB 7 (!r1),sB 6 (!r1),sB 5 r1,sI 4 x0.Cost,sA 3 1 8 1,sA 1 1 8 0],[(1,(Pt.row x0))]⟩ kr ?_
 cases h1 : (!r1)
 ·have H := bifF h1 H
  refine lU tOk 4 kr ?_
  refine lT ⟨26,0,[sB 11 (!x0.Up),sB 10 (!x0.Up),sB 9 x0.Up,sA 8 1 8 0,sB 7 false,sB 6 false,sB 5 r1,sI 4 x0.Cost,sA 3 1 8 1,sA 1 1 8 0],[(1,(Pt.row x0))]⟩ kr ?_
  cases h2 : (!x0.Up)
  ·have H := bifF h2 H
   refine uD tOk 4 32770 2 kr kr ?_
   refine tf kr ?_
   refine tK ?_
   refine tS ?_
   refine tG tOk 3 262146 2 kr kr ?_
   obtain ⟨h3,H⟩ | ⟨h3,H⟩ := bC H
   ·refine tF h3 kr ?_
    refine tK ?_
    refine rU tOk 2 kr ?_
    obtain ⟨r2,er2,H⟩ := bind_some H
    refine lV tOk [.rd] [] (spec_VecOk n x0.Heard r2 er2) kr kr kr kr (.inl rfl) ?_
    refine uD tOk 1 4 0 kr kr ?_
    exact te (by obtain rfl := si H; exact fO [(false,[cB r2])] kr rfl rfl)
   refine tT h3 kr ?_
   refine rU tOk 3 kr ?_
   refine LAt.eqSG false (t := 165) (ty := 165) (ty' := 4) (x := (.tmp 20)) (y := (.tmp 21)) (d := 22) (g := none) ((x0.Heard.Root == 0) && ((x0.Heard.Cost == 0) && ((x0.Heard.Hops == 0) && ((x0.Heard.Bridge == 0) && ((x0.Heard.Port == 0) && true))))) _ kr kr kr kr rfl ?_
   refine uD tOk 1 4 0 kr kr ?_
   exact te (by obtain rfl := si H; exact fO [(false,[cB ((x0.Heard.Root == 0) && ((x0.Heard.Cost == 0) && ((x0.Heard.Hops == 0) && ((x0.Heard.Bridge == 0) && ((x0.Heard.Port == 0) && true)))))])] kr rfl rfl)
  have H := bifT h2 H
  refine uD tOk 4 32770 2 kr kr ?_
  refine tO ⟨26,0,[sB 15 x0.Has,sA 1 1 8 0],[(1,(Pt.row x0))]⟩ kr ?_
  cases h4 : x0.Has
  ·have H := bifF h4 H
   refine tf kr ?_
   refine tK ?_
   refine tS ?_
   refine tG tOk 3 262146 2 kr kr ?_
   refine tO ⟨26,0,[sB 18 (!x0.Has),sA 1 1 8 0],[(1,(Pt.row x0))]⟩ kr ?_
   rw [h4]
   refine tt kr ?_
   refine rU tOk 3 kr ?_
   refine LAt.eqSG false (t := 165) (ty := 165) (ty' := 4) (x := (.tmp 20)) (y := (.tmp 21)) (d := 22) (g := none) ((x0.Heard.Root == 0) && ((x0.Heard.Cost == 0) && ((x0.Heard.Hops == 0) && ((x0.Heard.Bridge == 0) && ((x0.Heard.Port == 0) && true))))) _ kr kr kr kr rfl ?_
   refine uD tOk 1 4 0 kr kr ?_
   exact te (by obtain rfl := si H; exact fO [(false,[cB ((x0.Heard.Root == 0) && ((x0.Heard.Cost == 0) && ((x0.Heard.Hops == 0) && ((x0.Heard.Bridge == 0) && ((x0.Heard.Port == 0) && true)))))])] kr rfl rfl)
  have H := bifT h4 H
  refine tt kr ?_
  refine tG tOk 1 4 0 kr kr ?_
  exact te (by obtain rfl := si H; exact fO [(false,[cB false])] kr rfl rfl)
 have H := bifT h1 H
 refine uD tOk 8 32770 2 kr kr ?_
 refine tt kr ?_
 refine tG tOk 1 4 0 kr kr ?_
 exact te (by obtain rfl := si H; exact fO [(false,[cB false])] kr rfl rfl)
def spec_l8EntF (n : Nat) (x0 : Fent) : Option (Bool) :=
  ((spec_l1InF n x0.Tag 1 99).bind fun r1 => (bif r1 then ((spec_l1InF n x0.Mac 1 9999).bind fun r2 => (bif r2 then ((spec_l1InF n x0.Port 0 7).bind fun r3 => (bif r3 then ((spec_l1InF n x0.Age 0 4).bind fun r4 => (bif r4 then (bif (!x0.Static) then (some true) else (some (x0.Age == 0))) else (some false))) else (some false))) else (some false))) else (some false)))
noncomputable abbrev G173 (k : Nat) := Rg Tryz.f173 k
theorem spec_l8Ent (n : Nat) (x0 : Fent) (r : Bool) (H : spec_l8EntF n x0 = some r) : LCall Tryz.prog 173 [.val true (CV.frzRow (Fent.row x0))] [.val false [.lit (.bool r)]] [] := by
 refine LCall.of_body tOk Tryz.func173 rfl (c := (.seq (G173 0) (.seq (G173 1) .ret))) kr (Nat.le_of_ble_eq_true kr) 0 (rs := [.tmp 2]) rfl [] .nil [(false,[.lit (.bool r)])] [] [] fun cx => ?_
 show Tr _ _ _ ⟨31,0,[sV 0 (Fent.row x0)],[]⟩ _
 unfold spec_l8EntF at H
 refine tG tOk 2 2 2 kr kr ?_
 refine rU tOk 2 kr ?_
 obtain ⟨r1,er1,H⟩ := bind_some H
 refine lV tOk [.rd,.rd,.rd] [] (spec_l1In n x0.Tag 1 99 r1 er1) kr kr kr kr (.inl rfl) ?_
 refine lU tOk 1 kr ?_
 refine lT ⟨31,0,[sB 6 r1,sB 5 r1,sI 4 x0.Tag,sA 3 1 5 0,sA 1 1 5 0],[(1,(Fent.row x0))]⟩ kr ?_
 cases h1 : r1
 ·have H := bifF h1 H
  refine uD tOk 25 4 0 kr kr ?_
  exact te (by obtain rfl := si H; exact fO [(false,[cB false])] kr rfl rfl)
 have H := bifT h1 H
 refine lU tOk 2 kr ?_
 obtain ⟨r2,er2,H⟩ := bind_some H
 refine lV tOk [.rd,.rd,.rd] [] (spec_l1In n x0.Mac 1 9999 r2 er2) kr kr kr kr (.inl rfl) ?_
 refine lU tOk 2 kr ?_
 refine lT ⟨31,0,[sB 11 r2,sB 10 r2,sB 9 r2,sI 8 x0.Mac,sA 7 1 5 1,sB 6 true,sB 5 true,sI 4 x0.Tag,sA 3 1 5 0,sA 1 1 5 0],[(1,(Fent.row x0))]⟩ kr ?_
 cases h2 : r2
 ·have H := bifF h2 H
  refine uD tOk 20 4 0 kr kr ?_
  exact te (by obtain rfl := si H; exact fO [(false,[cB false])] kr rfl rfl)
 have H := bifT h2 H
 refine lU tOk 2 kr ?_
 obtain ⟨r3,er3,H⟩ := bind_some H
 refine lV tOk [.rd,.rd,.rd] [] (spec_l1In n x0.Port 0 7 r3 er3) kr kr kr kr (.inl rfl) ?_
 refine lU tOk 2 kr ?_
 refine lT ⟨31,0,[sB 16 r3,sB 15 r3,sB 14 r3,sI 13 x0.Port,sA 12 1 5 2,sB 11 true,sB 10 true,sB 9 true,sI 8 x0.Mac,sA 7 1 5 1,sB 6 true,sB 5 true,sI 4 x0.Tag,sA 3 1 5 0,sA 1 1 5 0],[(1,(Fent.row x0))]⟩ kr ?_
 cases h3 : r3
 ·have H := bifF h3 H
  refine uD tOk 15 4 0 kr kr ?_
  exact te (by obtain rfl := si H; exact fO [(false,[cB false])] kr rfl rfl)
 have H := bifT h3 H
 refine lU tOk 2 kr ?_
 obtain ⟨r4,er4,H⟩ := bind_some H
 refine lV tOk [.rd,.rd,.rd] [] (spec_l1In n x0.Age 0 4 r4 er4) kr kr kr kr (.inl rfl) ?_
 refine lU tOk 2 kr ?_
 refine lT ⟨31,0,[sB 21 r4,sB 20 r4,sB 19 r4,sI 18 x0.Age,sA 17 1 5 3,sB 16 true,sB 15 true,sB 14 true,sI 13 x0.Port,sA 12 1 5 2,sB 11 true,sB 10 true,sB 9 true,sI 8 x0.Mac,sA 7 1 5 1,sB 6 true,sB 5 true,sI 4 x0.Tag,sA 3 1 5 0,sA 1 1 5 0],[(1,(Fent.row x0))]⟩ kr ?_
 cases h4 : r4
 ·have H := bifF h4 H
  refine uD tOk 10 4 0 kr kr ?_
  exact te (by obtain rfl := si H; exact fO [(false,[cB false])] kr rfl rfl)
 have H := bifT h4 H
 refine lU tOk 4 kr ?_
 refine lT ⟨31,0,[sB 25 (!x0.Static),sB 24 (!x0.Static),sB 23 x0.Static,sA 22 1 5 4,sB 21 true,sB 20 true,sB 19 true,sI 18 x0.Age,sA 17 1 5 3,sB 16 true,sB 15 true,sB 14 true,sI 13 x0.Port,sA 12 1 5 2,sB 11 true,sB 10 true,sB 9 true,sI 8 x0.Mac,sA 7 1 5 1,sB 6 true,sB 5 true,sI 4 x0.Tag,sA 3 1 5 0,sA 1 1 5 0],[(1,(Fent.row x0))]⟩ kr ?_
 cases h5 : (!x0.Static)
 ·have H := bifF h5 H
  refine uD tOk 6 4 0 kr kr ?_
  exact te (by obtain rfl := si H; exact fO [(false,[cB (x0.Age == 0)])] kr rfl rfl)
 have H := bifT h5 H
 refine uD tOk 6 4 0 kr kr ?_
 exact te (by obtain rfl := si H; exact fO [(false,[cB true])] kr rfl rfl)
def spec_l8AheadF (n : Nat) (x0 : Fent) (x1 : Int) (x2 : Int) : Option (Bool) :=
  (bif (x0.Tag != x1) then (some (decide (x0.Tag < x1))) else (some (decide (x0.Mac < x2))))
noncomputable abbrev G232 (k : Nat) := Rg Tryz.f232 k
theorem spec_l8Ahead (n : Nat) (x0 : Fent) (x1 : Int) (x2 : Int) (r : Bool) (H : spec_l8AheadF n x0 x1 x2 = some r) : LCall Tryz.prog 232 [.val true (CV.frzRow (Fent.row x0)),.val false [.lit (.int .i64 x1)],.val false [.lit (.int .i64 x2)]] [.val false [.lit (.bool r)]] [] := by
 refine LCall.of_body tOk Tryz.func232 rfl (c := (.seq (G232 0) (.seq (.seq (G232 1) (.cond (.tmp 10) (.seq (G232 2) .ret) .skip)) (.seq (G232 3) .ret)))) kr (Nat.le_of_ble_eq_true kr) 0 (rs := [.tmp 6]) rfl [] .nil [(false,[.lit (.bool r)])] [] [] fun cx => ?_
 show Tr _ _ _ ⟨19,0,[sV 0 (Fent.row x0),sI 1 x1,sI 2 x2],[]⟩ _
 unfold spec_l8AheadF at H
 refine tG tOk 2 14 8 kr kr ?_
 refine tS ?_
 refine tG tOk 4 1038 8 kr kr ?_
 obtain ⟨h1,H⟩ | ⟨h1,H⟩ := bC H
 ·refine tF h1 kr ?_
  refine tK ?_
  refine tG tOk 5 64 0 kr kr ?_
  exact te (by obtain rfl := si H; exact fO [(false,[cB (decide (x0.Mac < x2))])] kr rfl rfl)
 refine tT h1 kr ?_
 refine tG tOk 5 64 0 kr kr ?_
 exact te (by obtain rfl := si H; exact fO [(false,[cB (decide (x0.Tag < x1))])] kr rfl rfl)
def spec_FdbOk_J1 (n : Nat) (x0 : (List Fent)) : Option (Bool) :=
  (some (decide ((x0.length : Int) ≤ 12)))
def spec_FdbOk_L2 (n : Nat) : Nat → (List Fent) → Int → Option ((Unit) ⊕ (Bool))
  | 0,_,_ => none
  | mo2 + 1,x0,y1 => (bif (decide (y1 < (x0.length : Int))) then ((idx x0 y1).bind fun v3 => ((spec_l8EntF n v3).bind fun r4 => (bif (!r4) then (some (Sum.inr false)) else (bif (decide (y1 > 0)) then ((idx x0 (IntKind.wrap .i64 (y1 - 1))).bind fun v5 => ((idx x0 y1).bind fun v6 => ((idx x0 y1).bind fun v7 => ((spec_l8AheadF n v5 v6.Tag v7.Mac).bind fun r8 => (bif (!r8) then (some (Sum.inr false)) else (spec_FdbOk_L2 n mo2 x0 (IntKind.wrap .i64 (y1 + 1)))))))) else (spec_FdbOk_L2 n mo2 x0 (IntKind.wrap .i64 (y1 + 1))))))) else (some (Sum.inl ())))
def spec_FdbOkF (n : Nat) (x0 : (List Fent)) : Option (Bool) :=
  ((spec_FdbOk_L2 n n x0 0).bind fun o => match o with | .inl _ => (spec_FdbOk_J1 n x0) | .inr r => some r)
noncomputable abbrev G172 (k : Nat) := Rg Tryz.f172 k
noncomputable abbrev D172 (k : Nat) := Rd Tryz.f172 k
theorem spec_FdbOk (n : Nat) (x0 : (List Fent)) (r : Bool) (H : spec_FdbOkF n x0 = some r) : LCall Tryz.prog 172 [.val false [.sl false 5 (CV.frzEs (x0.map Fent.row))]] [.val false [.lit (.bool r)]] [] := by
 refine LCall.of_body tOk Tryz.func172 rfl (c := (.seq (G172 0) (.seq (.seq (G172 1) (.block 0 (.loop (.seq (.seq (G172 2) (.cond (.tmp 7) .skip (.exit 0))) (.seq (.block 1 (.seq (D172 4) (.cond (.tmp 38) (.seq (G172 5) .ret) .skip))) (G172 3)))))) (.seq (G172 6) .ret)))) kr (Nat.le_of_ble_eq_true kr) 0 (rs := [.tmp 2]) rfl [] .nil [(false,[.lit (.bool r)])] [] [] fun cx => ?_
 show Tr _ _ _ ⟨42,0,[sC 0 (cF 5 x0 Fent.row)],[]⟩ _
 unfold spec_FdbOkF at H
 refine tG tOk 1 1 0 kr kr ?_
 refine tS ?_
 refine tG tOk 1 9 0 kr kr ?_
 obtain ⟨o2,eo2,Ho2⟩ := bind_some H
 clear H
 refine Tr.mid (ι := Unit) (fun v => ⟨42,0,[sC 0 (cF 5 x0 Fent.row)],[]⟩) (fun v => spec_FdbOk_J1 n x0 = some r) ?_ ?_
 ·refine tB ?_
  refine Tr.loop (ι := Nat × (Int)) (fun v => ⟨42,0,[sI 3 v.2,sC 0 (cF 5 x0 Fent.row)],[]⟩) (fun v => spec_FdbOk_L2 n v.1 x0 v.2 = some o2) (fun v => v.1) (n,0) eo2 (St.sub_of [3,0] [] kr) ?_
  rintro ⟨mo2,y1⟩ H
  have H : spec_FdbOk_L2 n mo2 x0 y1 = some o2 := H
  obtain _ | mo2 := mo2
  ·cases (show (none : Option _) = some o2 from H)
  rw [spec_FdbOk_L2] at H
  refine tS ?_
  refine rU tOk 2 kr ?_
  refine lL tOk 36 3 169 5 6 none ⟨(.slot 5),[],0,false,5,(CV.frzEs (x0.map Fent.row))⟩ (x0).length _ kr kr kr kr kr (frz_len _ _) rfl ?_
  refine uD tOk 1 137 0 kr kr ?_
  obtain ⟨h1,H⟩ | ⟨h1,H⟩ := bC H
  ·refine tF h1 kr ?_
   refine Tr.exit ?_
   refine And.intro (fun _ => ?_) (fun h => absurd rfl h)
   obtain rfl := si H
   have H := Ho2
   dsimp only at H
   exact jn () H (sB_ [0] [] kr)
  refine tT h1 kr ?_
  refine tK ?_
  refine tS ?_
  refine tB ?_
  obtain ⟨v3,ev3,H⟩ := bind_some H
  obtain ⟨r4,er4,H⟩ := bind_some H
  refine tO ⟨42,0,[sB 7 (decide (y1 < (x0.length : Int))),sI 3 y1,sC 0 (cF 5 x0 Fent.row)],[]⟩ kr ?_
  cases h2 : (!r4)
  ·have H := bifF h2 H
   refine tO ⟨42,0,[sB 7 (decide (y1 < (x0.length : Int))),sI 3 y1,sC 0 (cF 5 x0 Fent.row)],[]⟩ kr ?_
   cases h3 : (decide (y1 > 0))
   ·have H := bifF h3 H
    refine Tr.draws mixed 29 kr ⟨42,0,[sB 38 false,sI 3 y1,sC 0 (cF 5 x0 Fent.row)],[]⟩ (fun cx => ?_) ?_
    ·refine aU tOk [(0,[]),(1,[])] 27 [] [1,0] rfl kr (fun cx => ?_)
     refine aI tOk 2 36 0 10 11 12 none ⟨(.slot 10),[],0,false,5,(CV.frzEs (x0.map Fent.row))⟩ y1 (Fent.row v3) _ kr kr kr kr kr kr rfl (idx_isF ev3) rfl (fun cx => ?_)
     refine aU tOk [(3,[])] 25 [] [3,2,1,0] rfl kr (fun cx => ?_)
     refine AT.big1 tOk 4 kr kr ?_
     refine lV tOk [.rd] [] (spec_l8Ent n v3 r4 er4) kr kr kr kr (.inl rfl) ?_
     refine lF kr kr kr ?_
     refine aU tOk [(5,[]),(6,[])] 22 [] [6,5,4,3,2,1,0] rfl kr (fun cx => ?_)
     refine aT ⟨42,0,[sB 16 (!r4),sB 15 (!r4),sB 14 r4,sV 13 (Fent.row v3),(12,.fad ((Fent.row v3))),sI 11 y1,sC 10 (cF 5 x0 Fent.row),sB 7 (decide (y1 < (x0.length : Int))),sI 3 y1,sC 0 (cF 5 x0 Fent.row)],[]⟩ kr ?_
     rw [h2]
     refine aU tOk [(7,[]),(8,[]),(9,[])] 19 [] [9,8,7,6,5,4,3,2,1,0] rfl kr (fun cx => ?_)
     refine aT ⟨42,0,[sB 19 (decide (y1 > 0)),sB 18 (decide (y1 > 0)),sI 17 y1,sB 16 false,sB 15 false,sB 14 r4,sV 13 (Fent.row v3),(12,.fad ((Fent.row v3))),sI 11 y1,sC 10 (cF 5 x0 Fent.row),sB 7 (decide (y1 < (x0.length : Int))),sI 3 y1,sC 0 (cF 5 x0 Fent.row)],[]⟩ kr ?_
     rw [h3]
     refine aU tOk [(10,[]),(11,[]),(12,[]),(13,[]),(14,[]),(15,[]),(16,[]),(17,[]),(18,[]),(19,[]),(20,[]),(21,[]),(22,[]),(23,[]),(24,[]),(25,[]),(26,[]),(27,[]),(28,[])] 0 [] [28,27,26,25,24,23,22,21,20,19,18,17,16,15,14,13,12,11,10,9,8,7,6,5,4,3,2,1,0] rfl kr (fun cx => ?_)
     exact AT.done [38,3,0] [] _ kr kr rfl
    refine tf kr ?_
    refine tK ?_
    refine tE tOk 3 9 0 kr kr ?_
    exact jn (mo2,(IntKind.wrap .i64 (y1 + 1))) H (sM mo2 [3,0] [] kr)
   have H := bifT h3 H
   obtain ⟨v5,ev5,H⟩ := bind_some H
   obtain ⟨v6,ev6,H⟩ := bind_some H
   obtain ⟨v7,ev7,H⟩ := bind_some H
   obtain ⟨r8,er8,H⟩ := bind_some H
   refine Tr.draws mixed 29 kr ⟨42,0,[sB 38 (!r8),sI 3 y1,sC 0 (cF 5 x0 Fent.row)],[]⟩ (fun cx => ?_) ?_
   ·refine aU tOk [(0,[]),(1,[])] 27 [] [1,0] rfl kr (fun cx => ?_)
    refine aI tOk 2 36 0 10 11 12 none ⟨(.slot 10),[],0,false,5,(CV.frzEs (x0.map Fent.row))⟩ y1 (Fent.row v3) _ kr kr kr kr kr kr rfl (idx_isF ev3) rfl (fun cx => ?_)
    refine aU tOk [(3,[])] 25 [] [3,2,1,0] rfl kr (fun cx => ?_)
    refine AT.big1 tOk 4 kr kr ?_
    refine lV tOk [.rd] [] (spec_l8Ent n v3 r4 er4) kr kr kr kr (.inl rfl) ?_
    refine lF kr kr kr ?_
    refine aU tOk [(5,[]),(6,[])] 22 [] [6,5,4,3,2,1,0] rfl kr (fun cx => ?_)
    refine aT ⟨42,0,[sB 16 (!r4),sB 15 (!r4),sB 14 r4,sV 13 (Fent.row v3),(12,.fad ((Fent.row v3))),sI 11 y1,sC 10 (cF 5 x0 Fent.row),sB 7 (decide (y1 < (x0.length : Int))),sI 3 y1,sC 0 (cF 5 x0 Fent.row)],[]⟩ kr ?_
    rw [h2]
    refine aU tOk [(7,[]),(8,[]),(9,[])] 19 [] [9,8,7,6,5,4,3,2,1,0] rfl kr (fun cx => ?_)
    refine aT ⟨42,0,[sB 19 (decide (y1 > 0)),sB 18 (decide (y1 > 0)),sI 17 y1,sB 16 false,sB 15 false,sB 14 r4,sV 13 (Fent.row v3),(12,.fad ((Fent.row v3))),sI 11 y1,sC 10 (cF 5 x0 Fent.row),sB 7 (decide (y1 < (x0.length : Int))),sI 3 y1,sC 0 (cF 5 x0 Fent.row)],[]⟩ kr ?_
    rw [h3]
    refine aU tOk [(10,[]),(11,[]),(12,[])] 16 [] [12,11,10,9,8,7,6,5,4,3,2,1,0] rfl kr (fun cx => ?_)
    refine aI tOk 13 36 0 20 22 23 (some (9,true)) ⟨(.slot 20),[],0,false,5,(CV.frzEs (x0.map Fent.row))⟩ (IntKind.wrap .i64 (y1 - 1)) (Fent.row v5) _ kr kr kr kr kr kr rfl (idx_isF ev5) rfl (fun cx => ?_)
    refine aU tOk [(14,[]),(15,[]),(16,[])] 12 [] [16,15,14,13,12,11,10,9,8,7,6,5,4,3,2,1,0] rfl kr (fun cx => ?_)
    refine aI tOk 17 36 0 25 26 27 (some (9,true)) ⟨(.slot 25),[],0,false,5,(CV.frzEs (x0.map Fent.row))⟩ y1 (Fent.row v6) _ kr kr kr kr kr kr rfl (idx_isF ev6) rfl (fun cx => ?_)
    refine aU tOk [(18,[]),(19,[]),(20,[]),(21,[])] 7 [] [21,20,19,18,17,16,15,14,13,12,11,10,9,8,7,6,5,4,3,2,1,0] rfl kr (fun cx => ?_)
    refine aI tOk 22 36 0 30 31 32 (some (9,true)) ⟨(.slot 30),[],0,false,5,(CV.frzEs (x0.map Fent.row))⟩ y1 (Fent.row v7) _ kr kr kr kr kr kr rfl (idx_isF ev7) rfl (fun cx => ?_)
    refine aU tOk [(23,[]),(24,[])] 4 [] [24,23,22,21,20,19,18,17,16,15,14,13,12,11,10,9,8,7,6,5,4,3,2,1,0] rfl kr (fun cx => ?_)
    refine AT.big1 tOk 25 kr kr ?_
    refine lV tOk [.rd,.rd,.rd] [] (spec_l8Ahead n v5 v6.Tag v7.Mac r8 er8) kr kr kr kr (.inl rfl) ?_
    refine lF kr kr kr ?_
    refine aU tOk [(26,[]),(27,[]),(28,[])] 0 [] [28,27,26,25,24,23,22,21,20,19,18,17,16,15,14,13,12,11,10,9,8,7,6,5,4,3,2,1,0] rfl kr (fun cx => ?_)
    exact AT.done [38,3,0] [] _ kr kr rfl
   refine tO ⟨42,0,[sB 38 (!r8),sI 3 y1,sC 0 (cF 5 x0 Fent.row)],[]⟩ kr ?_
   cases h4 : (!r8)
   ·have H := bifF h4 H
    refine tf kr ?_
    refine tK ?_
    refine tE tOk 3 9 0 kr kr ?_
    exact jn (mo2,(IntKind.wrap .i64 (y1 + 1))) H (sM mo2 [3,0] [] kr)
   have H := bifT h4 H
   refine tt kr ?_
   refine tG tOk 1 4 0 kr kr ?_
   refine te ?_
   obtain rfl := si H
   have H := Ho2
   dsimp only at H
   obtain rfl := si H
   exact fO [(false,[cB false])] kr rfl rfl
  have H := bifT h2 H
  refine Tr.draws mixed 29 kr ⟨42,0,[sB 38 true,sI 3 y1,sC 0 (cF 5 x0 Fent.row)],[]⟩ (fun cx => ?_) ?_
  ·refine aU tOk [(0,[]),(1,[])] 27 [] [1,0] rfl kr (fun cx => ?_)
   refine aI tOk 2 36 0 10 11 12 none ⟨(.slot 10),[],0,false,5,(CV.frzEs (x0.map Fent.row))⟩ y1 (Fent.row v3) _ kr kr kr kr kr kr rfl (idx_isF ev3) rfl (fun cx => ?_)
   refine aU tOk [(3,[])] 25 [] [3,2,1,0] rfl kr (fun cx => ?_)
   refine AT.big1 tOk 4 kr kr ?_
   refine lV tOk [.rd] [] (spec_l8Ent n v3 r4 er4) kr kr kr kr (.inl rfl) ?_
   refine lF kr kr kr ?_
   refine aU tOk [(5,[]),(6,[])] 22 [] [6,5,4,3,2,1,0] rfl kr (fun cx => ?_)
   refine aT ⟨42,0,[sB 16 (!r4),sB 15 (!r4),sB 14 r4,sV 13 (Fent.row v3),(12,.fad ((Fent.row v3))),sI 11 y1,sC 10 (cF 5 x0 Fent.row),sB 7 (decide (y1 < (x0.length : Int))),sI 3 y1,sC 0 (cF 5 x0 Fent.row)],[]⟩ kr ?_
   rw [h2]
   refine aU tOk [(7,[]),(8,[]),(9,[]),(10,[]),(11,[]),(12,[]),(13,[]),(14,[]),(15,[]),(16,[]),(17,[]),(18,[]),(19,[]),(20,[]),(21,[]),(22,[]),(23,[]),(24,[]),(25,[]),(26,[]),(27,[]),(28,[])] 0 [] [28,27,26,25,24,23,22,21,20,19,18,17,16,15,14,13,12,11,10,9,8,7,6,5,4,3,2,1,0] rfl kr (fun cx => ?_)
   exact AT.done [38,3,0] [] _ kr kr rfl
  refine tt kr ?_
  refine tG tOk 1 4 0 kr kr ?_
  refine te ?_
  obtain rfl := si H
  have H := Ho2
  dsimp only at H
  obtain rfl := si H
  exact fO [(false,[cB false])] kr rfl rfl
 rintro _ H
 have H : (spec_FdbOk_J1 n x0) = some r := H
 unfold spec_FdbOk_J1 at H
 refine rU tOk 1 kr ?_
 refine lL tOk 36 3 169 39 40 none ⟨(.slot 39),[],0,false,5,(CV.frzEs (x0.map Fent.row))⟩ (x0).length _ kr kr kr kr kr (frz_len _ _) rfl ?_
 refine uD tOk 2 4 0 kr kr ?_
 exact te (by obtain rfl := si H; exact fO [(false,[cB (decide ((x0.length : Int) ≤ 12))])] kr rfl rfl)
def spec_RowAt_J1 (n : Nat) : Option (Int) :=
  (some (-1))
def spec_RowAt_L2 (n : Nat) : Nat → Vtab → Int → Int → Option ((Unit) ⊕ (Int))
  | 0,_,_,_ => none
  | mo2 + 1,x0,x1,y1 => (bif (decide (y1 < (x0.Rows.length : Int))) then ((idx x0.Rows y1).bind fun v3 => (bif (v3.Id == x1) then (some (Sum.inr y1)) else (spec_RowAt_L2 n mo2 x0 x1 (IntKind.wrap .i64 (y1 + 1))))) else (some (Sum.inl ())))
def spec_RowAtF (n : Nat) (x0 : Vtab) (x1 : Int) : Option (Int) :=
  ((spec_RowAt_L2 n n x0 x1 0).bind fun o => match o with | .inl _ => (spec_RowAt_J1 n) | .inr r => some r)
noncomputable abbrev G170 (k : Nat) := Rg Tryz.f170 k
theorem spec_RowAt (n : Nat) (x0 : Vtab) (x1 : Int) (r : Int) (H : spec_RowAtF n x0 x1 = some r) : LCall Tryz.prog 170 [.val true (CV.frzRow (Vtab.row x0)),.val false [.lit (.int .i64 x1)]] [.val false [.lit (.int .i64 r)]] [] := by
 refine LCall.of_body tOk Tryz.func170 rfl (c := (.seq (G170 0) (.seq (.seq (G170 1) (.block 0 (.loop (.seq (.seq (G170 2) (.cond (.tmp 10) .skip (.exit 0))) (.seq (.block 1 (.seq (G170 4) (.cond (.tmp 20) (.seq (G170 5) .ret) .skip))) (G170 3)))))) (.seq (G170 6) .ret)))) kr (Nat.le_of_ble_eq_true kr) 0 (rs := [.tmp 4]) rfl [] .nil [(false,[.lit (.int .i64 r)])] [] [] fun cx => ?_
 show Tr _ _ _ ⟨22,0,[sV 0 (CV.frzRow (Vtab.row x0)),sI 1 x1],[]⟩ _
 unfold spec_RowAtF at H
 refine tG tOk 2 6 4 kr kr ?_
 refine tS ?_
 refine tG tOk 1 38 4 kr kr ?_
 obtain ⟨o2,eo2,Ho2⟩ := bind_some H
 clear H
 refine Tr.mid (ι := Unit) (fun v => ⟨22,0,[],[]⟩) (fun v => spec_RowAt_J1 n = some r) ?_ ?_
 ·refine tB ?_
  refine Tr.loop (ι := Nat × (Int)) (fun v => ⟨22,0,[sI 5 v.2,sA 2 2 2 0,sI 1 x1],[(2,(CV.frzRow (Vtab.row x0)))]⟩) (fun v => spec_RowAt_L2 n v.1 x0 x1 v.2 = some o2) (fun v => v.1) (n,0) eo2 (St.sub_of [5,2,1] [2] kr) ?_
  rintro ⟨mo2,y1⟩ H
  have H : spec_RowAt_L2 n mo2 x0 x1 y1 = some o2 := H
  obtain _ | mo2 := mo2
  ·cases (show (none : Option _) = some o2 from H)
  rw [spec_RowAt_L2] at H
  refine tS ?_
  refine rU tOk 3 kr ?_
  refine lL tOk 37 3 175 8 9 none ⟨(.slot 8),[],0,false,3,(CV.frzEs (x0.Rows.map Vrow.row))⟩ (x0.Rows).length _ kr kr kr kr kr (frz_len _ _) rfl ?_
  refine uD tOk 1 1062 4 kr kr ?_
  obtain ⟨h1,H⟩ | ⟨h1,H⟩ := bC H
  ·refine tF h1 kr ?_
   refine Tr.exit ?_
   refine And.intro (fun _ => ?_) (fun h => absurd rfl h)
   obtain rfl := si H
   have H := Ho2
   dsimp only at H
   exact jn () H (sB_ [] [] kr)
  refine tT h1 kr ?_
  refine tK ?_
  refine tS ?_
  refine tB ?_
  refine rU tOk 3 kr ?_
  obtain ⟨v3,ev3,H⟩ := bind_some H
  refine lI tOk 37 0 14 15 16 none ⟨(.slot 14),[],0,false,3,(CV.frzEs (x0.Rows.map Vrow.row))⟩ y1 (Vrow.row v3) _ kr kr kr kr rfl (idx_isF ev3) rfl ?_
  refine uD tOk 4 1048614 4 kr kr ?_
  obtain ⟨h2,H⟩ | ⟨h2,H⟩ := bC H
  ·refine tF h2 kr ?_
   refine tK ?_
   refine tE tOk 3 38 4 kr kr ?_
   exact jn (mo2,(IntKind.wrap .i64 (y1 + 1))) H (sM mo2 [5,2,1] [2] kr)
  refine tT h2 kr ?_
  refine tG tOk 2 16 0 kr kr ?_
  refine te ?_
  obtain rfl := si H
  have H := Ho2
  dsimp only at H
  obtain rfl := si H
  exact fO [(false,[cI y1])] kr rfl rfl
 rintro _ H
 have H : (spec_RowAt_J1 n) = some r := H
 unfold spec_RowAt_J1 at H
 refine tG tOk 1 16 0 kr kr ?_
 exact te (by obtain rfl := si H; exact fO [(false,[cI (-1)])] kr rfl rfl)
def spec_VtabOk_J2 (n : Nat) : Option (Bool) :=
  (some true)
def spec_VtabOk_L3 (n : Nat) : Nat → Vtab → Int → Option ((Unit) ⊕ (Bool))
  | 0,_,_ => none
  | mo5 + 1,x0,y4 => (bif (decide (y4 < (x0.Pvid.length : Int))) then ((idx x0.Pvid y4).bind fun v6 => ((spec_RowAtF n x0 v6).bind fun r7 => (bif (decide (r7 < 0)) then (some (Sum.inr false)) else (spec_VtabOk_L3 n mo5 x0 (IntKind.wrap .i64 (y4 + 1)))))) else (some (Sum.inl ())))
def spec_VtabOk_J1 (n : Nat) (x0 : Vtab) : Option (Bool) :=
  ((spec_VtabOk_L3 n n x0 0).bind fun o => match o with | .inl _ => (spec_VtabOk_J2 n) | .inr r => some r)
def spec_VtabOk_L4 (n : Nat) : Nat → Vtab → Int → Int → Option ((Unit) ⊕ (Bool))
  | 0,_,_,_ => none
  | mo8 + 1,x0,x1,y3 => (bif (decide (y3 < (x0.Rows.length : Int))) then ((idx x0.Rows y3).bind fun v9 => ((spec_l1InF n v9.Id 1 99).bind fun r10 => (bif (!r10) then (some (Sum.inr false)) else ((spec_l1InF n v9.Members 0 (IntKind.wrap .i64 ((IntKind.wrap .i64 (1 * 2 ^ min (((IntKind.wrap .u64 x1) : Int)).toNat (IntKind.bits .i64))) - 1))).bind fun r11 => (bif (!r11) then (some (Sum.inr false)) else ((spec_l1InF n v9.Bare 0 (IntKind.wrap .i64 ((IntKind.wrap .i64 (1 * 2 ^ min (((IntKind.wrap .u64 x1) : Int)).toNat (IntKind.bits .i64))) - 1))).bind fun r12 => (bif (!r12) then (some (Sum.inr false)) else (bif ((IntKind.wrap .i64 (BitVec.ofInt (IntKind.bits .i64) v9.Bare &&& BitVec.ofInt (IntKind.bits .i64) v9.Members).toNat) != v9.Bare) then (some (Sum.inr false)) else (bif (decide (y3 > 0)) then ((idx x0.Rows (IntKind.wrap .i64 (y3 - 1))).bind fun v13 => (bif (decide (v13.Id ≥ v9.Id)) then (some (Sum.inr false)) else (spec_VtabOk_L4 n mo8 x0 x1 (IntKind.wrap .i64 (y3 + 1))))) else (spec_VtabOk_L4 n mo8 x0 x1 (IntKind.wrap .i64 (y3 + 1)))))))))))) else (some (Sum.inl ())))
def spec_VtabOkF (n : Nat) (x0 : Vtab) (x1 : Int) : Option (Bool) :=
  ((spec_l1InF n x1 1 6).bind fun r1 => (bif (!r1) then (some false) else (bif ((x0.Pvid.length : Int) != x1) then (some false) else (bif (decide ((x0.Rows.length : Int) > 6)) then (some false) else (bif (decide ((0 : Int) ≤ (IntKind.wrap .u64 x1))) then ((spec_VtabOk_L4 n n x0 x1 0).bind fun o => match o with | .inl _ => (spec_VtabOk_J1 n x0) | .inr r => some r) else none)))))
noncomputable abbrev G227 (k : Nat) := Rg Tryz.f227 k
noncomputable abbrev D227 (k : Nat) := Rd Tryz.f227 k
theorem spec_VtabOk (n : Nat) (x0 : Vtab) (x1 : Int) (r : Bool) (H : spec_VtabOkF n x0 x1 = some r) : LCall Tryz.prog 227 [.val true (CV.frzRow (Vtab.row x0)),.val false [.lit (.int .i64 x1)]] [.val false [.lit (.bool r)]] [] := by
 refine LCall.of_body tOk Tryz.func227 rfl (c := (.seq (G227 0) (.seq (.seq (G227 1) (.cond (.tmp 24) (.seq (G227 2) .ret) .skip)) (.seq (G227 3) (.seq (.seq (G227 4) (.block 0 (.loop (.seq (.seq (G227 5) (.cond (.tmp 33) .skip (.exit 0))) (.seq (.block 1 (.seq (G227 7) (.seq (D227 8) (.cond (.tmp 84) (.seq (G227 9) .ret) .skip)))) (G227 6)))))) (.seq (.seq (G227 10) (.block 2 (.loop (.seq (.seq (G227 11) (.cond (.tmp 89) .skip (.exit 2))) (.seq (.block 3 (.seq (D227 13) (.cond (.tmp 99) (.seq (G227 14) .ret) .skip))) (G227 12)))))) (.seq (G227 15) .ret))))))) kr (Nat.le_of_ble_eq_true kr) 0 (rs := [.tmp 4]) rfl [] .nil [(false,[.lit (.bool r)])] [] [] fun cx => ?_
 show Tr _ _ _ ⟨100,0,[sV 0 (CV.frzRow (Vtab.row x0)),sI 1 x1],[]⟩ _
 unfold spec_VtabOkF at H
 refine tG tOk 2 6 4 kr kr ?_
 refine tS ?_
 refine rU tOk 1 kr ?_
 obtain ⟨r1,er1,H⟩ := bind_some H
 refine lV tOk [.rd,.rd,.rd] [] (spec_l1In n x1 1 6 r1 er1) kr kr kr kr (.inl rfl) ?_
 refine lU tOk 2 kr ?_
 refine lT ⟨100,0,[sB 12 (!r1),sB 11 (!r1),sB 10 r1,sI 9 x1,sA 2 2 2 0,sI 1 x1],[(2,(CV.frzRow (Vtab.row x0)))]⟩ kr ?_
 cases h1 : (!r1)
 ·have H := bifF h1 H
  refine lU tOk 2 kr ?_
  refine lL tOk 25 3 3 14 15 (some (3,false)) ⟨(.slot 14),[],0,false,1,(CV.frzEs (x0.Pvid.map intRow))⟩ (x0.Pvid).length _ kr kr kr kr kr (frz_len _ _) rfl ?_
  refine lU tOk 4 kr ?_
  refine lT ⟨100,0,[sB 19 ((x0.Pvid.length : Int) != x1),sB 18 ((x0.Pvid.length : Int) != x1),sB 17 ((x0.Pvid.length : Int) != x1),sI 16 x1,sI 15 (x0.Pvid.length : Int),sC 14 (cF 1 x0.Pvid intRow),sA 13 2 2 1,sB 12 false,sB 11 false,sB 10 r1,sI 9 x1,sA 2 2 2 0,sI 1 x1],[(2,(CV.frzRow (Vtab.row x0)))]⟩ kr ?_
  cases h2 : ((x0.Pvid.length : Int) != x1)
  ·have H := bifF h2 H
   refine lU tOk 2 kr ?_
   refine lL tOk 37 3 175 21 22 (some (10,false)) ⟨(.slot 21),[],0,false,3,(CV.frzEs (x0.Rows.map Vrow.row))⟩ (x0.Rows).length _ kr kr kr kr kr (frz_len _ _) rfl ?_
   refine uD tOk 2 16777222 4 kr kr ?_
   obtain ⟨h3,H⟩ | ⟨h3,H⟩ := bC H
   ·refine tF h3 kr ?_
    refine tK ?_
    refine rU tOk 2 kr ?_
    obtain ⟨hg2,H⟩ := guard_some H
    refine LAt.binC tOk (op := .shl) (t := 3) (ty := 124) (ty' := 3) (x := (.const (.int .i64 1))) (y := (.tmp 26)) (d := 27) (g := none) (.int .i64 1) (.int .u64 (IntKind.wrap .u64 x1)) (.int .i64 (IntKind.wrap .i64 (1 * 2 ^ min (((IntKind.wrap .u64 x1) : Int)).toNat (IntKind.bits .i64)))) _ kr kr kr kr kr (φ := (0 : Int) ≤ (IntKind.wrap .u64 x1)) kr (of_decide_eq_true hg2) rfl ?_
    refine uD tOk 2 36 4 kr kr ?_
    refine tS ?_
    refine tG tOk 1 100 4 kr kr ?_
    obtain ⟨o8,eo8,Ho8⟩ := bind_some H
    clear H
    refine Tr.mid (ι := Unit) (fun v => ⟨100,0,[sA 2 2 2 0],[(2,(CV.frzRow (Vtab.row x0)))]⟩) (fun v => spec_VtabOk_J1 n x0 = some r) ?_ ?_
    ·refine tB ?_
     refine Tr.loop (ι := Nat × (Int)) (fun v => ⟨100,0,[sI 6 v.2,sI 5 (IntKind.wrap .i64 ((IntKind.wrap .i64 (1 * 2 ^ min (((IntKind.wrap .u64 x1) : Int)).toNat (IntKind.bits .i64))) - 1)),sA 2 2 2 0],[(2,(CV.frzRow (Vtab.row x0)))]⟩) (fun v => spec_VtabOk_L4 n v.1 x0 x1 v.2 = some o8) (fun v => v.1) (n,0) eo8 (St.sub_of [6,5,2] [2] kr) ?_
     rintro ⟨mo8,y3⟩ H
     have H : spec_VtabOk_L4 n mo8 x0 x1 y3 = some o8 := H
     obtain _ | mo8 := mo8
     ·cases (show (none : Option _) = some o8 from H)
     rw [spec_VtabOk_L4] at H
     refine tS ?_
     refine rU tOk 3 kr ?_
     refine lL tOk 37 3 175 31 32 none ⟨(.slot 31),[],0,false,3,(CV.frzEs (x0.Rows.map Vrow.row))⟩ (x0.Rows).length _ kr kr kr kr kr (frz_len _ _) rfl ?_
     refine uD tOk 1 8589934692 4 kr kr ?_
     obtain ⟨h6,H⟩ | ⟨h6,H⟩ := bC H
     ·refine tF h6 kr ?_
      refine Tr.exit ?_
      refine And.intro (fun _ => ?_) (fun h => absurd rfl h)
      obtain rfl := si H
      have H := Ho8
      dsimp only at H
      exact jn () H (sB_ [2] [2] kr)
     refine tT h6 kr ?_
     refine tK ?_
     refine tS ?_
     refine tB ?_
     refine rU tOk 3 kr ?_
     obtain ⟨v9,ev9,H⟩ := bind_some H
     refine lI tOk 37 0 37 38 39 none ⟨(.slot 37),[],0,false,3,(CV.frzEs (x0.Rows.map Vrow.row))⟩ y3 (Vrow.row v9) _ kr kr kr kr rfl (idx_isF ev9) rfl ?_
     refine uD tOk 3 228 132 kr kr ?_
     obtain ⟨r10,er10,H⟩ := bind_some H
     refine tO ⟨100,0,[sA 7 7 3 0,sI 6 y3,sI 5 (IntKind.wrap .i64 ((IntKind.wrap .i64 (1 * 2 ^ min (((IntKind.wrap .u64 x1) : Int)).toNat (IntKind.bits .i64))) - 1)),sA 2 2 2 0],[(7,(Vrow.row v9)),(2,(CV.frzRow (Vtab.row x0)))]⟩ kr ?_
     cases h7 : (!r10)
     ·have H := bifF h7 H
      obtain ⟨r11,er11,H⟩ := bind_some H
      refine tO ⟨100,0,[sA 7 7 3 0,sI 6 y3,sI 5 (IntKind.wrap .i64 ((IntKind.wrap .i64 (1 * 2 ^ min (((IntKind.wrap .u64 x1) : Int)).toNat (IntKind.bits .i64))) - 1)),sA 2 2 2 0],[(7,(Vrow.row v9)),(2,(CV.frzRow (Vtab.row x0)))]⟩ kr ?_
      cases h8 : (!r11)
      ·have H := bifF h8 H
       obtain ⟨r12,er12,H⟩ := bind_some H
       refine tO ⟨100,0,[sA 7 7 3 0,sI 6 y3,sI 5 (IntKind.wrap .i64 ((IntKind.wrap .i64 (1 * 2 ^ min (((IntKind.wrap .u64 x1) : Int)).toNat (IntKind.bits .i64))) - 1)),sA 2 2 2 0],[(7,(Vrow.row v9)),(2,(CV.frzRow (Vtab.row x0)))]⟩ kr ?_
       cases h9 : (!r12)
       ·have H := bifF h9 H
        refine tO ⟨100,0,[sA 7 7 3 0,sI 6 y3,sI 5 (IntKind.wrap .i64 ((IntKind.wrap .i64 (1 * 2 ^ min (((IntKind.wrap .u64 x1) : Int)).toNat (IntKind.bits .i64))) - 1)),sA 2 2 2 0],[(7,(Vrow.row v9)),(2,(CV.frzRow (Vtab.row x0)))]⟩ kr ?_
        cases h10 : ((IntKind.wrap .i64 (BitVec.ofInt (IntKind.bits .i64) v9.Bare &&& BitVec.ofInt (IntKind.bits .i64) v9.Members).toNat) != v9.Bare)
        ·have H := bifF h10 H
         refine tO ⟨100,0,[sA 7 7 3 0,sI 6 y3,sI 5 (IntKind.wrap .i64 ((IntKind.wrap .i64 (1 * 2 ^ min (((IntKind.wrap .u64 x1) : Int)).toNat (IntKind.bits .i64))) - 1)),sA 2 2 2 0],[(7,(Vrow.row v9)),(2,(CV.frzRow (Vtab.row x0)))]⟩ kr ?_
         cases h11 : (decide (y3 > 0))
         ·have H := bifF h11 H
          refine Tr.draws mixed 44 kr ⟨100,0,[sB 84 false,sI 6 y3,sI 5 (IntKind.wrap .i64 ((IntKind.wrap .i64 (1 * 2 ^ min (((IntKind.wrap .u64 x1) : Int)).toNat (IntKind.bits .i64))) - 1)),sA 2 2 2 0],[(2,(CV.frzRow (Vtab.row x0)))]⟩ (fun cx => ?_) ?_
          ·refine aU tOk [(0,[]),(1,[2,8,15])] 42 [⟨[2,8,15],3,41,42⟩] [1,0] rfl kr (fun cx => ?_)
           refine AT.big1 tOk 2 kr kr ?_
           refine lV tOk [.rd,.rd,.rd] [] (spec_l1In n v9.Id 1 99 r10 er10) kr kr kr kr (.inl rfl) ?_
           refine lF kr kr kr ?_
           refine aU tOk [(3,[]),(4,[])] 39 [⟨[2,8,15],3,41,42⟩] [4,3,2,1,0] rfl kr (fun cx => ?_)
           refine aT ⟨100,0,[sB 45 (!r10),sB 44 (!r10),sB 43 r10,sI 42 v9.Id,sA 41 7 3 0,sA 7 7 3 0,sI 6 y3,sI 5 (IntKind.wrap .i64 ((IntKind.wrap .i64 (1 * 2 ^ min (((IntKind.wrap .u64 x1) : Int)).toNat (IntKind.bits .i64))) - 1)),sA 2 2 2 0],[(7,(Vrow.row v9)),(2,(CV.frzRow (Vtab.row x0)))]⟩ kr ?_
           rw [h7]
           refine aU tOk [(5,[]),(6,[8,15]),(7,[])] 36 [⟨[8,15],3,46,47⟩,⟨[2,8,15],3,41,42⟩] [7,6,5,4,3,2,1,0] rfl kr (fun cx => ?_)
           refine AT.big1 tOk 8 kr kr ?_
           refine lV tOk [.rd,.rd,.rd] [] (spec_l1In n v9.Members 0 (IntKind.wrap .i64 ((IntKind.wrap .i64 (1 * 2 ^ min (((IntKind.wrap .u64 x1) : Int)).toNat (IntKind.bits .i64))) - 1)) r11 er11) kr kr kr kr (.inl rfl) ?_
           refine lF kr kr kr ?_
           refine aU tOk [(9,[]),(10,[]),(11,[])] 32 [⟨[8,15],3,46,47⟩,⟨[2,8,15],3,41,42⟩] [11,10,9,8,7,6,5,4,3,2,1,0] rfl kr (fun cx => ?_)
           refine aT ⟨100,0,[sB 52 (!r11),sB 51 (!r11),sB 50 (!r11),sB 49 r11,sI 48 (IntKind.wrap .i64 ((IntKind.wrap .i64 (1 * 2 ^ min (((IntKind.wrap .u64 x1) : Int)).toNat (IntKind.bits .i64))) - 1)),sI 47 v9.Members,sA 46 7 3 1,sB 45 false,sB 44 false,sB 43 r10,sI 42 v9.Id,sA 41 7 3 0,sA 7 7 3 0,sI 6 y3,sI 5 (IntKind.wrap .i64 ((IntKind.wrap .i64 (1 * 2 ^ min (((IntKind.wrap .u64 x1) : Int)).toNat (IntKind.bits .i64))) - 1)),sA 2 2 2 0],[(7,(Vrow.row v9)),(2,(CV.frzRow (Vtab.row x0)))]⟩ kr ?_
           rw [h8]
           refine aU tOk [(12,[]),(13,[15]),(14,[])] 29 [⟨[15],3,53,54⟩,⟨[8,15],3,46,47⟩,⟨[2,8,15],3,41,42⟩] [14,13,12,11,10,9,8,7,6,5,4,3,2,1,0] rfl kr (fun cx => ?_)
           refine AT.big1 tOk 15 kr kr ?_
           refine lV tOk [.rd,.rd,.rd] [] (spec_l1In n v9.Bare 0 (IntKind.wrap .i64 ((IntKind.wrap .i64 (1 * 2 ^ min (((IntKind.wrap .u64 x1) : Int)).toNat (IntKind.bits .i64))) - 1)) r12 er12) kr kr kr kr (.inl rfl) ?_
           refine lF kr kr kr ?_
           refine aU tOk [(16,[]),(17,[]),(18,[])] 25 [⟨[15],3,53,54⟩,⟨[8,15],3,46,47⟩,⟨[2,8,15],3,41,42⟩] [18,17,16,15,14,13,12,11,10,9,8,7,6,5,4,3,2,1,0] rfl kr (fun cx => ?_)
           refine aT ⟨100,0,[sB 59 (!r12),sB 58 (!r12),sB 57 (!r12),sB 56 r12,sI 55 (IntKind.wrap .i64 ((IntKind.wrap .i64 (1 * 2 ^ min (((IntKind.wrap .u64 x1) : Int)).toNat (IntKind.bits .i64))) - 1)),sI 54 v9.Bare,sA 53 7 3 2,sB 52 false,sB 51 false,sB 50 false,sB 49 r11,sI 48 (IntKind.wrap .i64 ((IntKind.wrap .i64 (1 * 2 ^ min (((IntKind.wrap .u64 x1) : Int)).toNat (IntKind.bits .i64))) - 1)),sI 47 v9.Members,sA 46 7 3 1,sB 45 false,sB 44 false,sB 43 r10,sI 42 v9.Id,sA 41 7 3 0,sA 7 7 3 0,sI 6 y3,sI 5 (IntKind.wrap .i64 ((IntKind.wrap .i64 (1 * 2 ^ min (((IntKind.wrap .u64 x1) : Int)).toNat (IntKind.bits .i64))) - 1)),sA 2 2 2 0],[(7,(Vrow.row v9)),(2,(CV.frzRow (Vtab.row x0)))]⟩ kr ?_
           rw [h9]
           refine aU tOk [(19,[]),(20,[]),(21,[]),(22,[]),(23,[]),(24,[]),(25,[]),(26,[]),(27,[]),(28,[])] 15 [⟨[],3,65,66⟩,⟨[],3,62,63⟩,⟨[],3,60,61⟩,⟨[15],3,53,54⟩,⟨[8,15],3,46,47⟩,⟨[2,8,15],3,41,42⟩] [28,27,26,25,24,23,22,21,20,19,18,17,16,15,14,13,12,11,10,9,8,7,6,5,4,3,2,1,0] rfl kr (fun cx => ?_)
           refine aT ⟨100,0,[sB 69 ((IntKind.wrap .i64 (BitVec.ofInt (IntKind.bits .i64) v9.Bare &&& BitVec.ofInt (IntKind.bits .i64) v9.Members).toNat) != v9.Bare),sB 68 ((IntKind.wrap .i64 (BitVec.ofInt (IntKind.bits .i64) v9.Bare &&& BitVec.ofInt (IntKind.bits .i64) v9.Members).toNat) != v9.Bare),sB 67 ((IntKind.wrap .i64 (BitVec.ofInt (IntKind.bits .i64) v9.Bare &&& BitVec.ofInt (IntKind.bits .i64) v9.Members).toNat) != v9.Bare),sI 66 v9.Bare,sA 65 7 3 2,sI 64 (IntKind.wrap .i64 (BitVec.ofInt (IntKind.bits .i64) v9.Bare &&& BitVec.ofInt (IntKind.bits .i64) v9.Members).toNat),sI 63 v9.Members,sA 62 7 3 1,sI 61 v9.Bare,sA 60 7 3 2,sB 59 false,sB 58 false,sB 57 false,sB 56 r12,sI 55 (IntKind.wrap .i64 ((IntKind.wrap .i64 (1 * 2 ^ min (((IntKind.wrap .u64 x1) : Int)).toNat (IntKind.bits .i64))) - 1)),sI 54 v9.Bare,sA 53 7 3 2,sB 52 false,sB 51 false,sB 50 false,sB 49 r11,sI 48 (IntKind.wrap .i64 ((IntKind.wrap .i64 (1 * 2 ^ min (((IntKind.wrap .u64 x1) : Int)).toNat (IntKind.bits .i64))) - 1)),sI 47 v9.Members,sA 46 7 3 1,sB 45 false,sB 44 false,sB 43 r10,sI 42 v9.Id,sA 41 7 3 0,sA 7 7 3 0,sI 6 y3,sI 5 (IntKind.wrap .i64 ((IntKind.wrap .i64 (1 * 2 ^ min (((IntKind.wrap .u64 x1) : Int)).toNat (IntKind.bits .i64))) - 1)),sA 2 2 2 0],[(7,(Vrow.row v9)),(2,(CV.frzRow (Vtab.row x0)))]⟩ kr ?_
           rw [h10]
           refine aU tOk [(29,[]),(30,[]),(31,[])] 12 [⟨[],3,65,66⟩,⟨[],3,62,63⟩,⟨[],3,60,61⟩,⟨[15],3,53,54⟩,⟨[8,15],3,46,47⟩,⟨[2,8,15],3,41,42⟩] [31,30,29,28,27,26,25,24,23,22,21,20,19,18,17,16,15,14,13,12,11,10,9,8,7,6,5,4,3,2,1,0] rfl kr (fun cx => ?_)
           refine aT ⟨100,0,[sB 72 (decide (y3 > 0)),sB 71 (decide (y3 > 0)),sI 70 y3,sB 69 false,sB 68 false,sB 67 false,sI 66 v9.Bare,sA 65 7 3 2,sI 64 (IntKind.wrap .i64 (BitVec.ofInt (IntKind.bits .i64) v9.Bare &&& BitVec.ofInt (IntKind.bits .i64) v9.Members).toNat),sI 63 v9.Members,sA 62 7 3 1,sI 61 v9.Bare,sA 60 7 3 2,sB 59 false,sB 58 false,sB 57 false,sB 56 r12,sI 55 (IntKind.wrap .i64 ((IntKind.wrap .i64 (1 * 2 ^ min (((IntKind.wrap .u64 x1) : Int)).toNat (IntKind.bits .i64))) - 1)),sI 54 v9.Bare,sA 53 7 3 2,sB 52 false,sB 51 false,sB 50 false,sB 49 r11,sI 48 (IntKind.wrap .i64 ((IntKind.wrap .i64 (1 * 2 ^ min (((IntKind.wrap .u64 x1) : Int)).toNat (IntKind.bits .i64))) - 1)),sI 47 v9.Members,sA 46 7 3 1,sB 45 false,sB 44 false,sB 43 r10,sI 42 v9.Id,sA 41 7 3 0,sA 7 7 3 0,sI 6 y3,sI 5 (IntKind.wrap .i64 ((IntKind.wrap .i64 (1 * 2 ^ min (((IntKind.wrap .u64 x1) : Int)).toNat (IntKind.bits .i64))) - 1)),sA 2 2 2 0],[(7,(Vrow.row v9)),(2,(CV.frzRow (Vtab.row x0)))]⟩ kr ?_
           rw [h11]
           refine aU tOk [(32,[]),(33,[]),(34,[]),(35,[]),(36,[]),(37,[]),(38,[]),(39,[]),(40,[]),(41,[]),(42,[]),(43,[])] 0 [⟨[],3,65,66⟩,⟨[],3,62,63⟩,⟨[],3,60,61⟩,⟨[15],3,53,54⟩,⟨[8,15],3,46,47⟩,⟨[2,8,15],3,41,42⟩] [43,42,41,40,39,38,37,36,35,34,33,32,31,30,29,28,27,26,25,24,23,22,21,20,19,18,17,16,15,14,13,12,11,10,9,8,7,6,5,4,3,2,1,0] rfl kr (fun cx => ?_)
           exact AT.done [84,6,5,2] [2] _ kr kr rfl
          refine tf kr ?_
          refine tK ?_
          refine tE tOk 3 100 4 kr kr ?_
          exact jn (mo8,(IntKind.wrap .i64 (y3 + 1))) H (sM mo8 [6,5,2] [2] kr)
         have H := bifT h11 H
         obtain ⟨v13,ev13,H⟩ := bind_some H
         refine Tr.draws mixed 44 kr ⟨100,0,[sB 84 (decide (v13.Id ≥ v9.Id)),sI 6 y3,sI 5 (IntKind.wrap .i64 ((IntKind.wrap .i64 (1 * 2 ^ min (((IntKind.wrap .u64 x1) : Int)).toNat (IntKind.bits .i64))) - 1)),sA 2 2 2 0],[(2,(CV.frzRow (Vtab.row x0)))]⟩ (fun cx => ?_) ?_
         ·refine aU tOk [(0,[]),(1,[2,8,15])] 42 [⟨[2,8,15],3,41,42⟩] [1,0] rfl kr (fun cx => ?_)
          refine AT.big1 tOk 2 kr kr ?_
          refine lV tOk [.rd,.rd,.rd] [] (spec_l1In n v9.Id 1 99 r10 er10) kr kr kr kr (.inl rfl) ?_
          refine lF kr kr kr ?_
          refine aU tOk [(3,[]),(4,[])] 39 [⟨[2,8,15],3,41,42⟩] [4,3,2,1,0] rfl kr (fun cx => ?_)
          refine aT ⟨100,0,[sB 45 (!r10),sB 44 (!r10),sB 43 r10,sI 42 v9.Id,sA 41 7 3 0,sA 7 7 3 0,sI 6 y3,sI 5 (IntKind.wrap .i64 ((IntKind.wrap .i64 (1 * 2 ^ min (((IntKind.wrap .u64 x1) : Int)).toNat (IntKind.bits .i64))) - 1)),sA 2 2 2 0],[(7,(Vrow.row v9)),(2,(CV.frzRow (Vtab.row x0)))]⟩ kr ?_
          rw [h7]
          refine aU tOk [(5,[]),(6,[8,15]),(7,[])] 36 [⟨[8,15],3,46,47⟩,⟨[2,8,15],3,41,42⟩] [7,6,5,4,3,2,1,0] rfl kr (fun cx => ?_)
          refine AT.big1 tOk 8 kr kr ?_
          refine lV tOk [.rd,.rd,.rd] [] (spec_l1In n v9.Members 0 (IntKind.wrap .i64 ((IntKind.wrap .i64 (1 * 2 ^ min (((IntKind.wrap .u64 x1) : Int)).toNat (IntKind.bits .i64))) - 1)) r11 er11) kr kr kr kr (.inl rfl) ?_
          refine lF kr kr kr ?_
          refine aU tOk [(9,[]),(10,[]),(11,[])] 32 [⟨[8,15],3,46,47⟩,⟨[2,8,15],3,41,42⟩] [11,10,9,8,7,6,5,4,3,2,1,0] rfl kr (fun cx => ?_)
          refine aT ⟨100,0,[sB 52 (!r11),sB 51 (!r11),sB 50 (!r11),sB 49 r11,sI 48 (IntKind.wrap .i64 ((IntKind.wrap .i64 (1 * 2 ^ min (((IntKind.wrap .u64 x1) : Int)).toNat (IntKind.bits .i64))) - 1)),sI 47 v9.Members,sA 46 7 3 1,sB 45 false,sB 44 false,sB 43 r10,sI 42 v9.Id,sA 41 7 3 0,sA 7 7 3 0,sI 6 y3,sI 5 (IntKind.wrap .i64 ((IntKind.wrap .i64 (1 * 2 ^ min (((IntKind.wrap .u64 x1) : Int)).toNat (IntKind.bits .i64))) - 1)),sA 2 2 2 0],[(7,(Vrow.row v9)),(2,(CV.frzRow (Vtab.row x0)))]⟩ kr ?_
          rw [h8]
          refine aU tOk [(12,[]),(13,[15]),(14,[])] 29 [⟨[15],3,53,54⟩,⟨[8,15],3,46,47⟩,⟨[2,8,15],3,41,42⟩] [14,13,12,11,10,9,8,7,6,5,4,3,2,1,0] rfl kr (fun cx => ?_)
          refine AT.big1 tOk 15 kr kr ?_
          refine lV tOk [.rd,.rd,.rd] [] (spec_l1In n v9.Bare 0 (IntKind.wrap .i64 ((IntKind.wrap .i64 (1 * 2 ^ min (((IntKind.wrap .u64 x1) : Int)).toNat (IntKind.bits .i64))) - 1)) r12 er12) kr kr kr kr (.inl rfl) ?_
          refine lF kr kr kr ?_
          refine aU tOk [(16,[]),(17,[]),(18,[])] 25 [⟨[15],3,53,54⟩,⟨[8,15],3,46,47⟩,⟨[2,8,15],3,41,42⟩] [18,17,16,15,14,13,12,11,10,9,8,7,6,5,4,3,2,1,0] rfl kr (fun cx => ?_)
          refine aT ⟨100,0,[sB 59 (!r12),sB 58 (!r12),sB 57 (!r12),sB 56 r12,sI 55 (IntKind.wrap .i64 ((IntKind.wrap .i64 (1 * 2 ^ min (((IntKind.wrap .u64 x1) : Int)).toNat (IntKind.bits .i64))) - 1)),sI 54 v9.Bare,sA 53 7 3 2,sB 52 false,sB 51 false,sB 50 false,sB 49 r11,sI 48 (IntKind.wrap .i64 ((IntKind.wrap .i64 (1 * 2 ^ min (((IntKind.wrap .u64 x1) : Int)).toNat (IntKind.bits .i64))) - 1)),sI 47 v9.Members,sA 46 7 3 1,sB 45 false,sB 44 false,sB 43 r10,sI 42 v9.Id,sA 41 7 3 0,sA 7 7 3 0,sI 6 y3,sI 5 (IntKind.wrap .i64 ((IntKind.wrap .i64 (1 * 2 ^ min (((IntKind.wrap .u64 x1) : Int)).toNat (IntKind.bits .i64))) - 1)),sA 2 2 2 0],[(7,(Vrow.row v9)),(2,(CV.frzRow (Vtab.row x0)))]⟩ kr ?_
          rw [h9]
          refine aU tOk [(19,[]),(20,[]),(21,[]),(22,[]),(23,[]),(24,[]),(25,[]),(26,[]),(27,[]),(28,[])] 15 [⟨[],3,65,66⟩,⟨[],3,62,63⟩,⟨[],3,60,61⟩,⟨[15],3,53,54⟩,⟨[8,15],3,46,47⟩,⟨[2,8,15],3,41,42⟩] [28,27,26,25,24,23,22,21,20,19,18,17,16,15,14,13,12,11,10,9,8,7,6,5,4,3,2,1,0] rfl kr (fun cx => ?_)
          refine aT ⟨100,0,[sB 69 ((IntKind.wrap .i64 (BitVec.ofInt (IntKind.bits .i64) v9.Bare &&& BitVec.ofInt (IntKind.bits .i64) v9.Members).toNat) != v9.Bare),sB 68 ((IntKind.wrap .i64 (BitVec.ofInt (IntKind.bits .i64) v9.Bare &&& BitVec.ofInt (IntKind.bits .i64) v9.Members).toNat) != v9.Bare),sB 67 ((IntKind.wrap .i64 (BitVec.ofInt (IntKind.bits .i64) v9.Bare &&& BitVec.ofInt (IntKind.bits .i64) v9.Members).toNat) != v9.Bare),sI 66 v9.Bare,sA 65 7 3 2,sI 64 (IntKind.wrap .i64 (BitVec.ofInt (IntKind.bits .i64) v9.Bare &&& BitVec.ofInt (IntKind.bits .i64) v9.Members).toNat),sI 63 v9.Members,sA 62 7 3 1,sI 61 v9.Bare,sA 60 7 3 2,sB 59 false,sB 58 false,sB 57 false,sB 56 r12,sI 55 (IntKind.wrap .i64 ((IntKind.wrap .i64 (1 * 2 ^ min (((IntKind.wrap .u64 x1) : Int)).toNat (IntKind.bits .i64))) - 1)),sI 54 v9.Bare,sA 53 7 3 2,sB 52 false,sB 51 false,sB 50 false,sB 49 r11,sI 48 (IntKind.wrap .i64 ((IntKind.wrap .i64 (1 * 2 ^ min (((IntKind.wrap .u64 x1) : Int)).toNat (IntKind.bits .i64))) - 1)),sI 47 v9.Members,sA 46 7 3 1,sB 45 false,sB 44 false,sB 43 r10,sI 42 v9.Id,sA 41 7 3 0,sA 7 7 3 0,sI 6 y3,sI 5 (IntKind.wrap .i64 ((IntKind.wrap .i64 (1 * 2 ^ min (((IntKind.wrap .u64 x1) : Int)).toNat (IntKind.bits .i64))) - 1)),sA 2 2 2 0],[(7,(Vrow.row v9)),(2,(CV.frzRow (Vtab.row x0)))]⟩ kr ?_
          rw [h10]
          refine aU tOk [(29,[]),(30,[]),(31,[])] 12 [⟨[],3,65,66⟩,⟨[],3,62,63⟩,⟨[],3,60,61⟩,⟨[15],3,53,54⟩,⟨[8,15],3,46,47⟩,⟨[2,8,15],3,41,42⟩] [31,30,29,28,27,26,25,24,23,22,21,20,19,18,17,16,15,14,13,12,11,10,9,8,7,6,5,4,3,2,1,0] rfl kr (fun cx => ?_)
          refine aT ⟨100,0,[sB 72 (decide (y3 > 0)),sB 71 (decide (y3 > 0)),sI 70 y3,sB 69 false,sB 68 false,sB 67 false,sI 66 v9.Bare,sA 65 7 3 2,sI 64 (IntKind.wrap .i64 (BitVec.ofInt (IntKind.bits .i64) v9.Bare &&& BitVec.ofInt (IntKind.bits .i64) v9.Members).toNat),sI 63 v9.Members,sA 62 7 3 1,sI 61 v9.Bare,sA 60 7 3 2,sB 59 false,sB 58 false,sB 57 false,sB 56 r12,sI 55 (IntKind.wrap .i64 ((IntKind.wrap .i64 (1 * 2 ^ min (((IntKind.wrap .u64 x1) : Int)).toNat (IntKind.bits .i64))) - 1)),sI 54 v9.Bare,sA 53 7 3 2,sB 52 false,sB 51 false,sB 50 false,sB 49 r11,sI 48 (IntKind.wrap .i64 ((IntKind.wrap .i64 (1 * 2 ^ min (((IntKind.wrap .u64 x1) : Int)).toNat (IntKind.bits .i64))) - 1)),sI 47 v9.Members,sA 46 7 3 1,sB 45 false,sB 44 false,sB 43 r10,sI 42 v9.Id,sA 41 7 3 0,sA 7 7 3 0,sI 6 y3,sI 5 (IntKind.wrap .i64 ((IntKind.wrap .i64 (1 * 2 ^ min (((IntKind.wrap .u64 x1) : Int)).toNat (IntKind.bits .i64))) - 1)),sA 2 2 2 0],[(7,(Vrow.row v9)),(2,(CV.frzRow (Vtab.row x0)))]⟩ kr ?_
          rw [h11]
          refine aU tOk [(32,[]),(33,[]),(34,[]),(35,[])] 8 [⟨[],37,73,74⟩,⟨[],3,65,66⟩,⟨[],3,62,63⟩,⟨[],3,60,61⟩,⟨[15],3,53,54⟩,⟨[8,15],3,46,47⟩,⟨[2,8,15],3,41,42⟩] [35,34,33,32,31,30,29,28,27,26,25,24,23,22,21,20,19,18,17,16,15,14,13,12,11,10,9,8,7,6,5,4,3,2,1,0] rfl kr (fun cx => ?_)
          refine aI tOk 36 37 0 74 76 77 (some (31,true)) ⟨(.box 2),[(0,0)],0,false,3,(CV.frzEs (x0.Rows.map Vrow.row))⟩ (IntKind.wrap .i64 (y3 - 1)) (Vrow.row v13) _ kr kr kr kr kr kr rfl (idx_isF ev13) rfl (fun cx => ?_)
          refine aU tOk [(37,[]),(38,[]),(39,[]),(40,[]),(41,[]),(42,[]),(43,[])] 0 [⟨[],3,80,81⟩,⟨[],37,73,74⟩,⟨[],3,65,66⟩,⟨[],3,62,63⟩,⟨[],3,60,61⟩,⟨[15],3,53,54⟩,⟨[8,15],3,46,47⟩,⟨[2,8,15],3,41,42⟩] [43,42,41,40,39,38,37,36,35,34,33,32,31,30,29,28,27,26,25,24,23,22,21,20,19,18,17,16,15,14,13,12,11,10,9,8,7,6,5,4,3,2,1,0] rfl kr (fun cx => ?_)
          exact AT.done [84,6,5,2] [2] _ kr kr rfl
         refine tO ⟨100,0,[sB 84 (decide (v13.Id ≥ v9.Id)),sI 6 y3,sI 5 (IntKind.wrap .i64 ((IntKind.wrap .i64 (1 * 2 ^ min (((IntKind.wrap .u64 x1) : Int)).toNat (IntKind.bits .i64))) - 1)),sA 2 2 2 0],[(2,(CV.frzRow (Vtab.row x0)))]⟩ kr ?_
         cases h12 : (decide (v13.Id ≥ v9.Id))
         ·have H := bifF h12 H
          refine tf kr ?_
          refine tK ?_
          refine tE tOk 3 100 4 kr kr ?_
          exact jn (mo8,(IntKind.wrap .i64 (y3 + 1))) H (sM mo8 [6,5,2] [2] kr)
         have H := bifT h12 H
         refine tt kr ?_
         refine tG tOk 1 16 0 kr kr ?_
         refine te ?_
         obtain rfl := si H
         have H := Ho8
         dsimp only at H
         obtain rfl := si H
         exact fO [(false,[cB false])] kr rfl rfl
        have H := bifT h10 H
        refine Tr.draws mixed 44 kr ⟨100,0,[sB 84 true,sI 6 y3,sI 5 (IntKind.wrap .i64 ((IntKind.wrap .i64 (1 * 2 ^ min (((IntKind.wrap .u64 x1) : Int)).toNat (IntKind.bits .i64))) - 1)),sA 2 2 2 0],[(2,(CV.frzRow (Vtab.row x0)))]⟩ (fun cx => ?_) ?_
        ·refine aU tOk [(0,[]),(1,[2,8,15])] 42 [⟨[2,8,15],3,41,42⟩] [1,0] rfl kr (fun cx => ?_)
         refine AT.big1 tOk 2 kr kr ?_
         refine lV tOk [.rd,.rd,.rd] [] (spec_l1In n v9.Id 1 99 r10 er10) kr kr kr kr (.inl rfl) ?_
         refine lF kr kr kr ?_
         refine aU tOk [(3,[]),(4,[])] 39 [⟨[2,8,15],3,41,42⟩] [4,3,2,1,0] rfl kr (fun cx => ?_)
         refine aT ⟨100,0,[sB 45 (!r10),sB 44 (!r10),sB 43 r10,sI 42 v9.Id,sA 41 7 3 0,sA 7 7 3 0,sI 6 y3,sI 5 (IntKind.wrap .i64 ((IntKind.wrap .i64 (1 * 2 ^ min (((IntKind.wrap .u64 x1) : Int)).toNat (IntKind.bits .i64))) - 1)),sA 2 2 2 0],[(7,(Vrow.row v9)),(2,(CV.frzRow (Vtab.row x0)))]⟩ kr ?_
         rw [h7]
         refine aU tOk [(5,[]),(6,[8,15]),(7,[])] 36 [⟨[8,15],3,46,47⟩,⟨[2,8,15],3,41,42⟩] [7,6,5,4,3,2,1,0] rfl kr (fun cx => ?_)
         refine AT.big1 tOk 8 kr kr ?_
         refine lV tOk [.rd,.rd,.rd] [] (spec_l1In n v9.Members 0 (IntKind.wrap .i64 ((IntKind.wrap .i64 (1 * 2 ^ min (((IntKind.wrap .u64 x1) : Int)).toNat (IntKind.bits .i64))) - 1)) r11 er11) kr kr kr kr (.inl rfl) ?_
         refine lF kr kr kr ?_
         refine aU tOk [(9,[]),(10,[]),(11,[])] 32 [⟨[8,15],3,46,47⟩,⟨[2,8,15],3,41,42⟩] [11,10,9,8,7,6,5,4,3,2,1,0] rfl kr (fun cx => ?_)
         refine aT ⟨100,0,[sB 52 (!r11),sB 51 (!r11),sB 50 (!r11),sB 49 r11,sI 48 (IntKind.wrap .i64 ((IntKind.wrap .i64 (1 * 2 ^ min (((IntKind.wrap .u64 x1) : Int)).toNat (IntKind.bits .i64))) - 1)),sI 47 v9.Members,sA 46 7 3 1,sB 45 false,sB 44 false,sB 43 r10,sI 42 v9.Id,sA 41 7 3 0,sA 7 7 3 0,sI 6 y3,sI 5 (IntKind.wrap .i64 ((IntKind.wrap .i64 (1 * 2 ^ min (((IntKind.wrap .u64 x1) : Int)).toNat (IntKind.bits .i64))) - 1)),sA 2 2 2 0],[(7,(Vrow.row v9)),(2,(CV.frzRow (Vtab.row x0)))]⟩ kr ?_
         rw [h8]
         refine aU tOk [(12,[]),(13,[15]),(14,[])] 29 [⟨[15],3,53,54⟩,⟨[8,15],3,46,47⟩,⟨[2,8,15],3,41,42⟩] [14,13,12,11,10,9,8,7,6,5,4,3,2,1,0] rfl kr (fun cx => ?_)
         refine AT.big1 tOk 15 kr kr ?_
         refine lV tOk [.rd,.rd,.rd] [] (spec_l1In n v9.Bare 0 (IntKind.wrap .i64 ((IntKind.wrap .i64 (1 * 2 ^ min (((IntKind.wrap .u64 x1) : Int)).toNat (IntKind.bits .i64))) - 1)) r12 er12) kr kr kr kr (.inl rfl) ?_
         refine lF kr kr kr ?_
         refine aU tOk [(16,[]),(17,[]),(18,[])] 25 [⟨[15],3,53,54⟩,⟨[8,15],3,46,47⟩,⟨[2,8,15],3,41,42⟩] [18,17,16,15,14,13,12,11,10,9,8,7,6,5,4,3,2,1,0] rfl kr (fun cx => ?_)
         refine aT ⟨100,0,[sB 59 (!r12),sB 58 (!r12),sB 57 (!r12),sB 56 r12,sI 55 (IntKind.wrap .i64 ((IntKind.wrap .i64 (1 * 2 ^ min (((IntKind.wrap .u64 x1) : Int)).toNat (IntKind.bits .i64))) - 1)),sI 54 v9.Bare,sA 53 7 3 2,sB 52 false,sB 51 false,sB 50 false,sB 49 r11,sI 48 (IntKind.wrap .i64 ((IntKind.wrap .i64 (1 * 2 ^ min (((IntKind.wrap .u64 x1) : Int)).toNat (IntKind.bits .i64))) - 1)),sI 47 v9.Members,sA 46 7 3 1,sB 45 false,sB 44 false,sB 43 r10,sI 42 v9.Id,sA 41 7 3 0,sA 7 7 3 0,sI 6 y3,sI 5 (IntKind.wrap .i64 ((IntKind.wrap .i64 (1 * 2 ^ min (((IntKind.wrap .u64 x1) : Int)).toNat (IntKind.bits .i64))) - 1)),sA 2 2 2 0],[(7,(Vrow.row v9)),(2,(CV.frzRow (Vtab.row x0)))]⟩ kr ?_
         rw [h9]
         refine aU tOk [(19,[]),(20,[]),(21,[]),(22,[]),(23,[]),(24,[]),(25,[]),(26,[]),(27,[]),(28,[])] 15 [⟨[],3,65,66⟩,⟨[],3,62,63⟩,⟨[],3,60,61⟩,⟨[15],3,53,54⟩,⟨[8,15],3,46,47⟩,⟨[2,8,15],3,41,42⟩] [28,27,26,25,24,23,22,21,20,19,18,17,16,15,14,13,12,11,10,9,8,7,6,5,4,3,2,1,0] rfl kr (fun cx => ?_)
         refine aT ⟨100,0,[sB 69 ((IntKind.wrap .i64 (BitVec.ofInt (IntKind.bits .i64) v9.Bare &&& BitVec.ofInt (IntKind.bits .i64) v9.Members).toNat) != v9.Bare),sB 68 ((IntKind.wrap .i64 (BitVec.ofInt (IntKind.bits .i64) v9.Bare &&& BitVec.ofInt (IntKind.bits .i64) v9.Members).toNat) != v9.Bare),sB 67 ((IntKind.wrap .i64 (BitVec.ofInt (IntKind.bits .i64) v9.Bare &&& BitVec.ofInt (IntKind.bits .i64) v9.Members).toNat) != v9.Bare),sI 66 v9.Bare,sA 65 7 3 2,sI 64 (IntKind.wrap .i64 (BitVec.ofInt (IntKind.bits .i64) v9.Bare &&& BitVec.ofInt (IntKind.bits .i64) v9.Members).toNat),sI 63 v9.Members,sA 62 7 3 1,sI 61 v9.Bare,sA 60 7 3 2,sB 59 false,sB 58 false,sB 57 false,sB 56 r12,sI 55 (IntKind.wrap .i64 ((IntKind.wrap .i64 (1 * 2 ^ min (((IntKind.wrap .u64 x1) : Int)).toNat (IntKind.bits .i64))) - 1)),sI 54 v9.Bare,sA 53 7 3 2,sB 52 false,sB 51 false,sB 50 false,sB 49 r11,sI 48 (IntKind.wrap .i64 ((IntKind.wrap .i64 (1 * 2 ^ min (((IntKind.wrap .u64 x1) : Int)).toNat (IntKind.bits .i64))) - 1)),sI 47 v9.Members,sA 46 7 3 1,sB 45 false,sB 44 false,sB 43 r10,sI 42 v9.Id,sA 41 7 3 0,sA 7 7 3 0,sI 6 y3,sI 5 (IntKind.wrap .i64 ((IntKind.wrap .i64 (1 * 2 ^ min (((IntKind.wrap .u64 x1) : Int)).toNat (IntKind.bits .i64))) - 1)),sA 2 2 2 0],[(7,(Vrow.row v9)),(2,(CV.frzRow (Vtab.row x0)))]⟩ kr ?_
         rw [h10]
         refine aU tOk [(29,[]),(30,[]),(31,[]),(32,[]),(33,[]),(34,[]),(35,[]),(36,[]),(37,[]),(38,[]),(39,[]),(40,[]),(41,[]),(42,[]),(43,[])] 0 [⟨[],3,65,66⟩,⟨[],3,62,63⟩,⟨[],3,60,61⟩,⟨[15],3,53,54⟩,⟨[8,15],3,46,47⟩,⟨[2,8,15],3,41,42⟩] [43,42,41,40,39,38,37,36,35,34,33,32,31,30,29,28,27,26,25,24,23,22,21,20,19,18,17,16,15,14,13,12,11,10,9,8,7,6,5,4,3,2,1,0] rfl kr (fun cx => ?_)
         exact AT.done [84,6,5,2] [2] _ kr kr rfl
        refine tt kr ?_
        refine tG tOk 1 16 0 kr kr ?_
        refine te ?_
        obtain rfl := si H
        have H := Ho8
        dsimp only at H
        obtain rfl := si H
        exact fO [(false,[cB false])] kr rfl rfl
       have H := bifT h9 H
       refine Tr.draws mixed 44 kr ⟨100,0,[sB 84 true,sI 6 y3,sI 5 (IntKind.wrap .i64 ((IntKind.wrap .i64 (1 * 2 ^ min (((IntKind.wrap .u64 x1) : Int)).toNat (IntKind.bits .i64))) - 1)),sA 2 2 2 0],[(2,(CV.frzRow (Vtab.row x0)))]⟩ (fun cx => ?_) ?_
       ·refine aU tOk [(0,[]),(1,[2,8,15])] 42 [⟨[2,8,15],3,41,42⟩] [1,0] rfl kr (fun cx => ?_)
        refine AT.big1 tOk 2 kr kr ?_
        refine lV tOk [.rd,.rd,.rd] [] (spec_l1In n v9.Id 1 99 r10 er10) kr kr kr kr (.inl rfl) ?_
        refine lF kr kr kr ?_
        refine aU tOk [(3,[]),(4,[])] 39 [⟨[2,8,15],3,41,42⟩] [4,3,2,1,0] rfl kr (fun cx => ?_)
        refine aT ⟨100,0,[sB 45 (!r10),sB 44 (!r10),sB 43 r10,sI 42 v9.Id,sA 41 7 3 0,sA 7 7 3 0,sI 6 y3,sI 5 (IntKind.wrap .i64 ((IntKind.wrap .i64 (1 * 2 ^ min (((IntKind.wrap .u64 x1) : Int)).toNat (IntKind.bits .i64))) - 1)),sA 2 2 2 0],[(7,(Vrow.row v9)),(2,(CV.frzRow (Vtab.row x0)))]⟩ kr ?_
        rw [h7]
        refine aU tOk [(5,[]),(6,[8,15]),(7,[])] 36 [⟨[8,15],3,46,47⟩,⟨[2,8,15],3,41,42⟩] [7,6,5,4,3,2,1,0] rfl kr (fun cx => ?_)
        refine AT.big1 tOk 8 kr kr ?_
        refine lV tOk [.rd,.rd,.rd] [] (spec_l1In n v9.Members 0 (IntKind.wrap .i64 ((IntKind.wrap .i64 (1 * 2 ^ min (((IntKind.wrap .u64 x1) : Int)).toNat (IntKind.bits .i64))) - 1)) r11 er11) kr kr kr kr (.inl rfl) ?_
        refine lF kr kr kr ?_
        refine aU tOk [(9,[]),(10,[]),(11,[])] 32 [⟨[8,15],3,46,47⟩,⟨[2,8,15],3,41,42⟩] [11,10,9,8,7,6,5,4,3,2,1,0] rfl kr (fun cx => ?_)
        refine aT ⟨100,0,[sB 52 (!r11),sB 51 (!r11),sB 50 (!r11),sB 49 r11,sI 48 (IntKind.wrap .i64 ((IntKind.wrap .i64 (1 * 2 ^ min (((IntKind.wrap .u64 x1) : Int)).toNat (IntKind.bits .i64))) - 1)),sI 47 v9.Members,sA 46 7 3 1,sB 45 false,sB 44 false,sB 43 r10,sI 42 v9.Id,sA 41 7 3 0,sA 7 7 3 0,sI 6 y3,sI 5 (IntKind.wrap .i64 ((IntKind.wrap .i64 (1 * 2 ^ min (((IntKind.wrap .u64 x1) : Int)).toNat (IntKind.bits .i64))) - 1)),sA 2 2 2 0],[(7,(Vrow.row v9)),(2,(CV.frzRow (Vtab.row x0)))]⟩ kr ?_
        rw [h8]
        refine aU tOk [(12,[]),(13,[15]),(14,[])] 29 [⟨[15],3,53,54⟩,⟨[8,15],3,46,47⟩,⟨[2,8,15],3,41,42⟩] [14,13,12,11,10,9,8,7,6,5,4,3,2,1,0] rfl kr (fun cx => ?_)
        refine AT.big1 tOk 15 kr kr ?_
        refine lV tOk [.rd,.rd,.rd] [] (spec_l1In n v9.Bare 0 (IntKind.wrap .i64 ((IntKind.wrap .i64 (1 * 2 ^ min (((IntKind.wrap .u64 x1) : Int)).toNat (IntKind.bits .i64))) - 1)) r12 er12) kr kr kr kr (.inl rfl) ?_
        refine lF kr kr kr ?_
        refine aU tOk [(16,[]),(17,[]),(18,[])] 25 [⟨[15],3,53,54⟩,⟨[8,15],3,46,47⟩,⟨[2,8,15],3,41,42⟩] [18,17,16,15,14,13,12,11,10,9,8,7,6,5,4,3,2,1,0] rfl kr (fun cx => ?_)
        refine aT ⟨100,0,[sB 59 (!r12),sB 58 (!r12),sB 57 (!r12),sB 56 r12,sI 55 (IntKind.wrap .i64 ((IntKind.wrap .i64 (1 * 2 ^ min (((IntKind.wrap .u64 x1) : Int)).toNat (IntKind.bits .i64))) - 1)),sI 54 v9.Bare,sA 53 7 3 2,sB 52 false,sB 51 false,sB 50 false,sB 49 r11,sI 48 (IntKind.wrap .i64 ((IntKind.wrap .i64 (1 * 2 ^ min (((IntKind.wrap .u64 x1) : Int)).toNat (IntKind.bits .i64))) - 1)),sI 47 v9.Members,sA 46 7 3 1,sB 45 false,sB 44 false,sB 43 r10,sI 42 v9.Id,sA 41 7 3 0,sA 7 7 3 0,sI 6 y3,sI 5 (IntKind.wrap .i64 ((IntKind.wrap .i64 (1 * 2 ^ min (((IntKind.wrap .u64 x1) : Int)).toNat (IntKind.bits .i64))) - 1)),sA 2 2 2 0],[(7,(Vrow.row v9)),(2,(CV.frzRow (Vtab.row x0)))]⟩ kr ?_
        rw [h9]
        refine aU tOk [(19,[]),(20,[]),(21,[]),(22,[]),(23,[]),(24,[]),(25,[]),(26,[]),(27,[]),(28,[]),(29,[]),(30,[]),(31,[]),(32,[]),(33,[]),(34,[]),(35,[]),(36,[]),(37,[]),(38,[]),(39,[]),(40,[]),(41,[]),(42,[]),(43,[])] 0 [⟨[15],3,53,54⟩,⟨[8,15],3,46,47⟩,⟨[2,8,15],3,41,42⟩] [43,42,41,40,39,38,37,36,35,34,33,32,31,30,29,28,27,26,25,24,23,22,21,20,19,18,17,16,15,14,13,12,11,10,9,8,7,6,5,4,3,2,1,0] rfl kr (fun cx => ?_)
        exact AT.done [84,6,5,2] [2] _ kr kr rfl
       refine tt kr ?_
       refine tG tOk 1 16 0 kr kr ?_
       refine te ?_
       obtain rfl := si H
       have H := Ho8
       dsimp only at H
       obtain rfl := si H
       exact fO [(false,[cB false])] kr rfl rfl
      have H := bifT h8 H
      refine Tr.draws mixed 44 kr ⟨100,0,[sB 84 true,sI 6 y3,sI 5 (IntKind.wrap .i64 ((IntKind.wrap .i64 (1 * 2 ^ min (((IntKind.wrap .u64 x1) : Int)).toNat (IntKind.bits .i64))) - 1)),sA 2 2 2 0],[(2,(CV.frzRow (Vtab.row x0)))]⟩ (fun cx => ?_) ?_
      ·refine aU tOk [(0,[]),(1,[2,8])] 42 [⟨[2,8],3,41,42⟩] [1,0] rfl kr (fun cx => ?_)
       refine AT.big1 tOk 2 kr kr ?_
       refine lV tOk [.rd,.rd,.rd] [] (spec_l1In n v9.Id 1 99 r10 er10) kr kr kr kr (.inl rfl) ?_
       refine lF kr kr kr ?_
       refine aU tOk [(3,[]),(4,[])] 39 [⟨[2,8],3,41,42⟩] [4,3,2,1,0] rfl kr (fun cx => ?_)
       refine aT ⟨100,0,[sB 45 (!r10),sB 44 (!r10),sB 43 r10,sI 42 v9.Id,sA 41 7 3 0,sA 7 7 3 0,sI 6 y3,sI 5 (IntKind.wrap .i64 ((IntKind.wrap .i64 (1 * 2 ^ min (((IntKind.wrap .u64 x1) : Int)).toNat (IntKind.bits .i64))) - 1)),sA 2 2 2 0],[(7,(Vrow.row v9)),(2,(CV.frzRow (Vtab.row x0)))]⟩ kr ?_
       rw [h7]
       refine aU tOk [(5,[]),(6,[8]),(7,[])] 36 [⟨[8],3,46,47⟩,⟨[2,8],3,41,42⟩] [7,6,5,4,3,2,1,0] rfl kr (fun cx => ?_)
       refine AT.big1 tOk 8 kr kr ?_
       refine lV tOk [.rd,.rd,.rd] [] (spec_l1In n v9.Members 0 (IntKind.wrap .i64 ((IntKind.wrap .i64 (1 * 2 ^ min (((IntKind.wrap .u64 x1) : Int)).toNat (IntKind.bits .i64))) - 1)) r11 er11) kr kr kr kr (.inl rfl) ?_
       refine lF kr kr kr ?_
       refine aU tOk [(9,[]),(10,[]),(11,[])] 32 [⟨[8],3,46,47⟩,⟨[2,8],3,41,42⟩] [11,10,9,8,7,6,5,4,3,2,1,0] rfl kr (fun cx => ?_)
       refine aT ⟨100,0,[sB 52 (!r11),sB 51 (!r11),sB 50 (!r11),sB 49 r11,sI 48 (IntKind.wrap .i64 ((IntKind.wrap .i64 (1 * 2 ^ min (((IntKind.wrap .u64 x1) : Int)).toNat (IntKind.bits .i64))) - 1)),sI 47 v9.Members,sA 46 7 3 1,sB 45 false,sB 44 false,sB 43 r10,sI 42 v9.Id,sA 41 7 3 0,sA 7 7 3 0,sI 6 y3,sI 5 (IntKind.wrap .i64 ((IntKind.wrap .i64 (1 * 2 ^ min (((IntKind.wrap .u64 x1) : Int)).toNat (IntKind.bits .i64))) - 1)),sA 2 2 2 0],[(7,(Vrow.row v9)),(2,(CV.frzRow (Vtab.row x0)))]⟩ kr ?_
       rw [h8]
       refine aU tOk [(12,[]),(13,[]),(14,[]),(15,[]),(16,[]),(17,[]),(18,[]),(19,[]),(20,[]),(21,[]),(22,[]),(23,[]),(24,[]),(25,[]),(26,[]),(27,[]),(28,[]),(29,[]),(30,[]),(31,[]),(32,[]),(33,[]),(34,[]),(35,[]),(36,[]),(37,[]),(38,[]),(39,[]),(40,[]),(41,[]),(42,[]),(43,[])] 0 [⟨[8],3,46,47⟩,⟨[2,8],3,41,42⟩] [43,42,41,40,39,38,37,36,35,34,33,32,31,30,29,28,27,26,25,24,23,22,21,20,19,18,17,16,15,14,13,12,11,10,9,8,7,6,5,4,3,2,1,0] rfl kr (fun cx => ?_)
       exact AT.done [84,6,5,2] [2] _ kr kr rfl
      refine tt kr ?_
      refine tG tOk 1 16 0 kr kr ?_
      refine te ?_
      obtain rfl := si H
      have H := Ho8
      dsimp only at H
      obtain rfl := si H
      exact fO [(false,[cB false])] kr rfl rfl
     have H := bifT h7 H
     refine Tr.draws mixed 44 kr ⟨100,0,[sB 84 true,sI 6 y3,sI 5 (IntKind.wrap .i64 ((IntKind.wrap .i64 (1 * 2 ^ min (((IntKind.wrap .u64 x1) : Int)).toNat (IntKind.bits .i64))) - 1)),sA 2 2 2 0],[(2,(CV.frzRow (Vtab.row x0)))]⟩ (fun cx => ?_) ?_
     ·refine aU tOk [(0,[]),(1,[2])] 42 [⟨[2],3,41,42⟩] [1,0] rfl kr (fun cx => ?_)
      refine AT.big1 tOk 2 kr kr ?_
      refine lV tOk [.rd,.rd,.rd] [] (spec_l1In n v9.Id 1 99 r10 er10) kr kr kr kr (.inl rfl) ?_
      refine lF kr kr kr ?_
      refine aU tOk [(3,[]),(4,[])] 39 [⟨[2],3,41,42⟩] [4,3,2,1,0] rfl kr (fun cx => ?_)
      refine aT ⟨100,0,[sB 45 (!r10),sB 44 (!r10),sB 43 r10,sI 42 v9.Id,sA 41 7 3 0,sA 7 7 3 0,sI 6 y3,sI 5 (IntKind.wrap .i64 ((IntKind.wrap .i64 (1 * 2 ^ min (((IntKind.wrap .u64 x1) : Int)).toNat (IntKind.bits .i64))) - 1)),sA 2 2 2 0],[(7,(Vrow.row v9)),(2,(CV.frzRow (Vtab.row x0)))]⟩ kr ?_
      rw [h7]
      refine aU tOk [(5,[]),(6,[]),(7,[]),(8,[]),(9,[]),(10,[]),(11,[]),(12,[]),(13,[]),(14,[]),(15,[]),(16,[]),(17,[]),(18,[]),(19,[]),(20,[]),(21,[]),(22,[]),(23,[]),(24,[]),(25,[]),(26,[]),(27,[]),(28,[]),(29,[]),(30,[]),(31,[]),(32,[]),(33,[]),(34,[]),(35,[]),(36,[]),(37,[]),(38,[]),(39,[]),(40,[]),(41,[]),(42,[]),(43,[])] 0 [⟨[2],3,41,42⟩] [43,42,41,40,39,38,37,36,35,34,33,32,31,30,29,28,27,26,25,24,23,22,21,20,19,18,17,16,15,14,13,12,11,10,9,8,7,6,5,4,3,2,1,0] rfl kr (fun cx => ?_)
      exact AT.done [84,6,5,2] [2] _ kr kr rfl
     refine tt kr ?_
     refine tG tOk 1 16 0 kr kr ?_
     refine te ?_
     obtain rfl := si H
     have H := Ho8
     dsimp only at H
     obtain rfl := si H
     exact fO [(false,[cB false])] kr rfl rfl
    rintro _ H
    have H : (spec_VtabOk_J1 n x0) = some r := H
    unfold spec_VtabOk_J1 at H
    refine tS ?_
    refine tG tOk 1 260 4 kr kr ?_
    obtain ⟨o5,eo5,Ho5⟩ := bind_some H
    clear H
    refine Tr.mid (ι := Unit) (fun v => ⟨100,0,[],[]⟩) (fun v => spec_VtabOk_J2 n = some r) ?_ ?_
    ·refine tB ?_
     refine Tr.loop (ι := Nat × (Int)) (fun v => ⟨100,0,[sI 8 v.2,sA 2 2 2 0],[(2,(CV.frzRow (Vtab.row x0)))]⟩) (fun v => spec_VtabOk_L3 n v.1 x0 v.2 = some o5) (fun v => v.1) (n,0) eo5 (St.sub_of [8,2] [2] kr) ?_
     rintro ⟨mo5,y4⟩ H
     have H : spec_VtabOk_L3 n mo5 x0 y4 = some o5 := H
     obtain _ | mo5 := mo5
     ·cases (show (none : Option _) = some o5 from H)
     rw [spec_VtabOk_L3] at H
     refine tS ?_
     refine rU tOk 3 kr ?_
     refine lL tOk 25 3 3 87 88 none ⟨(.slot 87),[],0,false,1,(CV.frzEs (x0.Pvid.map intRow))⟩ (x0.Pvid).length _ kr kr kr kr kr (frz_len _ _) rfl ?_
     refine uD tOk 1 0x20000000000000000000104 4 kr kr ?_
     obtain ⟨h4,H⟩ | ⟨h4,H⟩ := bC H
     ·refine tF h4 kr ?_
      refine Tr.exit ?_
      refine And.intro (fun _ => ?_) (fun h => absurd rfl h)
      obtain rfl := si H
      have H := Ho5
      dsimp only at H
      exact jn () H (sB_ [] [] kr)
     refine tT h4 kr ?_
     refine tK ?_
     refine tS ?_
     refine tB ?_
     obtain ⟨v6,ev6,H⟩ := bind_some H
     obtain ⟨r7,er7,H⟩ := bind_some H
     refine Tr.draws mixed 8 kr ⟨100,0,[sB 99 (decide (r7 < 0)),sI 8 y4,sA 2 2 2 0],[(2,(CV.frzRow (Vtab.row x0)))]⟩ (fun cx => ?_) ?_
     ·refine aU tOk [(0,[6]),(1,[]),(2,[6]),(3,[])] 4 [⟨[6],25,93,94⟩,⟨[6],39,2,92⟩] [3,2,1,0] rfl kr (fun cx => ?_)
      refine aI tOk 4 25 0 94 95 96 none ⟨(.box 2),[(0,0)],1,false,1,(CV.frzEs (x0.Pvid.map intRow))⟩ y4 [cI v6] _ kr kr kr kr kr kr rfl (idx_isF ev6) rfl (fun cx => ?_)
      refine aU tOk [(5,[])] 2 [⟨[6],25,93,94⟩,⟨[6],39,2,92⟩] [5,4,3,2,1,0] rfl kr (fun cx => ?_)
      refine AT.big1 tOk 6 kr kr ?_
      refine lV tOk [.rd,.rd] [] (spec_RowAt n x0 v6 r7 er7) kr kr kr kr (.inl rfl) ?_
      refine lF kr kr kr ?_
      refine aU tOk [(7,[])] 0 [⟨[6],25,93,94⟩,⟨[6],39,2,92⟩] [7,6,5,4,3,2,1,0] rfl kr (fun cx => ?_)
      exact AT.done [99,8,2] [2] _ kr kr rfl
     refine tO ⟨100,0,[sB 99 (decide (r7 < 0)),sI 8 y4,sA 2 2 2 0],[(2,(CV.frzRow (Vtab.row x0)))]⟩ kr ?_
     cases h5 : (decide (r7 < 0))
     ·have H := bifF h5 H
      refine tf kr ?_
      refine tK ?_
      refine tE tOk 3 260 4 kr kr ?_
      exact jn (mo5,(IntKind.wrap .i64 (y4 + 1))) H (sM mo5 [8,2] [2] kr)
     have H := bifT h5 H
     refine tt kr ?_
     refine tG tOk 1 16 0 kr kr ?_
     refine te ?_
     obtain rfl := si H
     have H := Ho5
     dsimp only at H
     obtain rfl := si H
     exact fO [(false,[cB false])] kr rfl rfl
    rintro _ H
    have H : (spec_VtabOk_J2 n) = some r := H
    unfold spec_VtabOk_J2 at H
    refine tG tOk 1 16 0 kr kr ?_
    exact te (by obtain rfl := si H; exact fO [(false,[cB true])] kr rfl rfl)
   refine tT h3 kr ?_
   refine tG tOk 1 16 0 kr kr ?_
   exact te (by obtain rfl := si H; exact fO [(false,[cB false])] kr rfl rfl)
  have H := bifT h2 H
  refine uD tOk 5 16777222 4 kr kr ?_
  refine tt kr ?_
  refine tG tOk 1 16 0 kr kr ?_
  exact te (by obtain rfl := si H; exact fO [(false,[cB false])] kr rfl rfl)
 have H := bifT h1 H
 refine uD tOk 12 16777222 4 kr kr ?_
 refine tt kr ?_
 refine tG tOk 1 16 0 kr kr ?_
 exact te (by obtain rfl := si H; exact fO [(false,[cB false])] kr rfl rfl)
def spec_l11CountsF (n : Nat) (x0 : Bridge) : Option (Bool) :=
  ((spec_l1InF n x0.Ticks 0 1000000).bind fun r1 => (bif r1 then ((spec_l1InF n x0.Parse 0 1000000).bind fun r2 => (bif r2 then ((spec_l1InF n x0.Word 0 1000000).bind fun r3 => (bif r3 then ((spec_l1InF n x0.Drops 0 1000000).bind fun r4 => (bif r4 then ((spec_l1InF n x0.Vers 0 1000000).bind fun r5 => (some r5)) else (some false))) else (some false))) else (some false))) else (some false)))
noncomputable abbrev G228 (k : Nat) := Rg Tryz.f228 k
theorem spec_l11Counts (n : Nat) (x0 : Bridge) (r : Bool) (H : spec_l11CountsF n x0 = some r) : LCall Tryz.prog 228 [.val true (CV.frzRow (Bridge.row x0))] [.val false [.lit (.bool r)]] [] := by
 refine LCall.of_body tOk Tryz.func228 rfl (c := (.seq (G228 0) (.seq (G228 1) .ret))) kr (Nat.le_of_ble_eq_true kr) 0 (rs := [.tmp 2]) rfl [] .nil [(false,[.lit (.bool r)])] [] [] fun cx => ?_
 show Tr _ _ _ ⟨26,0,[sV 0 (CV.frzRow (Bridge.row x0))],[]⟩ _
 unfold spec_l11CountsF at H
 refine tG tOk 2 2 2 kr kr ?_
 refine rU tOk 2 kr ?_
 obtain ⟨r1,er1,H⟩ := bind_some H
 refine lV tOk [.rd,.rd,.rd] [] (spec_l1In n x0.Ticks 0 1000000 r1 er1) kr kr kr kr (.inl rfl) ?_
 refine lU tOk 1 kr ?_
 refine lT ⟨26,0,[sB 6 r1,sB 5 r1,sI 4 x0.Ticks,sA 3 1 11 6,sA 1 1 11 0],[(1,(CV.frzRow (Bridge.row x0)))]⟩ kr ?_
 cases h1 : r1
 ·have H := bifF h1 H
  refine uD tOk 20 4 0 kr kr ?_
  exact te (by obtain rfl := si H; exact fO [(false,[cB false])] kr rfl rfl)
 have H := bifT h1 H
 refine lU tOk 2 kr ?_
 obtain ⟨r2,er2,H⟩ := bind_some H
 refine lV tOk [.rd,.rd,.rd] [] (spec_l1In n x0.Parse 0 1000000 r2 er2) kr kr kr kr (.inl rfl) ?_
 refine lU tOk 2 kr ?_
 refine lT ⟨26,0,[sB 11 r2,sB 10 r2,sB 9 r2,sI 8 x0.Parse,sA 7 1 11 7,sB 6 true,sB 5 true,sI 4 x0.Ticks,sA 3 1 11 6,sA 1 1 11 0],[(1,(CV.frzRow (Bridge.row x0)))]⟩ kr ?_
 cases h2 : r2
 ·have H := bifF h2 H
  refine uD tOk 15 4 0 kr kr ?_
  exact te (by obtain rfl := si H; exact fO [(false,[cB false])] kr rfl rfl)
 have H := bifT h2 H
 refine lU tOk 2 kr ?_
 obtain ⟨r3,er3,H⟩ := bind_some H
 refine lV tOk [.rd,.rd,.rd] [] (spec_l1In n x0.Word 0 1000000 r3 er3) kr kr kr kr (.inl rfl) ?_
 refine lU tOk 2 kr ?_
 refine lT ⟨26,0,[sB 16 r3,sB 15 r3,sB 14 r3,sI 13 x0.Word,sA 12 1 11 8,sB 11 true,sB 10 true,sB 9 true,sI 8 x0.Parse,sA 7 1 11 7,sB 6 true,sB 5 true,sI 4 x0.Ticks,sA 3 1 11 6,sA 1 1 11 0],[(1,(CV.frzRow (Bridge.row x0)))]⟩ kr ?_
 cases h3 : r3
 ·have H := bifF h3 H
  refine uD tOk 10 4 0 kr kr ?_
  exact te (by obtain rfl := si H; exact fO [(false,[cB false])] kr rfl rfl)
 have H := bifT h3 H
 refine lU tOk 2 kr ?_
 obtain ⟨r4,er4,H⟩ := bind_some H
 refine lV tOk [.rd,.rd,.rd] [] (spec_l1In n x0.Drops 0 1000000 r4 er4) kr kr kr kr (.inl rfl) ?_
 refine lU tOk 2 kr ?_
 refine lT ⟨26,0,[sB 21 r4,sB 20 r4,sB 19 r4,sI 18 x0.Drops,sA 17 1 11 9,sB 16 true,sB 15 true,sB 14 true,sI 13 x0.Word,sA 12 1 11 8,sB 11 true,sB 10 true,sB 9 true,sI 8 x0.Parse,sA 7 1 11 7,sB 6 true,sB 5 true,sI 4 x0.Ticks,sA 3 1 11 6,sA 1 1 11 0],[(1,(CV.frzRow (Bridge.row x0)))]⟩ kr ?_
 cases h4 : r4
 ·have H := bifF h4 H
  refine uD tOk 5 4 0 kr kr ?_
  exact te (by obtain rfl := si H; exact fO [(false,[cB false])] kr rfl rfl)
 have H := bifT h4 H
 refine lU tOk 2 kr ?_
 obtain ⟨r5,er5,H⟩ := bind_some H
 refine lV tOk [.rd,.rd,.rd] [] (spec_l1In n x0.Vers 0 1000000 r5 er5) kr kr kr kr (.inl rfl) ?_
 refine uD tOk 2 4 0 kr kr ?_
 exact te (by obtain rfl := si H; exact fO [(false,[cB r5])] kr rfl rfl)
def spec_BridgeOk_J1 (n : Nat) (x0 : Bridge) : Option (Bool) :=
  ((spec_l1InF n x0.Id 1 99).bind fun r2 => (bif r2 then (bif (decide ((x0.Name.size : Int) ≤ 10)) then ((spec_l1InF n (x0.Ports.length : Int) 1 6).bind fun r3 => (bif r3 then ((spec_FdbOkF n x0.F).bind fun r4 => (bif r4 then ((spec_VtabOkF n x0.V (x0.Ports.length : Int)).bind fun r5 => (bif r5 then ((spec_l11CountsF n x0).bind fun r6 => (some r6)) else (some false))) else (some false))) else (some false))) else (some false)) else (some false)))
def spec_BridgeOk_L2 (n : Nat) : Nat → Bridge → Int → Option ((Unit) ⊕ (Bool))
  | 0,_,_ => none
  | mo7 + 1,x0,y1 => (bif (decide (y1 < (x0.Ports.length : Int))) then ((idx x0.Ports y1).bind fun v8 => ((spec_PtOkF n v8).bind fun r9 => (bif (!r9) then (some (Sum.inr false)) else (spec_BridgeOk_L2 n mo7 x0 (IntKind.wrap .i64 (y1 + 1)))))) else (some (Sum.inl ())))
def spec_BridgeOkF (n : Nat) (x0 : Bridge) : Option (Bool) :=
  ((spec_BridgeOk_L2 n n x0 0).bind fun o => match o with | .inl _ => (spec_BridgeOk_J1 n x0) | .inr r => some r)
noncomputable abbrev G168 (k : Nat) := Rg Tryz.f168 k
theorem spec_BridgeOk (n : Nat) (x0 : Bridge) (r : Bool) (H : spec_BridgeOkF n x0 = some r) : LCall Tryz.prog 168 [.val true (CV.frzRow (Bridge.row x0))] [.val false [.lit (.bool r)]] [] := by
 refine LCall.of_body tOk Tryz.func168 rfl (c := (.seq (G168 0) (.seq (.seq (G168 1) (.block 0 (.loop (.seq (.seq (G168 2) (.cond (.tmp 8) .skip (.exit 0))) (.seq (.block 1 (.seq (G168 4) (.cond (.tmp 17) (.seq (G168 5) .ret) .skip))) (G168 3)))))) (.seq (G168 6) .ret)))) kr (Nat.le_of_ble_eq_true kr) 0 (rs := [.tmp 2]) rfl [] .nil [(false,[.lit (.bool r)])] [] [] fun cx => ?_
 show Tr _ _ _ ⟨50,0,[sV 0 (CV.frzRow (Bridge.row x0))],[]⟩ _
 unfold spec_BridgeOkF at H
 refine tG tOk 2 2 2 kr kr ?_
 refine tS ?_
 refine tG tOk 1 10 2 kr kr ?_
 obtain ⟨o7,eo7,Ho7⟩ := bind_some H
 clear H
 refine Tr.mid (ι := Unit) (fun v => ⟨50,0,[sA 1 1 11 0],[(1,(CV.frzRow (Bridge.row x0)))]⟩) (fun v => spec_BridgeOk_J1 n x0 = some r) ?_ ?_
 ·refine tB ?_
  refine Tr.loop (ι := Nat × (Int)) (fun v => ⟨50,0,[sI 3 v.2,sA 1 1 11 0],[(1,(CV.frzRow (Bridge.row x0)))]⟩) (fun v => spec_BridgeOk_L2 n v.1 x0 v.2 = some o7) (fun v => v.1) (n,0) eo7 (St.sub_of [3,1] [1] kr) ?_
  rintro ⟨mo7,y1⟩ H
  have H : spec_BridgeOk_L2 n mo7 x0 y1 = some o7 := H
  obtain _ | mo7 := mo7
  ·cases (show (none : Option _) = some o7 from H)
  rw [spec_BridgeOk_L2] at H
  refine tS ?_
  refine rU tOk 3 kr ?_
  refine lL tOk 35 3 167 6 7 none ⟨(.slot 6),[],0,false,8,(CV.frzEs (x0.Ports.map Pt.row))⟩ (x0.Ports).length _ kr kr kr kr kr (frz_len _ _) rfl ?_
  refine uD tOk 1 266 2 kr kr ?_
  obtain ⟨h6,H⟩ | ⟨h6,H⟩ := bC H
  ·refine tF h6 kr ?_
   refine Tr.exit ?_
   refine And.intro (fun _ => ?_) (fun h => absurd rfl h)
   obtain rfl := si H
   have H := Ho7
   dsimp only at H
   exact jn () H (sB_ [1] [1] kr)
  refine tT h6 kr ?_
  refine tK ?_
  refine tS ?_
  refine tB ?_
  refine rU tOk 3 kr ?_
  obtain ⟨v8,ev8,H⟩ := bind_some H
  refine lI tOk 35 0 12 13 14 none ⟨(.slot 12),[],0,false,8,(CV.frzEs (x0.Ports.map Pt.row))⟩ y1 (Pt.row v8) _ kr kr kr kr rfl (idx_isF ev8) rfl ?_
  refine lU tOk 1 kr ?_
  obtain ⟨r9,er9,H⟩ := bind_some H
  refine lV tOk [.rd] [] (spec_PtOk n v8 r9 er9) kr kr kr kr (.inl rfl) ?_
  refine uD tOk 1 131082 2 kr kr ?_
  obtain ⟨h7,H⟩ | ⟨h7,H⟩ := bC H
  ·refine tF h7 kr ?_
   refine tK ?_
   refine tE tOk 3 10 2 kr kr ?_
   exact jn (mo7,(IntKind.wrap .i64 (y1 + 1))) H (sM mo7 [3,1] [1] kr)
  refine tT h7 kr ?_
  refine tG tOk 1 4 0 kr kr ?_
  refine te ?_
  obtain rfl := si H
  have H := Ho7
  dsimp only at H
  obtain rfl := si H
  exact fO [(false,[cB false])] kr rfl rfl
 rintro _ H
 have H : (spec_BridgeOk_J1 n x0) = some r := H
 unfold spec_BridgeOk_J1 at H
 refine rU tOk 2 kr ?_
 obtain ⟨r2,er2,H⟩ := bind_some H
 refine lV tOk [.rd,.rd,.rd] [] (spec_l1In n x0.Id 1 99 r2 er2) kr kr kr kr (.inl rfl) ?_
 refine lU tOk 1 kr ?_
 refine lT ⟨50,0,[sB 21 r2,sB 20 r2,sI 19 x0.Id,sA 18 1 11 0,sA 1 1 11 0],[(1,(CV.frzRow (Bridge.row x0)))]⟩ kr ?_
 cases h1 : r2
 ·have H := bifF h1 H
  refine uD tOk 29 4 0 kr kr ?_
  exact te (by obtain rfl := si H; exact fO [(false,[cB false])] kr rfl rfl)
 have H := bifT h1 H
 refine lU tOk 6 kr ?_
 refine lT ⟨50,0,[sB 27 (decide ((x0.Name.size : Int) ≤ 10)),sB 26 (decide ((x0.Name.size : Int) ≤ 10)),sB 25 (decide ((x0.Name.size : Int) ≤ 10)),sI 24 (x0.Name.size : Int),sC 23 (cS x0.Name),sA 22 1 11 1,sB 21 true,sB 20 true,sI 19 x0.Id,sA 18 1 11 0,sA 1 1 11 0],[(1,(CV.frzRow (Bridge.row x0)))]⟩ kr ?_
 cases h2 : (decide ((x0.Name.size : Int) ≤ 10))
 ·have H := bifF h2 H
  refine uD tOk 23 4 0 kr kr ?_
  exact te (by obtain rfl := si H; exact fO [(false,[cB false])] kr rfl rfl)
 have H := bifT h2 H
 refine lU tOk 2 kr ?_
 refine lL tOk 35 3 167 29 30 (some (9,true)) ⟨(.slot 29),[],0,false,8,(CV.frzEs (x0.Ports.map Pt.row))⟩ (x0.Ports).length _ kr kr kr kr kr (frz_len _ _) rfl ?_
 obtain ⟨r3,er3,H⟩ := bind_some H
 refine lV tOk [.rd,.rd,.rd] [] (spec_l1In n (x0.Ports.length : Int) 1 6 r3 er3) kr kr kr kr (.inl rfl) ?_
 refine lU tOk 2 kr ?_
 refine lT ⟨50,0,[sB 33 r3,sB 32 r3,sB 31 r3,sI 30 (x0.Ports.length : Int),sC 29 (cF 8 x0.Ports Pt.row),sA 28 1 11 2,sB 27 true,sB 26 true,sB 25 true,sI 24 (x0.Name.size : Int),sC 23 (cS x0.Name),sA 22 1 11 1,sB 21 true,sB 20 true,sI 19 x0.Id,sA 18 1 11 0,sA 1 1 11 0],[(1,(CV.frzRow (Bridge.row x0)))]⟩ kr ?_
 cases h3 : r3
 ·have H := bifF h3 H
  refine uD tOk 17 4 0 kr kr ?_
  exact te (by obtain rfl := si H; exact fO [(false,[cB false])] kr rfl rfl)
 have H := bifT h3 H
 refine lU tOk 2 kr ?_
 obtain ⟨r4,er4,H⟩ := bind_some H
 refine lV tOk [.rd] [] (spec_FdbOk n x0.F r4 er4) kr kr kr kr (.inl rfl) ?_
 refine lU tOk 2 kr ?_
 refine lT ⟨50,0,[sB 38 r4,sB 37 r4,sB 36 r4,sC 35 (cF 5 x0.F Fent.row),sA 34 1 11 3,sB 33 true,sB 32 true,sB 31 true,sI 30 (x0.Ports.length : Int),sC 29 (cF 8 x0.Ports Pt.row),sA 28 1 11 2,sB 27 true,sB 26 true,sB 25 true,sI 24 (x0.Name.size : Int),sC 23 (cS x0.Name),sA 22 1 11 1,sB 21 true,sB 20 true,sI 19 x0.Id,sA 18 1 11 0,sA 1 1 11 0],[(1,(CV.frzRow (Bridge.row x0)))]⟩ kr ?_
 cases h4 : r4
 ·have H := bifF h4 H
  refine uD tOk 12 4 0 kr kr ?_
  exact te (by obtain rfl := si H; exact fO [(false,[cB false])] kr rfl rfl)
 have H := bifT h4 H
 refine lU tOk 4 kr ?_
 refine lL tOk 35 3 167 42 43 (some (20,true)) ⟨(.slot 42),[],0,false,8,(CV.frzEs (x0.Ports.map Pt.row))⟩ (x0.Ports).length _ kr kr kr kr kr (frz_len _ _) rfl ?_
 obtain ⟨r5,er5,H⟩ := bind_some H
 refine lV tOk [.rd,.rd] [] (spec_VtabOk n x0.V (x0.Ports.length : Int) r5 er5) kr kr kr kr (.inl rfl) ?_
 refine lU tOk 2 kr ?_
 refine lT ⟨50,0,[sB 46 r5,sB 45 r5,sB 44 r5,sI 43 (x0.Ports.length : Int),sC 42 (cF 8 x0.Ports Pt.row),sA 41 1 11 2,sV 40 (((CV.frzRow (Bridge.row x0)).drop 4).take 2),sA 39 1 11 4,sB 38 true,sB 37 true,sB 36 true,sC 35 (cF 5 x0.F Fent.row),sA 34 1 11 3,sB 33 true,sB 32 true,sB 31 true,sI 30 (x0.Ports.length : Int),sC 29 (cF 8 x0.Ports Pt.row),sA 28 1 11 2,sB 27 true,sB 26 true,sB 25 true,sI 24 (x0.Name.size : Int),sC 23 (cS x0.Name),sA 22 1 11 1,sB 21 true,sB 20 true,sI 19 x0.Id,sA 18 1 11 0,sA 1 1 11 0],[(1,(CV.frzRow (Bridge.row x0)))]⟩ kr ?_
 cases h5 : r5
 ·have H := bifF h5 H
  refine uD tOk 4 4 0 kr kr ?_
  exact te (by obtain rfl := si H; exact fO [(false,[cB false])] kr rfl rfl)
 have H := bifT h5 H
 refine lU tOk 1 kr ?_
 obtain ⟨r6,er6,H⟩ := bind_some H
 refine lV tOk [.rd] [] (spec_l11Counts n x0 r6 er6) kr kr kr kr (.inl rfl) ?_
 refine uD tOk 2 4 0 kr kr ?_
 exact te (by obtain rfl := si H; exact fO [(false,[cB r6])] kr rfl rfl)
def spec_l11ThereF (n : Nat) (x0 : Bridge) (x1 : Int) : Option (Bool) :=
  ((spec_BridgeOkF n x0).bind fun r1 => (bif r1 then ((spec_l1InF n x1 0 (IntKind.wrap .i64 ((x0.Ports.length : Int) - 1))).bind fun r2 => (some r2)) else (some false)))
noncomputable abbrev G69 (k : Nat) := Rg Tryz.f69 k
theorem spec_l11There (n : Nat) (x0 : Bridge) (x1 : Int) (r : Bool) (H : spec_l11ThereF n x0 x1 = some r) : LCall Tryz.prog 69 [.val true (CV.frzRow (Bridge.row x0)),.val false [.lit (.int .i64 x1)]] [.val false [.lit (.bool r)]] [] := by
 refine LCall.of_body tOk Tryz.func69 rfl (c := (.seq (G69 0) (.seq (G69 1) .ret))) kr (Nat.le_of_ble_eq_true kr) 0 (rs := [.tmp 4]) rfl [] .nil [(false,[.lit (.bool r)])] [] [] fun cx => ?_
 show Tr _ _ _ ⟨15,0,[sV 0 (CV.frzRow (Bridge.row x0)),sI 1 x1],[]⟩ _
 unfold spec_l11ThereF at H
 refine tG tOk 2 6 4 kr kr ?_
 refine rU tOk 1 kr ?_
 obtain ⟨r1,er1,H⟩ := bind_some H
 refine lV tOk [.rd] [] (spec_BridgeOk n x0 r1 er1) kr kr kr kr (.inl rfl) ?_
 refine lU tOk 1 kr ?_
 refine lT ⟨15,0,[sB 7 r1,sB 6 r1,sV 5 (CV.frzRow (Bridge.row x0)),sA 2 2 11 0,sI 1 x1],[(2,(CV.frzRow (Bridge.row x0)))]⟩ kr ?_
 cases h1 : r1
 ·have H := bifF h1 H
  refine uD tOk 8 16 0 kr kr ?_
  exact te (by obtain rfl := si H; exact fO [(false,[cB false])] kr rfl rfl)
 have H := bifT h1 H
 refine lU tOk 3 kr ?_
 refine lL tOk 35 3 167 10 11 (some (2,true)) ⟨(.slot 10),[],0,false,8,(CV.frzEs (x0.Ports.map Pt.row))⟩ (x0.Ports).length _ kr kr kr kr kr (frz_len _ _) rfl ?_
 refine lU tOk 1 kr ?_
 obtain ⟨r2,er2,H⟩ := bind_some H
 refine lV tOk [.rd,.rd,.rd] [] (spec_l1In n x1 0 (IntKind.wrap .i64 ((x0.Ports.length : Int) - 1)) r2 er2) kr kr kr kr (.inl rfl) ?_
 refine uD tOk 2 16 0 kr kr ?_
 exact te (by obtain rfl := si H; exact fO [(false,[cB r2])] kr rfl rfl)
def spec_FrameOkF (n : Nat) (x0 : Frame) : Option (Bool) :=
  ((spec_l1InF n x0.Dst 0 9999).bind fun r1 => (bif r1 then ((spec_l1InF n x0.Src 1 9999).bind fun r2 => (bif r2 then ((spec_l1InF n x0.Tag 0 99).bind fun r3 => (bif r3 then (some (decide ((x0.Data.length : Int) ≤ 20))) else (some false))) else (some false))) else (some false)))
noncomputable abbrev G70 (k : Nat) := Rg Tryz.f70 k
theorem spec_FrameOk (n : Nat) (x0 : Frame) (r : Bool) (H : spec_FrameOkF n x0 = some r) : LCall Tryz.prog 70 [.val true (CV.frzRow (Frame.row x0))] [.val false [.lit (.bool r)]] [] := by
 refine LCall.of_body tOk Tryz.func70 rfl (c := (.seq (G70 0) (.seq (G70 1) .ret))) kr (Nat.le_of_ble_eq_true kr) 0 (rs := [.tmp 2]) rfl [] .nil [(false,[.lit (.bool r)])] [] [] fun cx => ?_
 show Tr _ _ _ ⟨22,0,[sV 0 (CV.frzRow (Frame.row x0))],[]⟩ _
 unfold spec_FrameOkF at H
 refine tG tOk 2 2 2 kr kr ?_
 refine rU tOk 2 kr ?_
 obtain ⟨r1,er1,H⟩ := bind_some H
 refine lV tOk [.rd,.rd,.rd] [] (spec_l1In n x0.Dst 0 9999 r1 er1) kr kr kr kr (.inl rfl) ?_
 refine lU tOk 1 kr ?_
 refine lT ⟨22,0,[sB 6 r1,sB 5 r1,sI 4 x0.Dst,sA 3 1 4 0,sA 1 1 4 0],[(1,(CV.frzRow (Frame.row x0)))]⟩ kr ?_
 cases h1 : r1
 ·have H := bifF h1 H
  refine uD tOk 16 4 0 kr kr ?_
  exact te (by obtain rfl := si H; exact fO [(false,[cB false])] kr rfl rfl)
 have H := bifT h1 H
 refine lU tOk 2 kr ?_
 obtain ⟨r2,er2,H⟩ := bind_some H
 refine lV tOk [.rd,.rd,.rd] [] (spec_l1In n x0.Src 1 9999 r2 er2) kr kr kr kr (.inl rfl) ?_
 refine lU tOk 2 kr ?_
 refine lT ⟨22,0,[sB 11 r2,sB 10 r2,sB 9 r2,sI 8 x0.Src,sA 7 1 4 1,sB 6 true,sB 5 true,sI 4 x0.Dst,sA 3 1 4 0,sA 1 1 4 0],[(1,(CV.frzRow (Frame.row x0)))]⟩ kr ?_
 cases h2 : r2
 ·have H := bifF h2 H
  refine uD tOk 11 4 0 kr kr ?_
  exact te (by obtain rfl := si H; exact fO [(false,[cB false])] kr rfl rfl)
 have H := bifT h2 H
 refine lU tOk 2 kr ?_
 obtain ⟨r3,er3,H⟩ := bind_some H
 refine lV tOk [.rd,.rd,.rd] [] (spec_l1In n x0.Tag 0 99 r3 er3) kr kr kr kr (.inl rfl) ?_
 refine lU tOk 2 kr ?_
 refine lT ⟨22,0,[sB 16 r3,sB 15 r3,sB 14 r3,sI 13 x0.Tag,sA 12 1 4 2,sB 11 true,sB 10 true,sB 9 true,sI 8 x0.Src,sA 7 1 4 1,sB 6 true,sB 5 true,sI 4 x0.Dst,sA 3 1 4 0,sA 1 1 4 0],[(1,(CV.frzRow (Frame.row x0)))]⟩ kr ?_
 cases h3 : r3
 ·have H := bifF h3 H
  refine uD tOk 6 4 0 kr kr ?_
  exact te (by obtain rfl := si H; exact fO [(false,[cB false])] kr rfl rfl)
 have H := bifT h3 H
 refine lU tOk 2 kr ?_
 refine lL tOk 30 3 5 18 19 (some (13,true)) ⟨(.slot 18),[],0,false,1,(CV.frzEs (x0.Data.map byteRow))⟩ (x0.Data).length _ kr kr kr kr kr (frz_len _ _) rfl ?_
 refine uD tOk 3 4 0 kr kr ?_
 exact te (by obtain rfl := si H; exact fO [(false,[cB (decide ((x0.Data.length : Int) ≤ 20))])] kr rfl rfl)
def spec_StepVecF (n : Nat) (x0 : Vec) (x1 : Int) : Option (Vec × Bool) :=
  ((spec_VecOkF n x0).bind fun r1 => (bif (!r1) then (some (x0,false)) else ((spec_l1InF n x1 1 1000).bind fun r2 => (bif (!r2) then (some (x0,false)) else ((spec_VecOkF n (⟨x0.Root,(IntKind.wrap .i64 (x0.Cost + x1)),(IntKind.wrap .i64 (x0.Hops + 1)),x0.Bridge,x0.Port⟩ : Vec)).bind fun r3 => (bif (!r3) then (some (x0,false)) else (some ((⟨x0.Root,(IntKind.wrap .i64 (x0.Cost + x1)),(IntKind.wrap .i64 (x0.Hops + 1)),x0.Bridge,x0.Port⟩ : Vec),true))))))))
noncomputable abbrev G253 (k : Nat) := Rg Tryz.f253 k
theorem spec_StepVec (n : Nat) (x0 : Vec) (x1 : Int) (r : Vec × Bool) (H : spec_StepVecF n x0 x1 = some r) : LCall Tryz.prog 253 [.val true (CV.frzRow (Vec.row x0)),.val false [.lit (.int .i64 x1)]] [.val true (Vec.row r.1),.val false [.lit (.bool r.2)]] [] := by
 refine LCall.of_body tOk Tryz.func253 rfl (c := (.seq (G253 0) (.seq (.seq (G253 1) (.cond (.tmp 14) (.seq (G253 2) .ret) .skip)) (.seq (G253 3) (.seq (G253 4) (.seq (G253 5) (.seq (.seq (G253 6) (.cond (.tmp 28) (.seq (G253 7) .ret) .skip)) (.seq (G253 8) .ret)))))))) kr (Nat.le_of_ble_eq_true kr) 0 (rs := [.cell 4 165,.tmp 5]) rfl [] .nil [(true,(Vec.row r.1)),(false,[.lit (.bool r.2)])] [] [] fun cx => ?_
 show Tr _ _ _ ⟨31,0,[sV 0 (Vec.row x0),sI 1 x1],[]⟩ _
 unfold spec_StepVecF at H
 refine tG tOk 3 22 20 kr kr ?_
 refine tS ?_
 refine rU tOk 1 kr ?_
 obtain ⟨r1,er1,H⟩ := bind_some H
 refine lV tOk [.rd] [] (spec_VecOk n x0 r1 er1) kr kr kr kr (.inl rfl) ?_
 refine lU tOk 2 kr ?_
 refine lT ⟨31,0,[sB 10 (!r1),sB 9 (!r1),sB 8 r1,sV 7 (Vec.row x0),sA 4 4 5 0,sA 2 2 5 0,sI 1 x1],[(4,[cI 0,cI 0,cI 0,cI 0,cI 0]),(2,(Vec.row x0))]⟩ kr ?_
 cases h1 : (!r1)
 ·have H := bifF h1 H
  refine lU tOk 1 kr ?_
  obtain ⟨r2,er2,H⟩ := bind_some H
  refine lV tOk [.rd,.rd,.rd] [] (spec_l1In n x1 1 1000 r2 er2) kr kr kr kr (.inl rfl) ?_
  refine uD tOk 2 16406 20 kr kr ?_
  obtain ⟨h2,H⟩ | ⟨h2,H⟩ := bC H
  ·refine tF h2 kr ?_
   refine tK ?_
   refine tG tOk 3 86 84 kr kr ?_
   refine tG tOk 6 84 84 kr kr ?_
   refine tG tOk 5 84 84 kr kr ?_
   refine tS ?_
   refine rU tOk 1 kr ?_
   obtain ⟨r3,er3,H⟩ := bind_some H
   refine lV tOk [.rd] [] (spec_VecOk n (⟨x0.Root,(IntKind.wrap .i64 (x0.Cost + x1)),(IntKind.wrap .i64 (x0.Hops + 1)),x0.Bridge,x0.Port⟩ : Vec) r3 er3) kr kr kr kr (.inl rfl) ?_
   refine uD tOk 1 268435540 84 kr kr ?_
   obtain ⟨h3,H⟩ | ⟨h3,H⟩ := bC H
   ·refine tF h3 kr ?_
    refine tK ?_
    refine tG tOk 3 48 16 kr kr ?_
    exact te (by obtain rfl := si H; exact fO [(true,[cI x0.Root,cI (IntKind.wrap .i64 (x0.Cost + x1)),cI (IntKind.wrap .i64 (x0.Hops + 1)),cI x0.Bridge,cI x0.Port]),(false,[cB true])] kr rfl rfl)
   refine tT h3 kr ?_
   refine tG tOk 3 48 16 kr kr ?_
   exact te (by obtain rfl := si H; exact fO [(true,(Vec.row x0)),(false,[cB false])] kr rfl rfl)
  refine tT h2 kr ?_
  refine tG tOk 3 48 16 kr kr ?_
  exact te (by obtain rfl := si H; exact fO [(true,(Vec.row x0)),(false,[cB false])] kr rfl rfl)
 have H := bifT h1 H
 refine uD tOk 4 16406 20 kr kr ?_
 refine tt kr ?_
 refine tG tOk 3 48 16 kr kr ?_
 exact te (by obtain rfl := si H; exact fO [(true,(Vec.row x0)),(false,[cB false])] kr rfl rfl)
def spec_LessVecF (n : Nat) (x0 : Vec) (x1 : Vec) : Option (Bool) :=
  (bif (x0.Root != x1.Root) then (some (decide (x0.Root < x1.Root))) else (bif (x0.Cost != x1.Cost) then (some (decide (x0.Cost < x1.Cost))) else (bif (x0.Bridge != x1.Bridge) then (some (decide (x0.Bridge < x1.Bridge))) else (some (decide (x0.Port < x1.Port))))))
noncomputable abbrev G230 (k : Nat) := Rg Tryz.f230 k
theorem spec_LessVec (n : Nat) (x0 : Vec) (x1 : Vec) (r : Bool) (H : spec_LessVecF n x0 x1 = some r) : LCall Tryz.prog 230 [.val true (CV.frzRow (Vec.row x0)),.val true (CV.frzRow (Vec.row x1))] [.val false [.lit (.bool r)]] [] := by
 refine LCall.of_body tOk Tryz.func230 rfl (c := (.seq (G230 0) (.seq (.block 0 (.seq (G230 1) (.cond (.tmp 5) (.seq (G230 2) .ret) (.seq (G230 3) (.cond (.tmp 16) (.seq (G230 4) .ret) (.seq (G230 5) (.cond (.tmp 27) (.seq (G230 6) .ret) .skip))))))) (.seq (G230 7) .ret)))) kr (Nat.le_of_ble_eq_true kr) 0 (rs := [.tmp 4]) rfl [] .nil [(false,[.lit (.bool r)])] [] [] fun cx => ?_
 show Tr _ _ _ ⟨43,0,[sV 0 (Vec.row x0),sV 1 (Vec.row x1)],[]⟩ _
 unfold spec_LessVecF at H
 refine tG tOk 3 12 12 kr kr ?_
 refine tS ?_
 refine tB ?_
 refine tG tOk 6 44 12 kr kr ?_
 obtain ⟨h1,H⟩ | ⟨h1,H⟩ := bC H
 ·refine tF h1 kr ?_
  refine tG tOk 6 65548 12 kr kr ?_
  obtain ⟨h2,H⟩ | ⟨h2,H⟩ := bC H
  ·refine tF h2 kr ?_
   refine tG tOk 6 134217740 12 kr kr ?_
   obtain ⟨h3,H⟩ | ⟨h3,H⟩ := bC H
   ·refine tF h3 kr ?_
    refine tK ?_
    refine tG tOk 6 16 0 kr kr ?_
    exact te (by obtain rfl := si H; exact fO [(false,[cB (decide (x0.Port < x1.Port))])] kr rfl rfl)
   refine tT h3 kr ?_
   refine tG tOk 6 16 0 kr kr ?_
   exact te (by obtain rfl := si H; exact fO [(false,[cB (decide (x0.Bridge < x1.Bridge))])] kr rfl rfl)
  refine tT h2 kr ?_
  refine tG tOk 6 16 0 kr kr ?_
  exact te (by obtain rfl := si H; exact fO [(false,[cB (decide (x0.Cost < x1.Cost))])] kr rfl rfl)
 refine tT h1 kr ?_
 refine tG tOk 6 16 0 kr kr ?_
 exact te (by obtain rfl := si H; exact fO [(false,[cB (decide (x0.Root < x1.Root))])] kr rfl rfl)
def spec_BestVec_J1 (n : Nat) (x0 : Int) (y11 : Int) (y12 : Int) (y13 : Int) (y14 : Int) : Option (Vec × Int) :=
  (some ((⟨y12,y13,y14,x0,0⟩ : Vec),y11))
def spec_BestVec_J3 (n : Nat) (k : (Int × Int × Int × Int × Int × Int × Int × Int × Int × Int → Option ((Int × Int × Int × Int) ⊕ (Vec × Int)))) (r20 : Vec × Bool) (y1 : Int) (y10 : Int) (y2 : Int) (y3 : Int) (y4 : Int) (y5 : Int) (y6 : Int) (y7 : Int) (y8 : Int) (y9 : Int) (y21 : Bool) (y22 : Bool) (y23 : Bool) (y24 : Bool) (y25 : Bool) (y26 : Bool) (y27 : Bool) : Option ((Int × Int × Int × Int) ⊕ (Vec × Int)) :=
  (bif y21 then (k ((IntKind.wrap .i64 (y1 + 1)),y1,r20.1.Root,r20.1.Cost,r20.1.Hops,r20.1.Bridge,r20.1.Port,r20.1.Root,r20.1.Cost,r20.1.Hops)) else (k ((IntKind.wrap .i64 (y1 + 1)),y2,y3,y4,y5,y6,y7,y8,y9,y10)))
def spec_BestVec_L2 (n : Nat) : Nat → Int → (List Pt) → Int → Int → Int → Int → Int → Int → Int → Int → Int → Int → Option ((Int × Int × Int × Int) ⊕ (Vec × Int))
  | 0,_,_,_,_,_,_,_,_,_,_,_,_ => none
  | mo15 + 1,x0,x1,y1,y2,y3,y4,y5,y6,y7,y8,y9,y10 => (bif (decide (y1 < (x1.length : Int))) then ((idx x1 y1).bind fun v16 => (bif (!v16.Up) then (spec_BestVec_L2 n mo15 x0 x1 (IntKind.wrap .i64 (y1 + 1)) y2 y3 y4 y5 y6 y7 y8 y9 y10) else ((idx x1 y1).bind fun v17 => (bif (!v17.Has) then (spec_BestVec_L2 n mo15 x0 x1 (IntKind.wrap .i64 (y1 + 1)) y2 y3 y4 y5 y6 y7 y8 y9 y10) else ((idx x1 y1).bind fun v18 => ((idx x1 y1).bind fun v19 => ((spec_StepVecF n v18.Heard v19.Cost).bind fun r20 => (bif r20.2 then (bif (decide (r20.1.Root < x0)) then (bif (decide (y2 < 0)) then (spec_BestVec_J3 n (fun v => spec_BestVec_L2 n mo15 x0 x1 v.1 v.2.1 v.2.2.1 v.2.2.2.1 v.2.2.2.2.1 v.2.2.2.2.2.1 v.2.2.2.2.2.2.1 v.2.2.2.2.2.2.2.1 v.2.2.2.2.2.2.2.2.1 v.2.2.2.2.2.2.2.2.2) r20 y1 y10 y2 y3 y4 y5 y6 y7 y8 y9 true true true true true true true) else ((spec_LessVecF n r20.1 (⟨y3,y4,y5,y6,y7⟩ : Vec)).bind fun r28 => (spec_BestVec_J3 n (fun v => spec_BestVec_L2 n mo15 x0 x1 v.1 v.2.1 v.2.2.1 v.2.2.2.1 v.2.2.2.2.1 v.2.2.2.2.2.1 v.2.2.2.2.2.2.1 v.2.2.2.2.2.2.2.1 v.2.2.2.2.2.2.2.2.1 v.2.2.2.2.2.2.2.2.2) r20 y1 y10 y2 y3 y4 y5 y6 y7 y8 y9 r28 true true true true true true))) else (spec_BestVec_J3 n (fun v => spec_BestVec_L2 n mo15 x0 x1 v.1 v.2.1 v.2.2.1 v.2.2.2.1 v.2.2.2.2.1 v.2.2.2.2.2.1 v.2.2.2.2.2.2.1 v.2.2.2.2.2.2.2.1 v.2.2.2.2.2.2.2.2.1 v.2.2.2.2.2.2.2.2.2) r20 y1 y10 y2 y3 y4 y5 y6 y7 y8 y9 false false false true true true true)) else (spec_BestVec_J3 n (fun v => spec_BestVec_L2 n mo15 x0 x1 v.1 v.2.1 v.2.2.1 v.2.2.2.1 v.2.2.2.2.1 v.2.2.2.2.2.1 v.2.2.2.2.2.2.1 v.2.2.2.2.2.2.2.1 v.2.2.2.2.2.2.2.2.1 v.2.2.2.2.2.2.2.2.2) r20 y1 y10 y2 y3 y4 y5 y6 y7 y8 y9 false false false false false false false))))))))) else (some (Sum.inl (y2,y8,y9,y10))))
def spec_BestVecF (n : Nat) (x0 : Int) (x1 : (List Pt)) : Option (Vec × Int) :=
  ((spec_BestVec_L2 n n x0 x1 0 (-1) 0 0 0 0 0 x0 0 0).bind fun o => match o with | .inl (y11,y12,y13,y14) => (spec_BestVec_J1 n x0 y11 y12 y13 y14) | .inr r => some r)
noncomputable abbrev G229 (k : Nat) := Rg Tryz.f229 k
noncomputable abbrev D229 (k : Nat) := Rd Tryz.f229 k
theorem spec_BestVec (n : Nat) (x0 : Int) (x1 : (List Pt)) (r : Vec × Int) (H : spec_BestVecF n x0 x1 = some r) : LCall Tryz.prog 229 [.val false [.lit (.int .i64 x0)],.val false [.sl false 8 (CV.frzEs (x1.map Pt.row))]] [.val true (Vec.row r.1),.val false [.lit (.int .i64 r.2)]] [] := by
 refine LCall.of_body tOk Tryz.func229 rfl (c := (.seq (G229 0) (.seq (G229 1) (.seq (G229 2) (.seq (G229 3) (.seq (.seq (G229 4) (.block 0 (.loop (.seq (.seq (G229 5) (.cond (.tmp 19) .skip (.exit 0))) (.seq (.block 1 (.seq (.seq (G229 7) (.cond (.tmp 35) (.exit 1) .skip)) (.seq (D229 8) (.seq (G229 9) (.cond (.tmp 65) (.seq (G229 10) (.seq (G229 11) (G229 12))) .skip))))) (G229 6)))))) (.seq (G229 13) .ret))))))) kr (Nat.le_of_ble_eq_true kr) 0 (rs := [.cell 4 165,.tmp 5]) rfl [] .nil [(true,(Vec.row r.1)),(false,[.lit (.int .i64 r.2)])] [] [] fun cx => ?_
 show Tr _ _ _ ⟨78,0,[sI 0 x0,sC 1 (cF 8 x1 Pt.row)],[]⟩ _
 unfold spec_BestVecF at H
 refine tG tOk 2 51 16 kr kr ?_
 refine tG tOk 5 115 80 kr kr ?_
 refine tG tOk 3 243 208 kr kr ?_
 refine tG tOk 1 499 208 kr kr ?_
 refine tS ?_
 refine tG tOk 1 1011 208 kr kr ?_
 obtain ⟨o15,eo15,Ho15⟩ := bind_some H
 clear H
 refine Tr.mid (ι := Int × Int × Int × Int) (fun v => ⟨78,0,[sI 8 v.1,sA 6 6 5 0,sI 5 0,sA 4 4 5 0],[(6,[cI v.2.1,cI v.2.2.1,cI v.2.2.2,cI x0,cI 0]),(4,[cI 0,cI 0,cI 0,cI 0,cI 0])]⟩) (fun v => spec_BestVec_J1 n x0 v.1 v.2.1 v.2.2.1 v.2.2.2 = some r) ?_ ?_
 ·refine tB ?_
  refine Tr.loop (ι := Nat × (Int × Int × Int × Int × Int × Int × Int × Int × Int × Int)) (fun v => ⟨78,0,[sI 9 v.2.1,sI 8 v.2.2.1,sA 7 7 5 0,sA 6 6 5 0,sI 5 0,sA 4 4 5 0,sI 0 x0,sC 1 (cF 8 x1 Pt.row)],[(7,[cI v.2.2.2.1,cI v.2.2.2.2.1,cI v.2.2.2.2.2.1,cI v.2.2.2.2.2.2.1,cI v.2.2.2.2.2.2.2.1]),(6,[cI v.2.2.2.2.2.2.2.2.1,cI v.2.2.2.2.2.2.2.2.2.1,cI v.2.2.2.2.2.2.2.2.2.2,cI x0,cI 0]),(4,[cI 0,cI 0,cI 0,cI 0,cI 0])]⟩) (fun v => spec_BestVec_L2 n v.1 x0 x1 v.2.1 v.2.2.1 v.2.2.2.1 v.2.2.2.2.1 v.2.2.2.2.2.1 v.2.2.2.2.2.2.1 v.2.2.2.2.2.2.2.1 v.2.2.2.2.2.2.2.2.1 v.2.2.2.2.2.2.2.2.2.1 v.2.2.2.2.2.2.2.2.2.2 = some o15) (fun v => v.1) (n,(0,(-1),0,0,0,0,0,x0,0,0)) eo15 (St.sub_of [9,8,7,6,5,4,0,1] [7,6,4] kr) ?_
  rintro ⟨mo15,y1,y2,y3,y4,y5,y6,y7,y8,y9,y10⟩ H
  have H : spec_BestVec_L2 n mo15 x0 x1 y1 y2 y3 y4 y5 y6 y7 y8 y9 y10 = some o15 := H
  obtain _ | mo15 := mo15
  ·cases (show (none : Option _) = some o15 from H)
  rw [spec_BestVec_L2] at H
  refine tS ?_
  refine rU tOk 2 kr ?_
  refine lL tOk 35 3 167 17 18 none ⟨(.slot 17),[],0,false,8,(CV.frzEs (x1.map Pt.row))⟩ (x1).length _ kr kr kr kr kr (frz_len _ _) rfl ?_
  refine uD tOk 1 984051 208 kr kr ?_
  obtain ⟨h1,H⟩ | ⟨h1,H⟩ := bC H
  ·refine tF h1 kr ?_
   refine Tr.exit ?_
   refine And.intro (fun _ => ?_) (fun h => absurd rfl h)
   obtain rfl := si H
   have H := Ho15
   dsimp only at H
   exact jn (y2,y8,y9,y10) H (sB_ [8,6,5,4] [6,4] kr)
  refine tT h1 kr ?_
  refine tK ?_
  refine tS ?_
  refine tB ?_
  refine tS ?_
  refine rU tOk 2 kr ?_
  obtain ⟨v16,ev16,H⟩ := bind_some H
  refine lI tOk 35 0 22 23 24 none ⟨(.slot 22),[],0,false,8,(CV.frzEs (x1.map Pt.row))⟩ y1 (Pt.row v16) _ kr kr kr kr rfl (idx_isF ev16) rfl ?_
  refine lU tOk 4 kr ?_
  refine lT ⟨78,0,[sB 28 (!v16.Up),sB 27 (!v16.Up),sB 26 v16.Up,(25,.fad ((Pt.row v16))),(24,.fad ((Pt.row v16))),sI 23 y1,sC 22 (cF 8 x1 Pt.row),sB 19 (decide (y1 < (x1.length : Int))),sI 18 (x1.length : Int),sC 17 (cF 8 x1 Pt.row),sI 16 y1,sI 9 y1,sI 8 y2,sA 7 7 5 0,sA 6 6 5 0,sI 5 0,sA 4 4 5 0,sI 0 x0,sC 1 (cF 8 x1 Pt.row)],[(7,[cI y3,cI y4,cI y5,cI y6,cI y7]),(6,[cI y8,cI y9,cI y10,cI x0,cI 0]),(4,[cI 0,cI 0,cI 0,cI 0,cI 0])]⟩ kr ?_
  cases h2 : (!v16.Up)
  ·have H := bifF h2 H
   refine lU tOk 2 kr ?_
   obtain ⟨v17,ev17,H⟩ := bind_some H
   refine lI tOk 35 0 29 30 31 (some (6,false)) ⟨(.slot 29),[],0,false,8,(CV.frzEs (x1.map Pt.row))⟩ y1 (Pt.row v17) _ kr kr kr kr rfl (idx_isF ev17) rfl ?_
   refine uD tOk 4 68716266483 208 kr kr ?_
   obtain ⟨h3,H⟩ | ⟨h3,H⟩ := bC H
   ·refine tF h3 kr ?_
    refine tK ?_
    obtain ⟨v18,ev18,H⟩ := bind_some H
    obtain ⟨v19,ev19,H⟩ := bind_some H
    obtain ⟨r20,er20,H⟩ := bind_some H
    refine Tr.draws mixed 17 kr ⟨78,0,[sB 11 r20.2,sA 10 10 5 0,sB 49 r20.2,(36,.tup [(true,[.dead,.dead,.dead,.dead,.dead]),(false,[.dead])]),sV 48 (Vec.row r20.1),sI 46 v19.Cost,(45,.fad (((Pt.row v19).drop 1))),(44,.fad ((Pt.row v19))),sI 43 y1,sC 42 (cF 8 x1 Pt.row),sV 41 ((Pt.row v18).drop 3),(40,.fad (((Pt.row v18).drop 3))),(39,.fad ((Pt.row v18))),sI 38 y1,sC 37 (cF 8 x1 Pt.row),sB 35 (!v17.Has),sB 34 (!v17.Has),sB 33 v17.Has,(32,.fad (((Pt.row v17).drop 2))),(31,.fad ((Pt.row v17))),sI 30 y1,sC 29 (cF 8 x1 Pt.row),sB 28 false,sB 27 false,sB 26 v16.Up,(25,.fad ((Pt.row v16))),(24,.fad ((Pt.row v16))),sI 23 y1,sC 22 (cF 8 x1 Pt.row),sB 19 (decide (y1 < (x1.length : Int))),sI 18 (x1.length : Int),sC 17 (cF 8 x1 Pt.row),sI 16 y1,sI 9 y1,sI 8 y2,sA 7 7 5 0,sA 6 6 5 0,sI 5 0,sA 4 4 5 0,sI 0 x0,sC 1 (cF 8 x1 Pt.row)],[(10,(Vec.row r20.1)),(7,[cI y3,cI y4,cI y5,cI y6,cI y7]),(6,[cI y8,cI y9,cI y10,cI x0,cI 0]),(4,[cI 0,cI 0,cI 0,cI 0,cI 0])]⟩ (fun cx => ?_) ?_
    ·refine aU tOk [(0,[]),(1,[])] 15 [] [1,0] rfl kr (fun cx => ?_)
     refine aI tOk 2 35 0 37 38 39 none ⟨(.slot 37),[],0,false,8,(CV.frzEs (x1.map Pt.row))⟩ y1 (Pt.row v18) _ kr kr kr kr kr kr rfl (idx_isF ev18) rfl (fun cx => ?_)
     refine aU tOk [(3,[]),(4,[]),(5,[]),(6,[])] 10 [] [6,5,4,3,2,1,0] rfl kr (fun cx => ?_)
     refine aI tOk 7 35 0 42 43 44 none ⟨(.slot 42),[],0,false,8,(CV.frzEs (x1.map Pt.row))⟩ y1 (Pt.row v19) _ kr kr kr kr kr kr rfl (idx_isF ev19) rfl (fun cx => ?_)
     refine aU tOk [(8,[]),(9,[])] 7 [] [9,8,7,6,5,4,3,2,1,0] rfl kr (fun cx => ?_)
     refine AT.big2 tOk 10 14 kr (And.intro kr ?_) (And.intro kr ?_)
     ·refine lV tOk [.rd,.rd] [] (spec_StepVec n v18.Heard v19.Cost r20 er20) kr kr kr kr (.inl rfl) ?_
      refine lF kr kr kr ?_
      refine AT.movT tOk 11 (ty := 255) (t := 47) (d := 36) (g := none) [(true,(Vec.row r20.1)),(false,[cB r20.2])] _ kr kr kr (.inl rfl) kr kr kr kr rfl (fun cx => ?_)
      refine aU tOk [(12,[]),(13,[])] 3 [] [13,12,11,10,9,8,7,6,5,4,3,2,1,0] rfl kr (fun cx => ?_)
      refine AT.big1 tOk 14 kr kr ?_
      refine lU tOk 1 kr ?_
      refine lF kr kr kr ?_
      refine AT.big1 tOk 15 kr kr ?_
      refine lU tOk 1 kr ?_
      refine lF kr kr kr ?_
      refine aU tOk [(16,[])] 0 [] [16,15,14,13,12,11,10,9,8,7,6,5,4,3,2,1,0] rfl kr (fun cx => ?_)
      exact AT.done [11,10,49,36,48,46,45,44,43,42,41,40,39,38,37,35,34,33,32,31,30,29,28,27,26,25,24,23,22,19,18,17,16,9,8,7,6,5,4,0,1] [10,7,6,4] _ kr kr rfl
     ·refine lU tOk 1 kr ?_
      refine lF kr kr kr ?_
      refine AT.big1 tOk 10 kr kr ?_
      refine lV tOk [.rd,.rd] [] (spec_StepVec n v18.Heard v19.Cost r20 er20) kr kr kr kr (.inl rfl) ?_
      refine lF kr kr kr ?_
      refine AT.movT tOk 11 (ty := 255) (t := 47) (d := 36) (g := none) [(true,(Vec.row r20.1)),(false,[cB r20.2])] _ kr kr kr (.inl rfl) kr kr kr kr rfl (fun cx => ?_)
      refine aU tOk [(12,[]),(13,[])] 2 [] [13,12,11,10,14,9,8,7,6,5,4,3,2,1,0] rfl kr (fun cx => ?_)
      refine AT.big1 tOk 15 kr kr ?_
      refine lU tOk 1 kr ?_
      refine lF kr kr kr ?_
      refine aU tOk [(16,[])] 0 [] [16,15,13,12,11,10,14,9,8,7,6,5,4,3,2,1,0] rfl kr (fun cx => ?_)
      exact AT.done [11,10,49,36,48,46,45,44,43,42,41,40,39,38,37,35,34,33,32,31,30,29,28,27,26,25,24,23,22,19,18,17,16,9,8,7,6,5,4,0,1] [10,7,6,4] _ kr kr rfl
    refine tS ?_
    refine Tr.mid (ι := Bool × Bool × Bool × Bool × Bool × Bool × Bool) (fun v => ⟨78,0,[sB 65 v.1,sB 57 v.2.1,sB 56 v.2.2.1,sB 51 v.2.2.2.1,sB 50 v.2.2.2.2.1,sB 11 v.2.2.2.2.2.1,sA 10 10 5 0,sB 49 v.2.2.2.2.2.2,(36,.tup [(true,[.dead,.dead,.dead,.dead,.dead]),(false,[.dead])]),sV 48 (Vec.row r20.1),sI 46 v19.Cost,(45,.fad (((Pt.row v19).drop 1))),(44,.fad ((Pt.row v19))),sI 43 y1,sC 42 (cF 8 x1 Pt.row),sV 41 ((Pt.row v18).drop 3),(40,.fad (((Pt.row v18).drop 3))),(39,.fad ((Pt.row v18))),sI 38 y1,sC 37 (cF 8 x1 Pt.row),sB 35 false,sB 34 false,sB 33 v17.Has,(32,.fad (((Pt.row v17).drop 2))),(31,.fad ((Pt.row v17))),sI 30 y1,sC 29 (cF 8 x1 Pt.row),sB 28 false,sB 27 false,sB 26 v16.Up,(25,.fad ((Pt.row v16))),(24,.fad ((Pt.row v16))),sI 23 y1,sC 22 (cF 8 x1 Pt.row),sB 19 true,sI 18 (x1.length : Int),sC 17 (cF 8 x1 Pt.row),sI 16 y1,sI 9 y1,sI 8 y2,sA 7 7 5 0,sA 6 6 5 0,sI 5 0,sA 4 4 5 0,sI 0 x0,sC 1 (cF 8 x1 Pt.row)],[(10,(Vec.row r20.1)),(7,[cI y3,cI y4,cI y5,cI y6,cI y7]),(6,[cI y8,cI y9,cI y10,cI x0,cI 0]),(4,[cI 0,cI 0,cI 0,cI 0,cI 0])]⟩) (fun v => spec_BestVec_J3 n (fun v => spec_BestVec_L2 n mo15 x0 x1 v.1 v.2.1 v.2.2.1 v.2.2.2.1 v.2.2.2.2.1 v.2.2.2.2.2.1 v.2.2.2.2.2.2.1 v.2.2.2.2.2.2.2.1 v.2.2.2.2.2.2.2.2.1 v.2.2.2.2.2.2.2.2.2) r20 y1 y10 y2 y3 y4 y5 y6 y7 y8 y9 v.1 v.2.1 v.2.2.1 v.2.2.2.1 v.2.2.2.2.1 v.2.2.2.2.2.1 v.2.2.2.2.2.2 = some o15) ?_ ?_
    ·refine Tr.at ?_
     refine lU tOk 2 kr ?_
     refine lT ⟨78,0,[sB 51 r20.2,sB 50 r20.2,sB 11 r20.2,sA 10 10 5 0,sB 49 r20.2,(36,.tup [(true,[.dead,.dead,.dead,.dead,.dead]),(false,[.dead])]),sV 48 (Vec.row r20.1),sI 46 v19.Cost,(45,.fad (((Pt.row v19).drop 1))),(44,.fad ((Pt.row v19))),sI 43 y1,sC 42 (cF 8 x1 Pt.row),sV 41 ((Pt.row v18).drop 3),(40,.fad (((Pt.row v18).drop 3))),(39,.fad ((Pt.row v18))),sI 38 y1,sC 37 (cF 8 x1 Pt.row),sB 35 (!v17.Has),sB 34 (!v17.Has),sB 33 v17.Has,(32,.fad (((Pt.row v17).drop 2))),(31,.fad ((Pt.row v17))),sI 30 y1,sC 29 (cF 8 x1 Pt.row),sB 28 false,sB 27 false,sB 26 v16.Up,(25,.fad ((Pt.row v16))),(24,.fad ((Pt.row v16))),sI 23 y1,sC 22 (cF 8 x1 Pt.row),sB 19 (decide (y1 < (x1.length : Int))),sI 18 (x1.length : Int),sC 17 (cF 8 x1 Pt.row),sI 16 y1,sI 9 y1,sI 8 y2,sA 7 7 5 0,sA 6 6 5 0,sI 5 0,sA 4 4 5 0,sI 0 x0,sC 1 (cF 8 x1 Pt.row)],[(10,(Vec.row r20.1)),(7,[cI y3,cI y4,cI y5,cI y6,cI y7]),(6,[cI y8,cI y9,cI y10,cI x0,cI 0]),(4,[cI 0,cI 0,cI 0,cI 0,cI 0])]⟩ kr ?_
     cases h5 : r20.2
     ·have H := bifF h5 H
      refine uD tOk 14 0x3ffff7fffffcf0ff3 1232 kr kr ?_
      refine Sb.to ⟨78,0,[sB 65 false,(64,.tup []),(63,.tup []),(62,.tup []),(61,.tup []),(60,.tup []),(59,.tup []),(58,.tup []),sB 57 false,sB 56 false,(55,.tup []),(54,.tup []),(53,.tup []),(52,.tup []),sB 51 false,sB 50 false,sB 11 false,sA 10 10 5 0,sB 49 false,(36,.tup [(true,[.dead,.dead,.dead,.dead,.dead]),(false,[.dead])]),sV 48 (Vec.row r20.1),sI 46 v19.Cost,(45,.fad (((Pt.row v19).drop 1))),(44,.fad ((Pt.row v19))),sI 43 y1,sC 42 (cF 8 x1 Pt.row),sV 41 ((Pt.row v18).drop 3),(40,.fad (((Pt.row v18).drop 3))),(39,.fad ((Pt.row v18))),sI 38 y1,sC 37 (cF 8 x1 Pt.row),sB 35 (!v17.Has),sB 34 (!v17.Has),sB 33 v17.Has,(32,.fad (((Pt.row v17).drop 2))),(31,.fad ((Pt.row v17))),sI 30 y1,sC 29 (cF 8 x1 Pt.row),sB 28 false,sB 27 false,sB 26 v16.Up,(25,.fad ((Pt.row v16))),(24,.fad ((Pt.row v16))),sI 23 y1,sC 22 (cF 8 x1 Pt.row),sB 19 (decide (y1 < (x1.length : Int))),sI 18 (x1.length : Int),sC 17 (cF 8 x1 Pt.row),sI 16 y1,sI 9 y1,sI 8 y2,sA 7 7 5 0,sA 6 6 5 0,sI 5 0,sA 4 4 5 0,sI 0 x0,sC 1 (cF 8 x1 Pt.row)],[(10,(Vec.row r20.1)),(7,[cI y3,cI y4,cI y5,cI y6,cI y7]),(6,[cI y8,cI y9,cI y10,cI x0,cI 0]),(4,[cI 0,cI 0,cI 0,cI 0,cI 0])]⟩ kr ?_
      rw [h1]
      rw [h3]
      exact jn (false,false,false,false,false,false,false) H (sB_ [65,57,56,51,50,11,10,49,36,48,46,45,44,43,42,41,40,39,38,37,35,34,33,32,31,30,29,28,27,26,25,24,23,22,19,18,17,16,9,8,7,6,5,4,0,1] [10,7,6,4] kr)
     have H := bifT h5 H
     refine lU tOk 6 kr ?_
     refine lT ⟨78,0,[sB 57 (decide (r20.1.Root < x0)),sB 56 (decide (r20.1.Root < x0)),sB 55 (decide (r20.1.Root < x0)),sI 54 x0,sI 53 r20.1.Root,sA 52 10 5 0,sB 51 true,sB 50 true,sB 11 true,sA 10 10 5 0,sB 49 true,(36,.tup [(true,[.dead,.dead,.dead,.dead,.dead]),(false,[.dead])]),sV 48 (Vec.row r20.1),sI 46 v19.Cost,(45,.fad (((Pt.row v19).drop 1))),(44,.fad ((Pt.row v19))),sI 43 y1,sC 42 (cF 8 x1 Pt.row),sV 41 ((Pt.row v18).drop 3),(40,.fad (((Pt.row v18).drop 3))),(39,.fad ((Pt.row v18))),sI 38 y1,sC 37 (cF 8 x1 Pt.row),sB 35 (!v17.Has),sB 34 (!v17.Has),sB 33 v17.Has,(32,.fad (((Pt.row v17).drop 2))),(31,.fad ((Pt.row v17))),sI 30 y1,sC 29 (cF 8 x1 Pt.row),sB 28 false,sB 27 false,sB 26 v16.Up,(25,.fad ((Pt.row v16))),(24,.fad ((Pt.row v16))),sI 23 y1,sC 22 (cF 8 x1 Pt.row),sB 19 (decide (y1 < (x1.length : Int))),sI 18 (x1.length : Int),sC 17 (cF 8 x1 Pt.row),sI 16 y1,sI 9 y1,sI 8 y2,sA 7 7 5 0,sA 6 6 5 0,sI 5 0,sA 4 4 5 0,sI 0 x0,sC 1 (cF 8 x1 Pt.row)],[(10,(Vec.row r20.1)),(7,[cI y3,cI y4,cI y5,cI y6,cI y7]),(6,[cI y8,cI y9,cI y10,cI x0,cI 0]),(4,[cI 0,cI 0,cI 0,cI 0,cI 0])]⟩ kr ?_
     cases h6 : (decide (r20.1.Root < x0))
     ·have H := bifF h6 H
      refine uD tOk 8 0x3ffff7fffffcf0ff3 1232 kr kr ?_
      refine Sb.to ⟨78,0,[sB 65 false,(64,.tup []),(63,.tup []),(62,.tup []),(61,.tup []),(60,.tup []),(59,.tup []),(58,.tup []),sB 57 false,sB 56 false,sB 55 false,sI 54 x0,sI 53 r20.1.Root,sA 52 10 5 0,sB 51 true,sB 50 true,sB 11 true,sA 10 10 5 0,sB 49 true,(36,.tup [(true,[.dead,.dead,.dead,.dead,.dead]),(false,[.dead])]),sV 48 (Vec.row r20.1),sI 46 v19.Cost,(45,.fad (((Pt.row v19).drop 1))),(44,.fad ((Pt.row v19))),sI 43 y1,sC 42 (cF 8 x1 Pt.row),sV 41 ((Pt.row v18).drop 3),(40,.fad (((Pt.row v18).drop 3))),(39,.fad ((Pt.row v18))),sI 38 y1,sC 37 (cF 8 x1 Pt.row),sB 35 (!v17.Has),sB 34 (!v17.Has),sB 33 v17.Has,(32,.fad (((Pt.row v17).drop 2))),(31,.fad ((Pt.row v17))),sI 30 y1,sC 29 (cF 8 x1 Pt.row),sB 28 false,sB 27 false,sB 26 v16.Up,(25,.fad ((Pt.row v16))),(24,.fad ((Pt.row v16))),sI 23 y1,sC 22 (cF 8 x1 Pt.row),sB 19 (decide (y1 < (x1.length : Int))),sI 18 (x1.length : Int),sC 17 (cF 8 x1 Pt.row),sI 16 y1,sI 9 y1,sI 8 y2,sA 7 7 5 0,sA 6 6 5 0,sI 5 0,sA 4 4 5 0,sI 0 x0,sC 1 (cF 8 x1 Pt.row)],[(10,(Vec.row r20.1)),(7,[cI y3,cI y4,cI y5,cI y6,cI y7]),(6,[cI y8,cI y9,cI y10,cI x0,cI 0]),(4,[cI 0,cI 0,cI 0,cI 0,cI 0])]⟩ kr ?_
      rw [h1]
      rw [h3]
      exact jn (false,false,false,true,true,true,true) H (sB_ [65,57,56,51,50,11,10,49,36,48,46,45,44,43,42,41,40,39,38,37,35,34,33,32,31,30,29,28,27,26,25,24,23,22,19,18,17,16,9,8,7,6,5,4,0,1] [10,7,6,4] kr)
     have H := bifT h6 H
     refine lU tOk 3 kr ?_
     refine lT ⟨78,0,[sB 60 (decide (y2 < 0)),sB 59 (decide (y2 < 0)),sI 58 y2,sB 57 true,sB 56 true,sB 55 true,sI 54 x0,sI 53 r20.1.Root,sA 52 10 5 0,sB 51 true,sB 50 true,sB 11 true,sA 10 10 5 0,sB 49 true,(36,.tup [(true,[.dead,.dead,.dead,.dead,.dead]),(false,[.dead])]),sV 48 (Vec.row r20.1),sI 46 v19.Cost,(45,.fad (((Pt.row v19).drop 1))),(44,.fad ((Pt.row v19))),sI 43 y1,sC 42 (cF 8 x1 Pt.row),sV 41 ((Pt.row v18).drop 3),(40,.fad (((Pt.row v18).drop 3))),(39,.fad ((Pt.row v18))),sI 38 y1,sC 37 (cF 8 x1 Pt.row),sB 35 (!v17.Has),sB 34 (!v17.Has),sB 33 v17.Has,(32,.fad (((Pt.row v17).drop 2))),(31,.fad ((Pt.row v17))),sI 30 y1,sC 29 (cF 8 x1 Pt.row),sB 28 false,sB 27 false,sB 26 v16.Up,(25,.fad ((Pt.row v16))),(24,.fad ((Pt.row v16))),sI 23 y1,sC 22 (cF 8 x1 Pt.row),sB 19 (decide (y1 < (x1.length : Int))),sI 18 (x1.length : Int),sC 17 (cF 8 x1 Pt.row),sI 16 y1,sI 9 y1,sI 8 y2,sA 7 7 5 0,sA 6 6 5 0,sI 5 0,sA 4 4 5 0,sI 0 x0,sC 1 (cF 8 x1 Pt.row)],[(10,(Vec.row r20.1)),(7,[cI y3,cI y4,cI y5,cI y6,cI y7]),(6,[cI y8,cI y9,cI y10,cI x0,cI 0]),(4,[cI 0,cI 0,cI 0,cI 0,cI 0])]⟩ kr ?_
     cases h7 : (decide (y2 < 0))
     ·have H := bifF h7 H
      refine lU tOk 2 kr ?_
      obtain ⟨r28,er28,H⟩ := bind_some H
      refine lV tOk [.rd,.rd] [] (spec_LessVec n r20.1 (⟨y3,y4,y5,y6,y7⟩ : Vec) r28 er28) kr kr kr kr (.inl rfl) ?_
      refine uD tOk 2 0x3ffff7fffffcf0ff3 1232 kr kr ?_
      refine Sb.to ⟨78,0,[sB 65 r28,sB 64 r28,sB 63 r28,sV 62 [cI y3,cI y4,cI y5,cI y6,cI y7],sV 61 (Vec.row r20.1),sB 60 false,sB 59 false,sI 58 y2,sB 57 true,sB 56 true,sB 55 true,sI 54 x0,sI 53 r20.1.Root,sA 52 10 5 0,sB 51 true,sB 50 true,sB 11 true,sA 10 10 5 0,sB 49 true,(36,.tup [(true,[.dead,.dead,.dead,.dead,.dead]),(false,[.dead])]),sV 48 (Vec.row r20.1),sI 46 v19.Cost,(45,.fad (((Pt.row v19).drop 1))),(44,.fad ((Pt.row v19))),sI 43 y1,sC 42 (cF 8 x1 Pt.row),sV 41 ((Pt.row v18).drop 3),(40,.fad (((Pt.row v18).drop 3))),(39,.fad ((Pt.row v18))),sI 38 y1,sC 37 (cF 8 x1 Pt.row),sB 35 (!v17.Has),sB 34 (!v17.Has),sB 33 v17.Has,(32,.fad (((Pt.row v17).drop 2))),(31,.fad ((Pt.row v17))),sI 30 y1,sC 29 (cF 8 x1 Pt.row),sB 28 false,sB 27 false,sB 26 v16.Up,(25,.fad ((Pt.row v16))),(24,.fad ((Pt.row v16))),sI 23 y1,sC 22 (cF 8 x1 Pt.row),sB 19 (decide (y1 < (x1.length : Int))),sI 18 (x1.length : Int),sC 17 (cF 8 x1 Pt.row),sI 16 y1,sI 9 y1,sI 8 y2,sA 7 7 5 0,sA 6 6 5 0,sI 5 0,sA 4 4 5 0,sI 0 x0,sC 1 (cF 8 x1 Pt.row)],[(10,(Vec.row r20.1)),(7,[cI y3,cI y4,cI y5,cI y6,cI y7]),(6,[cI y8,cI y9,cI y10,cI x0,cI 0]),(4,[cI 0,cI 0,cI 0,cI 0,cI 0])]⟩ kr ?_
      rw [h1]
      rw [h3]
      exact jn (r28,true,true,true,true,true,true) H (sB_ [65,57,56,51,50,11,10,49,36,48,46,45,44,43,42,41,40,39,38,37,35,34,33,32,31,30,29,28,27,26,25,24,23,22,19,18,17,16,9,8,7,6,5,4,0,1] [10,7,6,4] kr)
     have H := bifT h7 H
     refine uD tOk 5 0x3ffff7fffffcf0ff3 1232 kr kr ?_
     refine Sb.to ⟨78,0,[sB 65 true,sB 64 true,(63,.tup []),(62,.tup []),(61,.tup []),sB 60 true,sB 59 true,sI 58 y2,sB 57 true,sB 56 true,sB 55 true,sI 54 x0,sI 53 r20.1.Root,sA 52 10 5 0,sB 51 true,sB 50 true,sB 11 true,sA 10 10 5 0,sB 49 true,(36,.tup [(true,[.dead,.dead,.dead,.dead,.dead]),(false,[.dead])]),sV 48 (Vec.row r20.1),sI 46 v19.Cost,(45,.fad (((Pt.row v19).drop 1))),(44,.fad ((Pt.row v19))),sI 43 y1,sC 42 (cF 8 x1 Pt.row),sV 41 ((Pt.row v18).drop 3),(40,.fad (((Pt.row v18).drop 3))),(39,.fad ((Pt.row v18))),sI 38 y1,sC 37 (cF 8 x1 Pt.row),sB 35 (!v17.Has),sB 34 (!v17.Has),sB 33 v17.Has,(32,.fad (((Pt.row v17).drop 2))),(31,.fad ((Pt.row v17))),sI 30 y1,sC 29 (cF 8 x1 Pt.row),sB 28 false,sB 27 false,sB 26 v16.Up,(25,.fad ((Pt.row v16))),(24,.fad ((Pt.row v16))),sI 23 y1,sC 22 (cF 8 x1 Pt.row),sB 19 (decide (y1 < (x1.length : Int))),sI 18 (x1.length : Int),sC 17 (cF 8 x1 Pt.row),sI 16 y1,sI 9 y1,sI 8 y2,sA 7 7 5 0,sA 6 6 5 0,sI 5 0,sA 4 4 5 0,sI 0 x0,sC 1 (cF 8 x1 Pt.row)],[(10,(Vec.row r20.1)),(7,[cI y3,cI y4,cI y5,cI y6,cI y7]),(6,[cI y8,cI y9,cI y10,cI x0,cI 0]),(4,[cI 0,cI 0,cI 0,cI 0,cI 0])]⟩ kr ?_
     rw [h1]
     rw [h3]
     exact jn (true,true,true,true,true,true,true) H (sB_ [65,57,56,51,50,11,10,49,36,48,46,45,44,43,42,41,40,39,38,37,35,34,33,32,31,30,29,28,27,26,25,24,23,22,19,18,17,16,9,8,7,6,5,4,0,1] [10,7,6,4] kr)
    rintro ⟨y21,y22,y23,y24,y25,y26,y27⟩ H
    have H : (spec_BestVec_J3 n (fun v => spec_BestVec_L2 n mo15 x0 x1 v.1 v.2.1 v.2.2.1 v.2.2.2.1 v.2.2.2.2.1 v.2.2.2.2.2.1 v.2.2.2.2.2.2.1 v.2.2.2.2.2.2.2.1 v.2.2.2.2.2.2.2.2.1 v.2.2.2.2.2.2.2.2.2) r20 y1 y10 y2 y3 y4 y5 y6 y7 y8 y9 y21 y22 y23 y24 y25 y26 y27) = some o15 := H
    unfold spec_BestVec_J3 at H
    cases h4 : y21
    ·have H := bifF h4 H
     refine tf kr ?_
     refine tK ?_
     refine tE tOk 3 0x2030f7fffffff0ff3 1232 kr kr ?_
     exact jn (mo15,((IntKind.wrap .i64 (y1 + 1)),y2,y3,y4,y5,y6,y7,y8,y9,y10)) H (sM mo15 [9,8,7,6,5,4,0,1] [7,6,4] kr)
    have H := bifT h4 H
    refine tt kr ?_
    refine tG tOk 2 0x6030f7fffffcf0ff3 1232 kr kr ?_
    refine tG tOk 2 0xe030f7fffffcf0ff3 1232 kr kr ?_
    refine tE tOk 9 0xffe030f7fffffcf0ff3 1232 kr kr ?_
    refine tE tOk 3 0xffe030f7fffffff0ff3 1232 kr kr ?_
    exact jn (mo15,((IntKind.wrap .i64 (y1 + 1)),y1,r20.1.Root,r20.1.Cost,r20.1.Hops,r20.1.Bridge,r20.1.Port,r20.1.Root,r20.1.Cost,r20.1.Hops)) H (sM mo15 [9,8,7,6,5,4,0,1] [7,6,4] kr)
   refine tT h3 kr ?_
   refine Tr.exit ?_
   refine And.intro (fun _ => ?_) (fun h => absurd rfl h)
   refine tE tOk 3 68719412211 208 kr kr ?_
   exact jn (mo15,((IntKind.wrap .i64 (y1 + 1)),y2,y3,y4,y5,y6,y7,y8,y9,y10)) H (sM mo15 [9,8,7,6,5,4,0,1] [7,6,4] kr)
  have H := bifT h2 H
  refine uD tOk 7 68716266483 208 kr kr ?_
  refine tt kr ?_
  refine Tr.exit ?_
  refine And.intro (fun _ => ?_) (fun h => absurd rfl h)
  refine tE tOk 3 68719412211 208 kr kr ?_
  exact jn (mo15,((IntKind.wrap .i64 (y1 + 1)),y2,y3,y4,y5,y6,y7,y8,y9,y10)) H (sM mo15 [9,8,7,6,5,4,0,1] [7,6,4] kr)
 rintro ⟨y11,y12,y13,y14⟩ H
 have H : (spec_BestVec_J1 n x0 y11 y12 y13 y14) = some r := H
 unfold spec_BestVec_J1 at H
 refine tG tOk 4 48 16 kr kr ?_
 exact te (by obtain rfl := si H; exact fO [(true,[cI y12,cI y13,cI y14,cI x0,cI 0]),(false,[cI y11])] kr rfl rfl)
def spec_SayVecF (n : Nat) (x0 : Int) (x1 : (List Pt)) (x2 : Int) : Option (Vec) :=
  ((spec_BestVecF n x0 x1).bind fun r1 => (some (⟨r1.1.Root,r1.1.Cost,r1.1.Hops,r1.1.Bridge,x2⟩ : Vec)))
noncomputable abbrev G231 (k : Nat) := Rg Tryz.f231 k
theorem spec_SayVec (n : Nat) (x0 : Int) (x1 : (List Pt)) (x2 : Int) (r : Vec) (H : spec_SayVecF n x0 x1 x2 = some r) : LCall Tryz.prog 231 [.val false [.lit (.int .i64 x0)],.val false [.sl false 8 (CV.frzEs (x1.map Pt.row))],.val false [.lit (.int .i64 x2)]] [.val true (Vec.row r)] [] := by
 refine LCall.of_body tOk Tryz.func231 rfl (c := (.seq (G231 0) (.seq (G231 1) (.seq (G231 2) (.seq (G231 3) .ret))))) kr (Nat.le_of_ble_eq_true kr) 0 (rs := [.cell 6 165]) rfl [] .nil [(true,(Vec.row r))] [] [] fun cx => ?_
 show Tr _ _ _ ⟨18,0,[sI 0 x0,sC 1 (cF 8 x1 Pt.row),sI 2 x2],[]⟩ _
 unfold spec_SayVecF at H
 refine tG tOk 1 71 64 kr kr ?_
 refine rU tOk 2 kr ?_
 obtain ⟨r1,er1,H⟩ := bind_some H
 refine lV tOk [.rd,.rd] [] (spec_BestVec n x0 x1 r1 er1) kr kr kr kr (.inl rfl) ?_
 refine LAt.movT tOk (ty := 233) (t := 12) (d := 9) (g := none) [(true,(Vec.row r1.1)),(false,[cI r1.2])] _ kr (.inl rfl) kr kr kr kr rfl ?_
 refine uD tOk 5 196 192 kr kr ?_
 refine tG tOk 3 192 192 kr kr ?_
 refine tG tOk 2 64 64 kr kr ?_
 exact te (by obtain rfl := si H; exact fO [(true,[cI r1.1.Root,cI r1.1.Cost,cI r1.1.Hops,cI r1.1.Bridge,cI x2])] kr rfl rfl)
def spec_RoleOfF (n : Nat) (x0 : Int) (x1 : (List Pt)) (x2 : Int) : Option (Int) :=
  ((spec_l1InF n x2 0 (IntKind.wrap .i64 ((x1.length : Int) - 1))).bind fun r1 => (bif (!r1) then (some 4) else ((idx x1 x2).bind fun v2 => (bif (!v2.Up) then (some 4) else ((spec_BestVecF n x0 x1).bind fun r3 => (bif (r3.2 == x2) then (some 1) else ((idx x1 x2).bind fun v4 => (bif (!v4.Has) then (some 2) else ((spec_SayVecF n x0 x1 x2).bind fun r5 => ((idx x1 x2).bind fun v6 => ((spec_LessVecF n r5 v6.Heard).bind fun r7 => (bif r7 then (some 2) else (some 3)))))))))))))
noncomputable abbrev G169 (k : Nat) := Rg Tryz.f169 k
noncomputable abbrev D169 (k : Nat) := Rd Tryz.f169 k
theorem spec_RoleOf (n : Nat) (x0 : Int) (x1 : (List Pt)) (x2 : Int) (r : Int) (H : spec_RoleOfF n x0 x1 x2 = some r) : LCall Tryz.prog 169 [.val false [.lit (.int .i64 x0)],.val false [.sl false 8 (CV.frzEs (x1.map Pt.row))],.val false [.lit (.int .i64 x2)]] [.val false [.lit (.int .i64 r)]] [] := by
 refine LCall.of_body tOk Tryz.func169 rfl (c := (.seq (G169 0) (.seq (.seq (G169 1) (.cond (.tmp 22) (.seq (G169 2) .ret) .skip)) (.seq (G169 3) (.seq (.block 0 (.seq (G169 4) (.cond (.tmp 29) (.seq (G169 5) .ret) (.seq (D169 6) (.cond (.tmp 33) (.seq (G169 7) .ret) .skip))))) (.seq (G169 8) .ret)))))) kr (Nat.le_of_ble_eq_true kr) 0 (rs := [.tmp 6]) rfl [] .nil [(false,[.lit (.int .i64 r)])] [] [] fun cx => ?_
 show Tr _ _ _ ⟨52,0,[sI 0 x0,sC 1 (cF 8 x1 Pt.row),sI 2 x2],[]⟩ _
 unfold spec_RoleOfF at H
 refine tG tOk 1 7 0 kr kr ?_
 refine tS ?_
 refine rU tOk 2 kr ?_
 refine lL tOk 35 3 167 10 11 none ⟨(.slot 10),[],0,false,8,(CV.frzEs (x1.map Pt.row))⟩ (x1).length _ kr kr kr kr kr (frz_len _ _) rfl ?_
 refine lU tOk 1 kr ?_
 obtain ⟨r1,er1,H⟩ := bind_some H
 refine lV tOk [.rd,.rd,.rd] [] (spec_l1In n x2 0 (IntKind.wrap .i64 ((x1.length : Int) - 1)) r1 er1) kr kr kr kr (.inl rfl) ?_
 refine lU tOk 2 kr ?_
 refine lT ⟨52,0,[sB 15 (!r1),sB 14 (!r1),sB 13 r1,sI 12 (IntKind.wrap .i64 ((x1.length : Int) - 1)),sI 11 (x1.length : Int),sC 10 (cF 8 x1 Pt.row),sI 9 x2,sI 0 x0,sC 1 (cF 8 x1 Pt.row),sI 2 x2],[]⟩ kr ?_
 cases h1 : (!r1)
 ·have H := bifF h1 H
  refine lU tOk 2 kr ?_
  obtain ⟨v2,ev2,H⟩ := bind_some H
  refine lI tOk 35 0 16 17 18 (some (6,false)) ⟨(.slot 16),[],0,false,8,(CV.frzEs (x1.map Pt.row))⟩ x2 (Pt.row v2) _ kr kr kr kr rfl (idx_isF ev2) rfl ?_
  refine uD tOk 4 4194311 0 kr kr ?_
  obtain ⟨h2,H⟩ | ⟨h2,H⟩ := bC H
  ·refine tF h2 kr ?_
   refine tK ?_
   refine rU tOk 2 kr ?_
   obtain ⟨r3,er3,H⟩ := bind_some H
   refine lV tOk [.rd,.rd] [] (spec_BestVec n x0 x1 r3 er3) kr kr kr kr (.inl rfl) ?_
   refine LAt.movT tOk (ty := 233) (t := 26) (d := 23) (g := none) [(true,(Vec.row r3.1)),(false,[cI r3.2])] _ kr (.inl rfl) kr kr kr kr rfl ?_
   refine uD tOk 5 263 0 kr kr ?_
   refine tS ?_
   refine tB ?_
   refine tG tOk 4 536870919 0 kr kr ?_
   obtain ⟨h3,H⟩ | ⟨h3,H⟩ := bC H
   ·refine tF h3 kr ?_
    obtain ⟨v4,ev4,H⟩ := bind_some H
    refine tO ⟨52,0,[sB 29 (r3.2 == x2),sI 0 x0,sC 1 (cF 8 x1 Pt.row),sI 2 x2],[]⟩ kr ?_
    cases h4 : (!v4.Has)
    ·have H := bifF h4 H
     obtain ⟨r5,er5,H⟩ := bind_some H
     obtain ⟨v6,ev6,H⟩ := bind_some H
     obtain ⟨r7,er7,H⟩ := bind_some H
     refine Tr.draws mixed 19 kr ⟨52,0,[sB 33 r7],[]⟩ (fun cx => ?_) ?_
     ·refine aU tOk [(0,[]),(1,[])] 17 [] [1,0] rfl kr (fun cx => ?_)
      refine aI tOk 2 35 0 34 35 36 none ⟨(.slot 34),[],0,false,8,(CV.frzEs (x1.map Pt.row))⟩ x2 (Pt.row v4) _ kr kr kr kr kr kr rfl (idx_isF ev4) rfl (fun cx => ?_)
      refine aU tOk [(3,[]),(4,[]),(5,[]),(6,[])] 12 [] [6,5,4,3,2,1,0] rfl kr (fun cx => ?_)
      refine aT ⟨52,0,[sB 40 (!v4.Has),sB 39 (!v4.Has),sB 38 v4.Has,(37,.fad (((Pt.row v4).drop 2))),(36,.fad ((Pt.row v4))),sI 35 x2,sC 34 (cF 8 x1 Pt.row),sB 29 (r3.2 == x2),sI 0 x0,sC 1 (cF 8 x1 Pt.row),sI 2 x2],[]⟩ kr ?_
      rw [h4]
      refine aU tOk [(7,[]),(8,[]),(9,[]),(11,[]),(12,[])] 7 [] [12,11,9,8,7,6,5,4,3,2,1,0] rfl kr (fun cx => ?_)
      refine aI tOk 13 35 0 45 46 47 (some (6,false)) ⟨(.slot 45),[],0,false,8,(CV.frzEs (x1.map Pt.row))⟩ x2 (Pt.row v6) _ kr kr kr kr kr kr rfl (idx_isF ev6) rfl (fun cx => ?_)
      refine aU tOk [(14,[]),(15,[])] 4 [] [15,14,13,12,11,9,8,7,6,5,4,3,2,1,0] rfl kr (fun cx => ?_)
      refine AT.big1 tOk 10 kr kr ?_
      refine lV tOk [.rd,.rd,.rd] [] (spec_SayVec n x0 x1 x2 r5 er5) kr kr kr kr (.inl rfl) ?_
      refine lF kr kr kr ?_
      refine AT.big1 tOk 16 kr kr ?_
      refine lV tOk [.rd,.rd] [] (spec_LessVec n r5 v6.Heard r7 er7) kr kr kr kr (.inl rfl) ?_
      refine lF kr kr kr ?_
      refine aU tOk [(17,[]),(18,[])] 0 [] [18,17,16,10,15,14,13,12,11,9,8,7,6,5,4,3,2,1,0] rfl kr (fun cx => ?_)
      exact AT.done [33] [] _ kr kr rfl
     cases h5 : r7
     ·have H := bifF h5 H
      refine tf kr ?_
      refine tK ?_
      refine tG tOk 1 64 0 kr kr ?_
      exact te (by obtain rfl := si H; exact fO [(false,[cI 3])] kr rfl rfl)
     have H := bifT h5 H
     refine tt kr ?_
     refine tG tOk 1 64 0 kr kr ?_
     exact te (by obtain rfl := si H; exact fO [(false,[cI 2])] kr rfl rfl)
    have H := bifT h4 H
    refine Tr.draws mixed 19 kr ⟨52,0,[sB 33 true],[]⟩ (fun cx => ?_) ?_
    ·refine aU tOk [(0,[]),(1,[])] 17 [] [1,0] rfl kr (fun cx => ?_)
     refine aI tOk 2 35 0 34 35 36 none ⟨(.slot 34),[],0,false,8,(CV.frzEs (x1.map Pt.row))⟩ x2 (Pt.row v4) _ kr kr kr kr kr kr rfl (idx_isF ev4) rfl (fun cx => ?_)
     refine aU tOk [(3,[]),(4,[]),(5,[]),(6,[])] 12 [] [6,5,4,3,2,1,0] rfl kr (fun cx => ?_)
     refine aT ⟨52,0,[sB 40 (!v4.Has),sB 39 (!v4.Has),sB 38 v4.Has,(37,.fad (((Pt.row v4).drop 2))),(36,.fad ((Pt.row v4))),sI 35 x2,sC 34 (cF 8 x1 Pt.row),sB 29 (r3.2 == x2),sI 0 x0,sC 1 (cF 8 x1 Pt.row),sI 2 x2],[]⟩ kr ?_
     rw [h4]
     refine aU tOk [(7,[]),(8,[]),(9,[]),(10,[]),(11,[]),(12,[]),(13,[]),(14,[]),(15,[]),(16,[]),(17,[]),(18,[])] 0 [] [18,17,16,15,14,13,12,11,10,9,8,7,6,5,4,3,2,1,0] rfl kr (fun cx => ?_)
     exact AT.done [33] [] _ kr kr rfl
    refine tt kr ?_
    refine tG tOk 1 64 0 kr kr ?_
    exact te (by obtain rfl := si H; exact fO [(false,[cI 2])] kr rfl rfl)
   refine tT h3 kr ?_
   refine tG tOk 1 64 0 kr kr ?_
   exact te (by obtain rfl := si H; exact fO [(false,[cI 1])] kr rfl rfl)
  refine tT h2 kr ?_
  refine tG tOk 1 64 0 kr kr ?_
  exact te (by obtain rfl := si H; exact fO [(false,[cI 4])] kr rfl rfl)
 have H := bifT h1 H
 refine uD tOk 7 4194311 0 kr kr ?_
 refine tt kr ?_
 refine tG tOk 1 64 0 kr kr ?_
 exact te (by obtain rfl := si H; exact fO [(false,[cI 4])] kr rfl rfl)
def spec_Sends_J1 (n : Nat) (y3 : Int) : Option (Int) :=
  (some y3)
def spec_Sends_L2 (n : Nat) : Nat → Int → (List Pt) → Int → Int → Option ((Int) ⊕ (Int))
  | 0,_,_,_,_ => none
  | mo4 + 1,x0,x1,y1,y2 => (bif (decide (y1 < (x1.length : Int))) then (bif (decide (y1 < 6)) then ((spec_RoleOfF n x0 x1 y1).bind fun r5 => (bif (decide (r5 ≤ 2)) then (bif (decide ((0 : Int) ≤ (IntKind.wrap .u64 y1))) then (spec_Sends_L2 n mo4 x0 x1 (IntKind.wrap .i64 (y1 + 1)) (IntKind.wrap .i64 (BitVec.ofInt (IntKind.bits .i64) y2 ||| BitVec.ofInt (IntKind.bits .i64) (IntKind.wrap .i64 (1 * 2 ^ min (((IntKind.wrap .u64 y1) : Int)).toNat (IntKind.bits .i64)))).toNat)) else none) else (spec_Sends_L2 n mo4 x0 x1 (IntKind.wrap .i64 (y1 + 1)) y2))) else (some (Sum.inl y2))) else (some (Sum.inl y2)))
def spec_SendsF (n : Nat) (x0 : Int) (x1 : (List Pt)) : Option (Int) :=
  ((spec_Sends_L2 n n x0 x1 0 0).bind fun o => match o with | .inl y3 => (spec_Sends_J1 n y3) | .inr r => some r)
noncomputable abbrev G71 (k : Nat) := Rg Tryz.f71 k
theorem spec_Sends (n : Nat) (x0 : Int) (x1 : (List Pt)) (r : Int) (H : spec_SendsF n x0 x1 = some r) : LCall Tryz.prog 71 [.val false [.lit (.int .i64 x0)],.val false [.sl false 8 (CV.frzEs (x1.map Pt.row))]] [.val false [.lit (.int .i64 r)]] [] := by
 refine LCall.of_body tOk Tryz.func71 rfl (c := (.seq (G71 0) (.seq (G71 1) (.seq (.seq (G71 2) (.block 0 (.loop (.seq (.seq (G71 3) (.cond (.tmp 14) .skip (.exit 0))) (.seq (.block 1 (.seq (G71 5) (.cond (.tmp 21) (G71 6) .skip))) (G71 4)))))) (.seq (G71 7) .ret))))) kr (Nat.le_of_ble_eq_true kr) 0 (rs := [.tmp 4]) rfl [] .nil [(false,[.lit (.int .i64 r)])] [] [] fun cx => ?_
 show Tr _ _ _ ⟨28,0,[sI 0 x0,sC 1 (cF 8 x1 Pt.row)],[]⟩ _
 unfold spec_SendsF at H
 refine tG tOk 1 3 0 kr kr ?_
 refine tG tOk 1 35 0 kr kr ?_
 refine tS ?_
 refine tG tOk 1 99 0 kr kr ?_
 obtain ⟨o4,eo4,Ho4⟩ := bind_some H
 clear H
 refine Tr.mid (ι := Int) (fun v => ⟨28,0,[sI 5 v],[]⟩) (fun v => spec_Sends_J1 n v = some r) ?_ ?_
 ·refine tB ?_
  refine Tr.loop (ι := Nat × (Int × Int)) (fun v => ⟨28,0,[sI 6 v.2.1,sI 5 v.2.2,sI 0 x0,sC 1 (cF 8 x1 Pt.row)],[]⟩) (fun v => spec_Sends_L2 n v.1 x0 x1 v.2.1 v.2.2 = some o4) (fun v => v.1) (n,(0,0)) eo4 (St.sub_of [6,5,0,1] [] kr) ?_
  rintro ⟨mo4,y1,y2⟩ H
  have H : spec_Sends_L2 n mo4 x0 x1 y1 y2 = some o4 := H
  obtain _ | mo4 := mo4
  ·cases (show (none : Option _) = some o4 from H)
  rw [spec_Sends_L2] at H
  refine tS ?_
  refine rU tOk 2 kr ?_
  refine lL tOk 35 3 167 8 9 none ⟨(.slot 8),[],0,false,8,(CV.frzEs (x1.map Pt.row))⟩ (x1).length _ kr kr kr kr kr (frz_len _ _) rfl ?_
  refine lU tOk 2 kr ?_
  refine lT ⟨28,0,[sB 11 (decide (y1 < (x1.length : Int))),sB 10 (decide (y1 < (x1.length : Int))),sI 9 (x1.length : Int),sC 8 (cF 8 x1 Pt.row),sI 7 y1,sI 6 y1,sI 5 y2,sI 0 x0,sC 1 (cF 8 x1 Pt.row)],[]⟩ kr ?_
  cases h1 : (decide (y1 < (x1.length : Int)))
  ·have H := bifF h1 H
   refine uD tOk 3 16483 0 kr kr ?_
   refine tf kr ?_
   refine Tr.exit ?_
   refine And.intro (fun _ => ?_) (fun h => absurd rfl h)
   obtain rfl := si H
   have H := Ho4
   dsimp only at H
   exact jn y2 H (sB_ [5] [] kr)
  have H := bifT h1 H
  refine uD tOk 3 16483 0 kr kr ?_
  obtain ⟨h2,H⟩ | ⟨h2,H⟩ := bC H
  ·refine tF h2 kr ?_
   refine Tr.exit ?_
   refine And.intro (fun _ => ?_) (fun h => absurd rfl h)
   obtain rfl := si H
   have H := Ho4
   dsimp only at H
   exact jn y2 H (sB_ [5] [] kr)
  refine tT h2 kr ?_
  refine tK ?_
  refine tS ?_
  refine tB ?_
  refine rU tOk 3 kr ?_
  obtain ⟨r5,er5,H⟩ := bind_some H
  refine lV tOk [.rd,.rd,.rd] [] (spec_RoleOf n x0 x1 y1 r5 er5) kr kr kr kr (.inl rfl) ?_
  refine uD tOk 1 2097251 0 kr kr ?_
  obtain ⟨h3,H⟩ | ⟨h3,H⟩ := bC H
  ·refine tF h3 kr ?_
   refine tK ?_
   refine tE tOk 3 99 0 kr kr ?_
   exact jn (mo4,((IntKind.wrap .i64 (y1 + 1)),y2)) H (sM mo4 [6,5,0,1] [] kr)
  refine tT h3 kr ?_
  refine Tr.at ?_
  refine lU tOk 3 kr ?_
  obtain ⟨hg6,H⟩ := guard_some H
  refine LAt.binC tOk (op := .shl) (t := 3) (ty := 124) (ty' := 3) (x := (.const (.int .i64 1))) (y := (.tmp 24)) (d := 25) (g := none) (.int .i64 1) (.int .u64 (IntKind.wrap .u64 y1)) (.int .i64 (IntKind.wrap .i64 (1 * 2 ^ min (((IntKind.wrap .u64 y1) : Int)).toNat (IntKind.bits .i64)))) _ kr kr kr kr kr (φ := (0 : Int) ≤ (IntKind.wrap .u64 y1)) kr (of_decide_eq_true hg6) rfl ?_
  refine uD tOk 2 99 0 kr kr ?_
  refine tE tOk 3 99 0 kr kr ?_
  exact jn (mo4,((IntKind.wrap .i64 (y1 + 1)),(IntKind.wrap .i64 (BitVec.ofInt (IntKind.bits .i64) y2 ||| BitVec.ofInt (IntKind.bits .i64) (IntKind.wrap .i64 (1 * 2 ^ min (((IntKind.wrap .u64 y1) : Int)).toNat (IntKind.bits .i64)))).toNat))) H (sM mo4 [6,5,0,1] [] kr)
 rintro y3 H
 have H : (spec_Sends_J1 n y3) = some r := H
 unfold spec_Sends_J1 at H
 refine tG tOk 2 16 0 kr kr ?_
 exact te (by obtain rfl := si H; exact fO [(false,[cI y3])] kr rfl rfl)
def spec_l9BitF (n : Nat) (x0 : Int) (x1 : Int) : Option (Bool) :=
  ((spec_l1InF n x1 0 7).bind fun r1 => (bif r1 then (bif (decide ((0 : Int) ≤ (IntKind.wrap .u64 x1))) then (some ((IntKind.wrap .i64 (BitVec.ofInt (IntKind.bits .i64) (Int.fdiv x0 (2 ^ min (((IntKind.wrap .u64 x1) : Int)).toNat (IntKind.bits .i64))) &&& BitVec.ofInt (IntKind.bits .i64) 1).toNat) == 1)) else none) else (some false)))
noncomputable abbrev G73 (k : Nat) := Rg Tryz.f73 k
theorem spec_l9Bit (n : Nat) (x0 : Int) (x1 : Int) (r : Bool) (H : spec_l9BitF n x0 x1 = some r) : LCall Tryz.prog 73 [.val false [.lit (.int .i64 x0)],.val false [.lit (.int .i64 x1)]] [.val false [.lit (.bool r)]] [] := by
 refine LCall.of_body tOk Tryz.func73 rfl (c := (.seq (G73 0) (.seq (G73 1) .ret))) kr (Nat.le_of_ble_eq_true kr) 0 (rs := [.tmp 4]) rfl [] .nil [(false,[.lit (.bool r)])] [] [] fun cx => ?_
 show Tr _ _ _ ⟨15,0,[sI 0 x0,sI 1 x1],[]⟩ _
 unfold spec_l9BitF at H
 refine tG tOk 1 3 0 kr kr ?_
 refine rU tOk 1 kr ?_
 obtain ⟨r1,er1,H⟩ := bind_some H
 refine lV tOk [.rd,.rd,.rd] [] (spec_l1In n x1 0 7 r1 er1) kr kr kr kr (.inl rfl) ?_
 refine lU tOk 1 kr ?_
 refine lT ⟨15,0,[sB 7 r1,sB 6 r1,sI 5 x1,sI 0 x0,sI 1 x1],[]⟩ kr ?_
 cases h1 : r1
 ·have H := bifF h1 H
  refine uD tOk 8 16 0 kr kr ?_
  exact te (by obtain rfl := si H; exact fO [(false,[cB false])] kr rfl rfl)
 have H := bifT h1 H
 refine lU tOk 3 kr ?_
 obtain ⟨hg2,H⟩ := guard_some H
 refine LAt.binC tOk (op := .shr) (t := 3) (ty := 124) (ty' := 3) (x := (.tmp 8)) (y := (.tmp 10)) (d := 11) (g := (some (2,true))) (.int .i64 x0) (.int .u64 (IntKind.wrap .u64 x1)) (.int .i64 (Int.fdiv x0 (2 ^ min (((IntKind.wrap .u64 x1) : Int)).toNat (IntKind.bits .i64)))) _ kr kr kr kr kr (φ := (0 : Int) ≤ (IntKind.wrap .u64 x1)) kr (of_decide_eq_true hg2) rfl ?_
 refine uD tOk 4 16 0 kr kr ?_
 exact te (by obtain rfl := si H; exact fO [(false,[cB ((IntKind.wrap .i64 (BitVec.ofInt (IntKind.bits .i64) (Int.fdiv x0 (2 ^ min (((IntKind.wrap .u64 x1) : Int)).toNat (IntKind.bits .i64))) &&& BitVec.ofInt (IntKind.bits .i64) 1).toNat) == 1)])] kr rfl rfl)
def spec_ClassOf_J1 (n : Nat) (x0 : Vtab) (x1 : Int) (y2 : Int) : Option (Int × Bool) :=
  ((spec_RowAtF n x0 y2).bind fun r3 => (bif (decide (r3 < 0)) then (some (0,false)) else ((idx x0.Rows r3).bind fun v4 => ((spec_l9BitF n v4.Members x1).bind fun r5 => (bif (!r5) then (some (0,false)) else (some (y2,true)))))))
def spec_ClassOfF (n : Nat) (x0 : Vtab) (x1 : Int) (x2 : Int) : Option (Int × Bool) :=
  ((spec_l1InF n x1 0 (IntKind.wrap .i64 ((x0.Pvid.length : Int) - 1))).bind fun r1 => (bif (!r1) then (some (0,false)) else (bif (x2 == 0) then ((idx x0.Pvid x1).bind fun v6 => (spec_ClassOf_J1 n x0 x1 v6)) else (spec_ClassOf_J1 n x0 x1 x2))))
noncomputable abbrev G72 (k : Nat) := Rg Tryz.f72 k
theorem spec_ClassOf (n : Nat) (x0 : Vtab) (x1 : Int) (x2 : Int) (r : Int × Bool) (H : spec_ClassOfF n x0 x1 x2 = some r) : LCall Tryz.prog 72 [.val true (CV.frzRow (Vtab.row x0)),.val false [.lit (.int .i64 x1)],.val false [.lit (.int .i64 x2)]] [.val false [.lit (.int .i64 r.1)],.val false [.lit (.bool r.2)]] [] := by
 refine LCall.of_body tOk Tryz.func72 rfl (c := (.seq (G72 0) (.seq (.seq (G72 1) (.cond (.tmp 15) (.seq (G72 2) .ret) .skip)) (.seq (.seq (G72 3) (.cond (.tmp 17) (G72 4) .skip)) (.seq (G72 5) (.seq (.seq (G72 6) (.cond (.tmp 38) (.seq (G72 7) .ret) .skip)) (.seq (G72 8) .ret))))))) kr (Nat.le_of_ble_eq_true kr) 0 (rs := [.tmp 6,.tmp 7]) rfl [] .nil [(false,[.lit (.int .i64 r.1)]),(false,[.lit (.bool r.2)])] [] [] fun cx => ?_
 show Tr _ _ _ ⟨40,0,[sV 0 (CV.frzRow (Vtab.row x0)),sI 1 x1,sI 2 x2],[]⟩ _
 unfold spec_ClassOfF at H
 refine tG tOk 3 14 8 kr kr ?_
 refine tS ?_
 refine rU tOk 3 kr ?_
 refine lL tOk 25 3 3 11 12 none ⟨(.slot 11),[],0,false,1,(CV.frzEs (x0.Pvid.map intRow))⟩ (x0.Pvid).length _ kr kr kr kr kr (frz_len _ _) rfl ?_
 refine lU tOk 1 kr ?_
 obtain ⟨r1,er1,H⟩ := bind_some H
 refine lV tOk [.rd,.rd,.rd] [] (spec_l1In n x1 0 (IntKind.wrap .i64 ((x0.Pvid.length : Int) - 1)) r1 er1) kr kr kr kr (.inl rfl) ?_
 refine uD tOk 1 32782 8 kr kr ?_
 obtain ⟨h1,H⟩ | ⟨h1,H⟩ := bC H
 ·refine tF h1 kr ?_
  refine tK ?_
  refine tS ?_
  refine Tr.mid (ι := Int) (fun v => ⟨40,0,[sA 3 3 2 0,sI 1 x1,sI 2 v],[(3,(CV.frzRow (Vtab.row x0)))]⟩) (fun v => spec_ClassOf_J1 n x0 x1 v = some r) ?_ ?_
  ·refine tG tOk 2 131086 8 kr kr ?_
   obtain ⟨h4,H⟩ | ⟨h4,H⟩ := bC H
   ·refine tF h4 kr ?_
    refine tK ?_
    exact jn x2 H (sB_ [3,1,2] [3] kr)
   refine tT h4 kr ?_
   refine Tr.at ?_
   refine lU tOk 3 kr ?_
   obtain ⟨v6,ev6,H⟩ := bind_some H
   refine lI tOk 25 0 19 20 21 none ⟨(.slot 19),[],0,false,1,(CV.frzEs (x0.Pvid.map intRow))⟩ x1 [cI v6] _ kr kr kr kr rfl (idx_isF ev6) rfl ?_
   refine uD tOk 2 14 8 kr kr ?_
   exact jn v6 H (sB_ [3,1,2] [3] kr)
  rintro y2 H
  have H : (spec_ClassOf_J1 n x0 x1 y2) = some r := H
  unfold spec_ClassOf_J1 at H
  refine rU tOk 2 kr ?_
  obtain ⟨r3,er3,H⟩ := bind_some H
  refine lV tOk [.rd,.rd] [] (spec_RowAt n x0 y2 r3 er3) kr kr kr kr (.inl rfl) ?_
  refine uD tOk 1 270 8 kr kr ?_
  refine tS ?_
  refine rU tOk 3 kr ?_
  refine lT ⟨40,0,[sB 28 (decide (r3 < 0)),sB 27 (decide (r3 < 0)),sI 26 r3,sI 8 r3,sA 3 3 2 0,sI 1 x1,sI 2 y2],[(3,(CV.frzRow (Vtab.row x0)))]⟩ kr ?_
  cases h2 : (decide (r3 < 0))
  ·have H := bifF h2 H
   refine lU tOk 3 kr ?_
   obtain ⟨v4,ev4,H⟩ := bind_some H
   refine lI tOk 37 0 30 31 32 (some (2,false)) ⟨(.slot 30),[],0,false,3,(CV.frzEs (x0.Rows.map Vrow.row))⟩ r3 (Vrow.row v4) _ kr kr kr kr rfl (idx_isF ev4) rfl ?_
   refine lU tOk 3 kr ?_
   obtain ⟨r5,er5,H⟩ := bind_some H
   refine lV tOk [.rd,.rd] [] (spec_l9Bit n v4.Members x1 r5 er5) kr kr kr kr (.inl rfl) ?_
   refine uD tOk 2 274877906948 0 kr kr ?_
   obtain ⟨h3,H⟩ | ⟨h3,H⟩ := bC H
   ·refine tF h3 kr ?_
    refine tK ?_
    refine tG tOk 3 192 0 kr kr ?_
    exact te (by obtain rfl := si H; exact fO [(false,[cI y2]),(false,[cB true])] kr rfl rfl)
   refine tT h3 kr ?_
   refine tG tOk 2 192 0 kr kr ?_
   exact te (by obtain rfl := si H; exact fO [(false,[cI 0]),(false,[cB false])] kr rfl rfl)
  have H := bifT h2 H
  refine uD tOk 10 274877906948 0 kr kr ?_
  refine tt kr ?_
  refine tG tOk 2 192 0 kr kr ?_
  exact te (by obtain rfl := si H; exact fO [(false,[cI 0]),(false,[cB false])] kr rfl rfl)
 refine tT h1 kr ?_
 refine tG tOk 2 192 0 kr kr ?_
 exact te (by obtain rfl := si H; exact fO [(false,[cI 0]),(false,[cB false])] kr rfl rfl)
def spec_l11OneF (n : Nat) (x0 : Int) : Option (Int) :=
  (bif (decide (x0 ≥ 1000000)) then (some x0) else (some (IntKind.wrap .i64 (x0 + 1))))
noncomputable abbrev G74 (k : Nat) := Rg Tryz.f74 k
theorem spec_l11One (n : Nat) (x0 : Int) (r : Int) (H : spec_l11OneF n x0 = some r) : LCall Tryz.prog 74 [.val false [.lit (.int .i64 x0)]] [.val false [.lit (.int .i64 r)]] [] := by
 refine LCall.of_body tOk Tryz.func74 rfl (c := (.seq (G74 0) (.seq (.seq (G74 1) (.cond (.tmp 4) (.seq (G74 2) .ret) .skip)) (.seq (G74 3) .ret)))) kr (Nat.le_of_ble_eq_true kr) 0 (rs := [.tmp 2]) rfl [] .nil [(false,[.lit (.int .i64 r)])] [] [] fun cx => ?_
 show Tr _ _ _ ⟨8,0,[sI 0 x0],[]⟩ _
 unfold spec_l11OneF at H
 refine tG tOk 1 1 0 kr kr ?_
 refine tS ?_
 refine tG tOk 2 17 0 kr kr ?_
 obtain ⟨h1,H⟩ | ⟨h1,H⟩ := bC H
 ·refine tF h1 kr ?_
  refine tK ?_
  refine tG tOk 3 4 0 kr kr ?_
  exact te (by obtain rfl := si H; exact fO [(false,[cI (IntKind.wrap .i64 (x0 + 1))])] kr rfl rfl)
 refine tT h1 kr ?_
 refine tG tOk 2 4 0 kr kr ?_
 exact te (by obtain rfl := si H; exact fO [(false,[cI x0])] kr rfl rfl)
def spec_l8At_J1 (n : Nat) : Option (Int) :=
  (some (-1))
def spec_l8At_L2 (n : Nat) : Nat → (List Fent) → Int → Int → Int → Option ((Unit) ⊕ (Int))
  | 0,_,_,_,_ => none
  | mo2 + 1,x0,x1,x2,y1 => (bif (decide (y1 < (x0.length : Int))) then ((idx x0 y1).bind fun v3 => (bif (v3.Tag == x1) then ((idx x0 y1).bind fun v4 => (bif (v4.Mac == x2) then (some (Sum.inr y1)) else (spec_l8At_L2 n mo2 x0 x1 x2 (IntKind.wrap .i64 (y1 + 1))))) else (spec_l8At_L2 n mo2 x0 x1 x2 (IntKind.wrap .i64 (y1 + 1))))) else (some (Sum.inl ())))
def spec_l8AtF (n : Nat) (x0 : (List Fent)) (x1 : Int) (x2 : Int) : Option (Int) :=
  ((spec_l8At_L2 n n x0 x1 x2 0).bind fun o => match o with | .inl _ => (spec_l8At_J1 n) | .inr r => some r)
noncomputable abbrev G171 (k : Nat) := Rg Tryz.f171 k
theorem spec_l8At (n : Nat) (x0 : (List Fent)) (x1 : Int) (x2 : Int) (r : Int) (H : spec_l8AtF n x0 x1 x2 = some r) : LCall Tryz.prog 171 [.val false [.sl false 5 (CV.frzEs (x0.map Fent.row))],.val false [.lit (.int .i64 x1)],.val false [.lit (.int .i64 x2)]] [.val false [.lit (.int .i64 r)]] [] := by
 refine LCall.of_body tOk Tryz.func171 rfl (c := (.seq (G171 0) (.seq (.seq (G171 1) (.block 0 (.loop (.seq (.seq (G171 2) (.cond (.tmp 11) .skip (.exit 0))) (.seq (.block 1 (.seq (G171 4) (.cond (.tmp 29) (.seq (G171 5) .ret) .skip))) (G171 3)))))) (.seq (G171 6) .ret)))) kr (Nat.le_of_ble_eq_true kr) 0 (rs := [.tmp 6]) rfl [] .nil [(false,[.lit (.int .i64 r)])] [] [] fun cx => ?_
 show Tr _ _ _ ⟨31,0,[sC 0 (cF 5 x0 Fent.row),sI 1 x1,sI 2 x2],[]⟩ _
 unfold spec_l8AtF at H
 refine tG tOk 1 7 0 kr kr ?_
 refine tS ?_
 refine tG tOk 1 135 0 kr kr ?_
 obtain ⟨o2,eo2,Ho2⟩ := bind_some H
 clear H
 refine Tr.mid (ι := Unit) (fun v => ⟨31,0,[],[]⟩) (fun v => spec_l8At_J1 n = some r) ?_ ?_
 ·refine tB ?_
  refine Tr.loop (ι := Nat × (Int)) (fun v => ⟨31,0,[sI 7 v.2,sC 0 (cF 5 x0 Fent.row),sI 1 x1,sI 2 x2],[]⟩) (fun v => spec_l8At_L2 n v.1 x0 x1 x2 v.2 = some o2) (fun v => v.1) (n,0) eo2 (St.sub_of [7,0,1,2] [] kr) ?_
  rintro ⟨mo2,y1⟩ H
  have H : spec_l8At_L2 n mo2 x0 x1 x2 y1 = some o2 := H
  obtain _ | mo2 := mo2
  ·cases (show (none : Option _) = some o2 from H)
  rw [spec_l8At_L2] at H
  refine tS ?_
  refine rU tOk 2 kr ?_
  refine lL tOk 36 3 169 9 10 none ⟨(.slot 9),[],0,false,5,(CV.frzEs (x0.map Fent.row))⟩ (x0).length _ kr kr kr kr kr (frz_len _ _) rfl ?_
  refine uD tOk 1 2183 0 kr kr ?_
  obtain ⟨h1,H⟩ | ⟨h1,H⟩ := bC H
  ·refine tF h1 kr ?_
   refine Tr.exit ?_
   refine And.intro (fun _ => ?_) (fun h => absurd rfl h)
   obtain rfl := si H
   have H := Ho2
   dsimp only at H
   exact jn () H (sB_ [] [] kr)
  refine tT h1 kr ?_
  refine tK ?_
  refine tS ?_
  refine tB ?_
  refine rU tOk 2 kr ?_
  obtain ⟨v3,ev3,H⟩ := bind_some H
  refine lI tOk 36 0 14 15 16 none ⟨(.slot 14),[],0,false,5,(CV.frzEs (x0.map Fent.row))⟩ y1 (Fent.row v3) _ kr kr kr kr rfl (idx_isF ev3) rfl ?_
  refine lU tOk 5 kr ?_
  refine lT ⟨31,0,[sB 21 (v3.Tag == x1),sB 20 (v3.Tag == x1),sI 19 x1,sI 18 v3.Tag,(17,.fad ((Fent.row v3))),(16,.fad ((Fent.row v3))),sI 15 y1,sC 14 (cF 5 x0 Fent.row),sB 11 (decide (y1 < (x0.length : Int))),sI 7 y1,sC 0 (cF 5 x0 Fent.row),sI 1 x1,sI 2 x2],[]⟩ kr ?_
  cases h2 : (v3.Tag == x1)
  ·have H := bifF h2 H
   refine uD tOk 8 536871047 0 kr kr ?_
   refine tf kr ?_
   refine tK ?_
   refine tE tOk 3 135 0 kr kr ?_
   exact jn (mo2,(IntKind.wrap .i64 (y1 + 1))) H (sM mo2 [7,0,1,2] [] kr)
  have H := bifT h2 H
  refine lU tOk 2 kr ?_
  obtain ⟨v4,ev4,H⟩ := bind_some H
  refine lI tOk 36 0 22 23 24 (some (7,true)) ⟨(.slot 22),[],0,false,5,(CV.frzEs (x0.map Fent.row))⟩ y1 (Fent.row v4) _ kr kr kr kr rfl (idx_isF ev4) rfl ?_
  refine uD tOk 5 536871047 0 kr kr ?_
  obtain ⟨h3,H⟩ | ⟨h3,H⟩ := bC H
  ·refine tF h3 kr ?_
   refine tK ?_
   refine tE tOk 3 135 0 kr kr ?_
   exact jn (mo2,(IntKind.wrap .i64 (y1 + 1))) H (sM mo2 [7,0,1,2] [] kr)
  refine tT h3 kr ?_
  refine tG tOk 2 64 0 kr kr ?_
  refine te ?_
  obtain rfl := si H
  have H := Ho2
  dsimp only at H
  obtain rfl := si H
  exact fO [(false,[cI y1])] kr rfl rfl
 rintro _ H
 have H : (spec_l8At_J1 n) = some r := H
 unfold spec_l8At_J1 at H
 refine tG tOk 1 64 0 kr kr ?_
 exact te (by obtain rfl := si H; exact fO [(false,[cI (-1)])] kr rfl rfl)
def spec_l8Put_J1 (n : Nat) (x1 : Fent) (y4 : Bool) (y5 : (List Fent)) : Option ((List Fent)) :=
  (bif (!y4) then (bif (decide (y5.length + [x1].length ≤ 268435456)) then (some (y5 ++ [x1])) else none) else (some y5))
def spec_l8Put_J3 (n : Nat) (k : (Int × Bool × (List Fent) → Option ((Bool × (List Fent)) ⊕ ((List Fent))))) (x0 : (List Fent)) (x1 : Fent) (y1 : Int) (y8 : Bool) (y9 : (List Fent)) : Option ((Bool × (List Fent)) ⊕ ((List Fent))) :=
  ((idx x0 y1).bind fun v10 => (bif (v10.Tag != x1.Tag) then ((idx x0 y1).bind fun v14 => (bif (decide (y9.length + [v14].length ≤ 268435456)) then (k ((IntKind.wrap .i64 (y1 + 1)),y8,(y9 ++ [v14]))) else none)) else ((idx x0 y1).bind fun v11 => (bif (v11.Mac != x1.Mac) then ((idx x0 y1).bind fun v12 => (bif (decide (y9.length + [v12].length ≤ 268435456)) then (k ((IntKind.wrap .i64 (y1 + 1)),y8,(y9 ++ [v12]))) else none)) else (k ((IntKind.wrap .i64 (y1 + 1)),y8,y9))))))
def spec_l8Put_L2 (n : Nat) : Nat → (List Fent) → Fent → Int → Bool → (List Fent) → Option ((Bool × (List Fent)) ⊕ ((List Fent)))
  | 0,_,_,_,_,_ => none
  | mo7 + 1,x0,x1,y1,y2,y3 => (bif (decide (y1 < (x0.length : Int))) then (bif (!y2) then ((idx x0 y1).bind fun v16 => ((spec_l8AheadF n v16 x1.Tag x1.Mac).bind fun r17 => (bif (!r17) then (bif (decide (y3.length + [x1].length ≤ 268435456)) then (spec_l8Put_J3 n (fun v => spec_l8Put_L2 n mo7 x0 x1 v.1 v.2.1 v.2.2) x0 x1 y1 true (y3 ++ [x1])) else none) else (spec_l8Put_J3 n (fun v => spec_l8Put_L2 n mo7 x0 x1 v.1 v.2.1 v.2.2) x0 x1 y1 y2 y3)))) else (spec_l8Put_J3 n (fun v => spec_l8Put_L2 n mo7 x0 x1 v.1 v.2.1 v.2.2) x0 x1 y1 y2 y3)) else (some (Sum.inl (y2,y3))))
def spec_l8PutF (n : Nat) (x0 : (List Fent)) (x1 : Fent) : Option ((List Fent)) :=
  ((spec_l8Put_L2 n n x0 x1 0 false ([] : List Fent)).bind fun o => match o with | .inl (y4,y5) => (spec_l8Put_J1 n x1 y4 y5) | .inr r => some r)
noncomputable abbrev G174 (k : Nat) := Rg Tryz.f174 k
noncomputable abbrev D174 (k : Nat) := Rd Tryz.f174 k
theorem spec_l8Put (n : Nat) (x0 : (List Fent)) (x1 : Fent) (r : (List Fent)) (H : spec_l8PutF n x0 x1 = some r) : LCall Tryz.prog 174 [.val false [.sl false 5 (CV.frzEs (x0.map Fent.row))],.val true (CV.frzRow (Fent.row x1))] [.val false [.sl true 5 (r.map Fent.row)]] [] := by
 refine LCall.of_body tOk Tryz.func174 rfl (c := (.seq (G174 0) (.seq (G174 1) (.seq (G174 2) (.seq (.seq (G174 3) (.block 0 (.loop (.seq (.seq (G174 4) (.cond (.tmp 12) .skip (.exit 0))) (.seq (.block 1 (.seq (.seq (D174 6) (.cond (.tmp 28) (.seq (G174 7) (G174 8)) .skip)) (.seq (D174 9) (.cond (.tmp 50) (G174 10) .skip)))) (G174 5)))))) (.seq (.seq (G174 11) (.cond (.tmp 59) (G174 12) .skip)) (.seq (G174 13) .ret))))))) kr (Nat.le_of_ble_eq_true kr) 0 (rs := [.tmp 4]) rfl [] .nil [(false,[.sl true 5 (r.map Fent.row)])] [] [] fun cx => ?_
 show Tr _ _ _ ⟨65,0,[sC 0 (cF 5 x0 Fent.row),sV 1 (Fent.row x1)],[]⟩ _
 unfold spec_l8PutF at H
 refine tG tOk 2 9 8 kr kr ?_
 refine rU tOk 1 kr ?_
 refine LAt.moveU (T := lk tab) (ty := 36) (x := (.tmp 8)) (d := 5) (g := none) false [cL 5 ([] : List Fent) Fent.row] kr kr kr kr kr ?_
 refine lD 41 8 kr ?_
 refine tG tOk 1 105 8 kr kr ?_
 refine tS ?_
 refine tG tOk 1 233 8 kr kr ?_
 obtain ⟨o7,eo7,Ho7⟩ := bind_some H
 clear H
 refine Tr.mid (ι := Bool × (List Fent)) (fun v => ⟨65,0,[sB 6 v.1,sC 5 (cL 5 v.2 Fent.row),sA 3 3 5 0],[(3,(Fent.row x1))]⟩) (fun v => spec_l8Put_J1 n x1 v.1 v.2 = some r) ?_ ?_
 ·refine tB ?_
  refine Tr.loop (ι := Nat × (Int × Bool × (List Fent))) (fun v => ⟨65,0,[sI 7 v.2.1,sB 6 v.2.2.1,sC 5 (cL 5 v.2.2.2 Fent.row),sA 3 3 5 0,sC 0 (cF 5 x0 Fent.row)],[(3,(Fent.row x1))]⟩) (fun v => spec_l8Put_L2 n v.1 x0 x1 v.2.1 v.2.2.1 v.2.2.2 = some o7) (fun v => v.1) (n,(0,false,([] : List Fent))) eo7 (St.sub_of [7,6,5,3,0] [3] kr) ?_
  rintro ⟨mo7,y1,y2,y3⟩ H
  have H : spec_l8Put_L2 n mo7 x0 x1 y1 y2 y3 = some o7 := H
  obtain _ | mo7 := mo7
  ·cases (show (none : Option _) = some o7 from H)
  rw [spec_l8Put_L2] at H
  refine tS ?_
  refine rU tOk 2 kr ?_
  refine lL tOk 36 3 169 10 11 none ⟨(.slot 10),[],0,false,5,(CV.frzEs (x0.map Fent.row))⟩ (x0).length _ kr kr kr kr kr (frz_len _ _) rfl ?_
  refine uD tOk 1 4329 8 kr kr ?_
  obtain ⟨h2,H⟩ | ⟨h2,H⟩ := bC H
  ·refine tF h2 kr ?_
   refine Tr.exit ?_
   refine And.intro (fun _ => ?_) (fun h => absurd rfl h)
   obtain rfl := si H
   have H := Ho7
   dsimp only at H
   exact jn (y2,y3) H (sB_ [6,5,3] [3] kr)
  refine tT h2 kr ?_
  refine tK ?_
  refine tS ?_
  refine tB ?_
  refine tS ?_
  refine Tr.mid (ι := Bool × (List Fent)) (fun v => ⟨65,0,[sI 7 y1,sB 6 v.1,sC 5 (cL 5 v.2 Fent.row),sA 3 3 5 0,sC 0 (cF 5 x0 Fent.row)],[(3,(Fent.row x1))]⟩) (fun v => spec_l8Put_J3 n (fun v => spec_l8Put_L2 n mo7 x0 x1 v.1 v.2.1 v.2.2) x0 x1 y1 v.1 v.2 = some o7) ?_ ?_
  ·refine tS ?_
   refine tO ⟨65,0,[sB 12 (decide (y1 < (x0.length : Int))),sI 7 y1,sB 6 y2,sC 5 (cL 5 y3 Fent.row),sA 3 3 5 0,sC 0 (cF 5 x0 Fent.row)],[(3,(Fent.row x1))]⟩ kr ?_
   cases h5 : (!y2)
   ·have H := bifF h5 H
    refine Tr.draw mixed 14 kr ⟨65,0,[sB 28 false,sI 7 y1,sB 6 y2,sC 5 (cL 5 y3 Fent.row),sA 3 3 5 0,sC 0 (cF 5 x0 Fent.row)],[(3,(Fent.row x1))]⟩ (fun cx => ?_) ?_
    ·refine aU tOk [(0,[]),(1,[]),(2,[])] 11 [] [2,1,0] rfl kr (fun cx => ?_)
     refine aT ⟨65,0,[sB 17 (!y2),sB 16 (!y2),sB 15 y2,sB 12 (decide (y1 < (x0.length : Int))),sI 7 y1,sB 6 y2,sC 5 (cL 5 y3 Fent.row),sA 3 3 5 0,sC 0 (cF 5 x0 Fent.row)],[(3,(Fent.row x1))]⟩ kr ?_
     rw [h5]
     refine aU tOk [(3,[]),(4,[]),(5,[]),(6,[]),(7,[]),(8,[]),(9,[]),(10,[]),(11,[]),(12,[]),(13,[])] 0 [] [13,12,11,10,9,8,7,6,5,4,3,2,1,0] rfl kr (fun cx => ?_)
     exact AT.done [28,7,6,5,3,0] [3] _ kr kr rfl
    refine tf kr ?_
    refine tK ?_
    exact jn (y2,y3) H (sB_ [7,6,5,3,0] [3] kr)
   have H := bifT h5 H
   obtain ⟨v16,ev16,H⟩ := bind_some H
   obtain ⟨r17,er17,H⟩ := bind_some H
   refine Tr.draw mixed 14 kr ⟨65,0,[sB 28 (!r17),sI 7 y1,sB 6 y2,sC 5 (cL 5 y3 Fent.row),sA 3 3 5 0,sC 0 (cF 5 x0 Fent.row)],[(3,(Fent.row x1))]⟩ (fun cx => ?_) ?_
   ·refine aU tOk [(0,[]),(1,[]),(2,[])] 11 [] [2,1,0] rfl kr (fun cx => ?_)
    refine aT ⟨65,0,[sB 17 (!y2),sB 16 (!y2),sB 15 y2,sB 12 (decide (y1 < (x0.length : Int))),sI 7 y1,sB 6 y2,sC 5 (cL 5 y3 Fent.row),sA 3 3 5 0,sC 0 (cF 5 x0 Fent.row)],[(3,(Fent.row x1))]⟩ kr ?_
    rw [h5]
    refine aU tOk [(3,[]),(4,[])] 9 [] [4,3,2,1,0] rfl kr (fun cx => ?_)
    refine aI tOk 5 36 0 18 19 20 (some (2,true)) ⟨(.slot 18),[],0,false,5,(CV.frzEs (x0.map Fent.row))⟩ y1 (Fent.row v16) _ kr kr kr kr kr kr rfl (idx_isF ev16) rfl (fun cx => ?_)
    refine aU tOk [(6,[]),(7,[]),(8,[11]),(9,[]),(10,[11])] 3 [⟨[11],3,24,25⟩,⟨[11],3,22,23⟩] [10,9,8,7,6,5,4,3,2,1,0] rfl kr (fun cx => ?_)
    refine AT.big1 tOk 11 kr kr ?_
    refine lV tOk [.rd,.rd,.rd] [] (spec_l8Ahead n v16 x1.Tag x1.Mac r17 er17) kr kr kr kr (.inl rfl) ?_
    refine lF kr kr kr ?_
    refine aU tOk [(12,[]),(13,[])] 0 [⟨[11],3,24,25⟩,⟨[11],3,22,23⟩] [13,12,11,10,9,8,7,6,5,4,3,2,1,0] rfl kr (fun cx => ?_)
    exact AT.done [28,7,6,5,3,0] [3] _ kr kr rfl
   refine tO ⟨65,0,[sB 28 (!r17),sI 7 y1,sB 6 y2,sC 5 (cL 5 y3 Fent.row),sA 3 3 5 0,sC 0 (cF 5 x0 Fent.row)],[(3,(Fent.row x1))]⟩ kr ?_
   cases h6 : (!r17)
   ·have H := bifF h6 H
    refine tf kr ?_
    refine tK ?_
    exact jn (y2,y3) H (sB_ [7,6,5,3,0] [3] kr)
   have H := bifT h6 H
   refine tt kr ?_
   refine rU tOk 3 kr ?_
   obtain ⟨hg18,H⟩ := guard_some H
   refine LAt.appMU tOk (t := 36) (ty := 36) (e := 169) (x := (.tmp 29)) (y := (.tmp 31)) (d := 32) (g := none) (tI 169) Fent.row y3 [x1] kr kr kr kr kr kr kr kr kr kr hg18 ?_
   refine LAt.moveU (T := lk tab) (ty := 36) (x := (.tmp 32)) (d := 5) (g := none) false [cL 5 (y3 ++ [x1]) Fent.row] kr kr kr kr kr ?_
   refine lD 169 8 kr ?_
   refine tE tOk 1 233 8 kr kr ?_
   exact jn (true,(y3 ++ [x1])) H (sB_ [7,6,5,3,0] [3] kr)
  rintro ⟨y8,y9⟩ H
  have H : (spec_l8Put_J3 n (fun v => spec_l8Put_L2 n mo7 x0 x1 v.1 v.2.1 v.2.2) x0 x1 y1 y8 y9) = some o7 := H
  unfold spec_l8Put_J3 at H
  refine tS ?_
  obtain ⟨v10,ev10,H⟩ := bind_some H
  refine tO ⟨65,0,[sI 7 y1,sB 6 y8,sC 5 (cL 5 y9 Fent.row),sA 3 3 5 0,sC 0 (cF 5 x0 Fent.row)],[(3,(Fent.row x1))]⟩ kr ?_
  cases h3 : (v10.Tag != x1.Tag)
  ·have H := bifF h3 H
   obtain ⟨v11,ev11,H⟩ := bind_some H
   refine Tr.draw mixed 18 kr ⟨65,0,[sB 50 (v11.Mac != x1.Mac),sI 7 y1,sB 6 y8,sC 5 (cL 5 y9 Fent.row),sA 3 3 5 0,sC 0 (cF 5 x0 Fent.row)],[(3,(Fent.row x1))]⟩ (fun cx => ?_) ?_
   ·refine aU tOk [(0,[]),(1,[])] 16 [] [1,0] rfl kr (fun cx => ?_)
    refine aI tOk 2 36 0 33 34 35 none ⟨(.slot 33),[],0,false,5,(CV.frzEs (x0.map Fent.row))⟩ y1 (Fent.row v10) _ kr kr kr kr kr kr rfl (idx_isF ev10) rfl (fun cx => ?_)
    refine aU tOk [(3,[]),(4,[]),(5,[]),(6,[]),(7,[]),(8,[])] 9 [⟨[],3,38,39⟩] [8,7,6,5,4,3,2,1,0] rfl kr (fun cx => ?_)
    refine aT ⟨65,0,[sB 41 (v10.Tag != x1.Tag),sB 40 (v10.Tag != x1.Tag),sI 39 x1.Tag,sA 38 3 5 0,sI 37 v10.Tag,(36,.fad ((Fent.row v10))),(35,.fad ((Fent.row v10))),sI 34 y1,sC 33 (cF 5 x0 Fent.row),sI 7 y1,sB 6 y8,sC 5 (cL 5 y9 Fent.row),sA 3 3 5 0,sC 0 (cF 5 x0 Fent.row)],[(3,(Fent.row x1))]⟩ kr ?_
    rw [h3]
    refine aU tOk [(9,[]),(10,[])] 7 [⟨[],3,38,39⟩] [10,9,8,7,6,5,4,3,2,1,0] rfl kr (fun cx => ?_)
    refine aI tOk 11 36 0 42 43 44 (some (8,false)) ⟨(.slot 42),[],0,false,5,(CV.frzEs (x0.map Fent.row))⟩ y1 (Fent.row v11) _ kr kr kr kr kr kr rfl (idx_isF ev11) rfl (fun cx => ?_)
    refine aU tOk [(12,[]),(13,[]),(14,[]),(15,[]),(16,[]),(17,[])] 0 [⟨[],3,47,48⟩,⟨[],3,38,39⟩] [17,16,15,14,13,12,11,10,9,8,7,6,5,4,3,2,1,0] rfl kr (fun cx => ?_)
    exact AT.done [50,7,6,5,3,0] [3] _ kr kr rfl
   refine tO ⟨65,0,[sB 50 (v11.Mac != x1.Mac),sI 7 y1,sB 6 y8,sC 5 (cL 5 y9 Fent.row),sA 3 3 5 0,sC 0 (cF 5 x0 Fent.row)],[(3,(Fent.row x1))]⟩ kr ?_
   cases h4 : (v11.Mac != x1.Mac)
   ·have H := bifF h4 H
    refine tf kr ?_
    refine tK ?_
    refine tE tOk 3 233 8 kr kr ?_
    exact jn (mo7,((IntKind.wrap .i64 (y1 + 1)),y8,y9)) H (sM mo7 [7,6,5,3,0] [3] kr)
   have H := bifT h4 H
   refine tt kr ?_
   refine Tr.at ?_
   refine lU tOk 3 kr ?_
   obtain ⟨v12,ev12,H⟩ := bind_some H
   refine lI tOk 36 0 52 53 54 none ⟨(.slot 52),[],0,false,5,(CV.frzEs (x0.map Fent.row))⟩ y1 (Fent.row v12) _ kr kr kr kr rfl (idx_isF ev12) rfl ?_
   refine lU tOk 2 kr ?_
   obtain ⟨hg13,H⟩ := guard_some H
   refine LAt.appMU tOk (t := 36) (ty := 36) (e := 169) (x := (.tmp 51)) (y := (.tmp 56)) (d := 57) (g := none) (tI 169) Fent.row y9 [v12] kr kr kr kr kr kr kr kr kr kr hg13 ?_
   refine LAt.moveU (T := lk tab) (ty := 36) (x := (.tmp 57)) (d := 5) (g := none) false [cL 5 (y9 ++ [v12]) Fent.row] kr kr kr kr kr ?_
   refine lD 233 8 kr ?_
   refine tE tOk 3 233 8 kr kr ?_
   exact jn (mo7,((IntKind.wrap .i64 (y1 + 1)),y8,(y9 ++ [v12]))) H (sM mo7 [7,6,5,3,0] [3] kr)
  have H := bifT h3 H
  refine Tr.draw mixed 18 kr ⟨65,0,[sB 50 true,sI 7 y1,sB 6 y8,sC 5 (cL 5 y9 Fent.row),sA 3 3 5 0,sC 0 (cF 5 x0 Fent.row)],[(3,(Fent.row x1))]⟩ (fun cx => ?_) ?_
  ·refine aU tOk [(0,[]),(1,[])] 16 [] [1,0] rfl kr (fun cx => ?_)
   refine aI tOk 2 36 0 33 34 35 none ⟨(.slot 33),[],0,false,5,(CV.frzEs (x0.map Fent.row))⟩ y1 (Fent.row v10) _ kr kr kr kr kr kr rfl (idx_isF ev10) rfl (fun cx => ?_)
   refine aU tOk [(3,[]),(4,[]),(5,[]),(6,[]),(7,[]),(8,[])] 9 [⟨[],3,38,39⟩] [8,7,6,5,4,3,2,1,0] rfl kr (fun cx => ?_)
   refine aT ⟨65,0,[sB 41 (v10.Tag != x1.Tag),sB 40 (v10.Tag != x1.Tag),sI 39 x1.Tag,sA 38 3 5 0,sI 37 v10.Tag,(36,.fad ((Fent.row v10))),(35,.fad ((Fent.row v10))),sI 34 y1,sC 33 (cF 5 x0 Fent.row),sI 7 y1,sB 6 y8,sC 5 (cL 5 y9 Fent.row),sA 3 3 5 0,sC 0 (cF 5 x0 Fent.row)],[(3,(Fent.row x1))]⟩ kr ?_
   rw [h3]
   refine aU tOk [(9,[]),(10,[]),(11,[]),(12,[]),(13,[]),(14,[]),(15,[]),(16,[]),(17,[])] 0 [⟨[],3,38,39⟩] [17,16,15,14,13,12,11,10,9,8,7,6,5,4,3,2,1,0] rfl kr (fun cx => ?_)
   exact AT.done [50,7,6,5,3,0] [3] _ kr kr rfl
  refine tt kr ?_
  refine Tr.at ?_
  refine lU tOk 3 kr ?_
  obtain ⟨v14,ev14,H⟩ := bind_some H
  refine lI tOk 36 0 52 53 54 none ⟨(.slot 52),[],0,false,5,(CV.frzEs (x0.map Fent.row))⟩ y1 (Fent.row v14) _ kr kr kr kr rfl (idx_isF ev14) rfl ?_
  refine lU tOk 2 kr ?_
  obtain ⟨hg15,H⟩ := guard_some H
  refine LAt.appMU tOk (t := 36) (ty := 36) (e := 169) (x := (.tmp 51)) (y := (.tmp 56)) (d := 57) (g := none) (tI 169) Fent.row y9 [v14] kr kr kr kr kr kr kr kr kr kr hg15 ?_
  refine LAt.moveU (T := lk tab) (ty := 36) (x := (.tmp 57)) (d := 5) (g := none) false [cL 5 (y9 ++ [v14]) Fent.row] kr kr kr kr kr ?_
  refine lD 233 8 kr ?_
  refine tE tOk 3 233 8 kr kr ?_
  exact jn (mo7,((IntKind.wrap .i64 (y1 + 1)),y8,(y9 ++ [v14]))) H (sM mo7 [7,6,5,3,0] [3] kr)
 rintro ⟨y4,y5⟩ H
 have H : (spec_l8Put_J1 n x1 y4 y5) = some r := H
 unfold spec_l8Put_J1 at H
 refine tS ?_
 refine tG tOk 2 0x800000000000028 8 kr kr ?_
 obtain ⟨h1,H⟩ | ⟨h1,H⟩ := bC H
 ·refine tF h1 kr ?_
  refine tK ?_
  refine tG tOk 2 48 0 kr kr ?_
  exact te (by obtain rfl := si H; exact fO [(false,[cL 5 y5 Fent.row])] kr rfl rfl)
 refine tT h1 kr ?_
 refine Tr.at ?_
 refine lU tOk 3 kr ?_
 obtain ⟨hg6,H⟩ := guard_some H
 refine LAt.appMU tOk (t := 36) (ty := 36) (e := 169) (x := (.tmp 60)) (y := (.tmp 62)) (d := 63) (g := none) (tI 169) Fent.row y5 [x1] kr kr kr kr kr kr kr kr kr kr hg6 ?_
 refine LAt.moveU (T := lk tab) (ty := 36) (x := (.tmp 63)) (d := 5) (g := none) false [cL 5 (y5 ++ [x1]) Fent.row] kr kr kr kr kr ?_
 refine lD 32 0 kr ?_
 refine tG tOk 2 48 0 kr kr ?_
 exact te (by obtain rfl := si H; exact fO [(false,[cL 5 (y5 ++ [x1]) Fent.row])] kr rfl rfl)
end Go.Proofs.YtcegokjpmppdbaaGreat.Tw
