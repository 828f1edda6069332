import Derived.Test.YtibocmoaaahjfaaGreatProg
import Derived.Test.YtibocmoaaahjfaaGreatTlRule
import Derived.Test.YtibocmoaaahjfaaGreatTlU8
import Derived.WalkKit
set_option linter.unusedVariables false
set_option linter.unusedSimpArgs false
set_option maxRecDepth 100000
set_option maxHeartbeats 1000000
namespace Go.Proofs.YtibocmoaaahjfaaGreat.Tw
open Go Go.TL Go.Proofs
def tab : List (Nat × TI) := [(2,⟨.int .i64,1,8,[.lit (.int .i64 0)]⟩),
  (3,⟨.int .i64,1,8,[.lit (.int .i64 0)]⟩),
  (4,⟨.bool,1,1,[.lit (.bool false)]⟩),
  (5,⟨.int .u8,1,1,[.lit (.int .u8 0)]⟩),
  (6,⟨.int .u8,1,1,[.lit (.int .u8 0)]⟩),
  (7,⟨.st [(0,1,2),(1,1,3),(2,1,4),(3,1,6)],4,24,[.lit (.int .i64 0),.lit (.int .i64 0),.lit (.bool false),.lit (.int .u8 0)]⟩),
  (8,⟨.st [(0,1,2),(1,1,3),(2,1,4),(3,1,6)],4,24,[.lit (.int .i64 0),.lit (.int .i64 0),.lit (.bool false),.lit (.int .u8 0)]⟩),
  (9,⟨.str,1,16,[.lit (.string ⟨#[]⟩)]⟩),
  (22,⟨.sl 3,1,24,[.sl true 1 []]⟩),
  (23,⟨.sl 130,1,24,[.sl true 4 []]⟩),
  (25,⟨.sl 58,1,24,[.sl true 11 []]⟩),
  (26,⟨.sl 126,1,24,[.sl true 4 []]⟩),
  (27,⟨.sl 195,1,24,[.sl true 7 []]⟩),
  (29,⟨.st [(0,1,25),(1,1,26),(2,1,27)],3,72,[.sl true 11 [],.sl true 4 [],.sl true 7 []]⟩),
  (47,⟨.sl 5,1,24,[.sl true 1 []]⟩),
  (52,⟨.sl 182,1,24,[.sl true 8 []]⟩),
  (53,⟨.sl 184,1,24,[.sl true 5 []]⟩),
  (54,⟨.sl 190,1,24,[.sl true 3 []]⟩),
  (56,⟨.st [(0,1,54),(1,1,22)],2,48,[.sl true 3 [],.sl true 1 []]⟩),
  (58,⟨.st [(0,1,3),(1,1,9),(2,1,52),(3,1,53),(4,2,56),(6,1,3),(7,1,3),(8,1,3),(9,1,3),(10,1,3)],11,160,[.lit (.int .i64 0),.lit (.string ⟨#[]⟩),.sl true 8 [],.sl true 5 [],.sl true 3 [],.sl true 1 [],.lit (.int .i64 0),.lit (.int .i64 0),.lit (.int .i64 0),.lit (.int .i64 0),.lit (.int .i64 0)]⟩),
  (126,⟨.st [(0,1,3),(1,1,3),(2,1,3),(3,1,3)],4,32,[.lit (.int .i64 0),.lit (.int .i64 0),.lit (.int .i64 0),.lit (.int .i64 0)]⟩),
  (130,⟨.st [(0,1,3),(1,1,3),(2,1,3),(3,1,3)],4,32,[.lit (.int .i64 0),.lit (.int .i64 0),.lit (.int .i64 0),.lit (.int .i64 0)]⟩),
  (145,⟨.int .u64,1,8,[.lit (.int .u64 0)]⟩),
  (162,⟨.st [(0,1,3),(1,1,3),(2,1,3),(3,1,3),(4,1,3)],5,40,[.lit (.int .i64 0),.lit (.int .i64 0),.lit (.int .i64 0),.lit (.int .i64 0),.lit (.int .i64 0)]⟩),
  (182,⟨.st [(0,1,4),(1,1,3),(2,1,4),(3,5,162)],8,64,[.lit (.bool false),.lit (.int .i64 0),.lit (.bool false),.lit (.int .i64 0),.lit (.int .i64 0),.lit (.int .i64 0),.lit (.int .i64 0),.lit (.int .i64 0)]⟩),
  (184,⟨.st [(0,1,3),(1,1,3),(2,1,3),(3,1,3),(4,1,4)],5,40,[.lit (.int .i64 0),.lit (.int .i64 0),.lit (.int .i64 0),.lit (.int .i64 0),.lit (.bool false)]⟩),
  (190,⟨.st [(0,1,3),(1,1,3),(2,1,3)],3,24,[.lit (.int .i64 0),.lit (.int .i64 0),.lit (.int .i64 0)]⟩),
  (195,⟨.st [(0,1,3),(1,1,4),(2,5,162)],7,56,[.lit (.int .i64 0),.lit (.bool false),.lit (.int .i64 0),.lit (.int .i64 0),.lit (.int .i64 0),.lit (.int .i64 0),.lit (.int .i64 0)]⟩)]
def tI (t : Nat) : TI := (lk tab t).getD ⟨.bool,1,1,[]⟩
theorem mixed : Tryz.prog.follows .mixedOrders = true := by kernel_rfl
theorem tOk : TOk Tryz.prog (lk tab) := tok_of (by kernel_rfl)
structure Link where
  A : Int
  P : Int
  B : Int
  Q : Int
def Link.row (v : Link) : List CV := [.lit (.int .i64 v.A),.lit (.int .i64 v.P),.lit (.int .i64 v.B),.lit (.int .i64 v.Q)]
def Link.wf (v : Link) : Prop := intWf v.A ∧ intWf v.P ∧ intWf v.B ∧ intWf v.Q ∧ True
theorem Link.enc : Enc Link [.int .i64,.int .i64,.int .i64,.int .i64] Link.row Link.wf := fun cs h => by
  obtain ⟨c0,r0,rfl,k0,h⟩ := fitR_cons h
  obtain ⟨c1,r1,rfl,k1,h⟩ := fitR_cons h
  obtain ⟨c2,r2,rfl,k2,h⟩ := fitR_cons h
  obtain ⟨c3,r3,rfl,k3,h⟩ := fitR_cons h
  obtain rfl := fitR_nil h
  obtain ⟨x0,rfl,w0⟩ := fitC_int k0
  obtain ⟨x1,rfl,w1⟩ := fitC_int k1
  obtain ⟨x2,rfl,w2⟩ := fitC_int k2
  obtain ⟨x3,rfl,w3⟩ := fitC_int k3
  exact ⟨⟨x0,x1,x2,x3⟩,rfl,⟨w0,w1,w2,w3,trivial⟩⟩
theorem Link.row_mine (v : Link) : CV.mineRow (Link.row v) := mine_cons mine_lit (mine_cons mine_lit (mine_cons mine_lit (mine_cons mine_lit (mine_nil))))
structure Vrow where
  Id : Int
  Members : Int
  Bare : Int
def Vrow.row (v : Vrow) : List CV := [.lit (.int .i64 v.Id),.lit (.int .i64 v.Members),.lit (.int .i64 v.Bare)]
def Vrow.wf (v : Vrow) : Prop := intWf v.Id ∧ intWf v.Members ∧ intWf v.Bare ∧ True
theorem Vrow.enc : Enc Vrow [.int .i64,.int .i64,.int .i64] Vrow.row Vrow.wf := fun cs h => by
  obtain ⟨c0,r0,rfl,k0,h⟩ := fitR_cons h
  obtain ⟨c1,r1,rfl,k1,h⟩ := fitR_cons h
  obtain ⟨c2,r2,rfl,k2,h⟩ := fitR_cons h
  obtain rfl := fitR_nil h
  obtain ⟨x0,rfl,w0⟩ := fitC_int k0
  obtain ⟨x1,rfl,w1⟩ := fitC_int k1
  obtain ⟨x2,rfl,w2⟩ := fitC_int k2
  exact ⟨⟨x0,x1,x2⟩,rfl,⟨w0,w1,w2,trivial⟩⟩
theorem Vrow.row_mine (v : Vrow) : CV.mineRow (Vrow.row v) := mine_cons mine_lit (mine_cons mine_lit (mine_cons mine_lit (mine_nil)))
structure Vtab where
  Rows : (List Vrow)
  Pvid : (List Int)
def Vtab.row (v : Vtab) : List CV := [.sl true 3 (v.Rows.map Vrow.row),.sl true 1 (v.Pvid.map intRow)]
def Vtab.wf (v : Vtab) : Prop := listWf Vrow.wf v.Rows ∧ listWf intWf v.Pvid ∧ True
theorem Vtab.enc : Enc Vtab [.sl 3 [.int .i64,.int .i64,.int .i64],.sl 1 [.int .i64]] Vtab.row Vtab.wf := fun cs h => by
  obtain ⟨c0,r0,rfl,k0,h⟩ := fitR_cons h
  obtain ⟨c1,r1,rfl,k1,h⟩ := fitR_cons h
  obtain rfl := fitR_nil h
  obtain ⟨x0,rfl,w0⟩ := Enc.sl Vrow.enc k0
  obtain ⟨x1,rfl,w1⟩ := Enc.sl encInt k1
  exact ⟨⟨x0,x1⟩,rfl,⟨w0,w1,trivial⟩⟩
theorem Vtab.row_mine (v : Vtab) : CV.mineRow (Vtab.row v) := mine_cons (mine_sl (mine_map Vrow.row_mine _)) (mine_cons (mine_sl (mine_map intRow_mine _)) (mine_nil))
structure Vec where
  Root : Int
  Cost : Int
  Hops : Int
  Bridge : Int
  Port : Int
def Vec.row (v : Vec) : List CV := [.lit (.int .i64 v.Root),.lit (.int .i64 v.Cost),.lit (.int .i64 v.Hops),.lit (.int .i64 v.Bridge),.lit (.int .i64 v.Port)]
def Vec.wf (v : Vec) : Prop := intWf v.Root ∧ intWf v.Cost ∧ intWf v.Hops ∧ intWf v.Bridge ∧ intWf v.Port ∧ True
theorem Vec.enc : Enc Vec [.int .i64,.int .i64,.int .i64,.int .i64,.int .i64] Vec.row Vec.wf := fun cs h => by
  obtain ⟨c0,r0,rfl,k0,h⟩ := fitR_cons h
  obtain ⟨c1,r1,rfl,k1,h⟩ := fitR_cons h
  obtain ⟨c2,r2,rfl,k2,h⟩ := fitR_cons h
  obtain ⟨c3,r3,rfl,k3,h⟩ := fitR_cons h
  obtain ⟨c4,r4,rfl,k4,h⟩ := fitR_cons h
  obtain rfl := fitR_nil h
  obtain ⟨x0,rfl,w0⟩ := fitC_int k0
  obtain ⟨x1,rfl,w1⟩ := fitC_int k1
  obtain ⟨x2,rfl,w2⟩ := fitC_int k2
  obtain ⟨x3,rfl,w3⟩ := fitC_int k3
  obtain ⟨x4,rfl,w4⟩ := fitC_int k4
  exact ⟨⟨x0,x1,x2,x3,x4⟩,rfl,⟨w0,w1,w2,w3,w4,trivial⟩⟩
theorem Vec.row_mine (v : Vec) : CV.mineRow (Vec.row v) := mine_cons mine_lit (mine_cons mine_lit (mine_cons mine_lit (mine_cons mine_lit (mine_cons mine_lit (mine_nil)))))
structure Pt where
  Up : Bool
  Cost : Int
  Has : Bool
  Heard : Vec
def Pt.row (v : Pt) : List CV := [.lit (.bool v.Up),.lit (.int .i64 v.Cost),.lit (.bool v.Has),.lit (.int .i64 v.Heard.Root),.lit (.int .i64 v.Heard.Cost),.lit (.int .i64 v.Heard.Hops),.lit (.int .i64 v.Heard.Bridge),.lit (.int .i64 v.Heard.Port)]
def Pt.wf (v : Pt) : Prop := intWf v.Cost ∧ intWf v.Heard.Root ∧ intWf v.Heard.Cost ∧ intWf v.Heard.Hops ∧ intWf v.Heard.Bridge ∧ intWf v.Heard.Port ∧ True
theorem Pt.enc : Enc Pt [.bool,.int .i64,.bool,.int .i64,.int .i64,.int .i64,.int .i64,.int .i64] Pt.row Pt.wf := fun cs h => by
  obtain ⟨c0,r0,rfl,k0,h⟩ := fitR_cons h
  obtain ⟨c1,r1,rfl,k1,h⟩ := fitR_cons h
  obtain ⟨c2,r2,rfl,k2,h⟩ := fitR_cons h
  obtain ⟨c3,r3,rfl,k3,h⟩ := fitR_cons h
  obtain ⟨c4,r4,rfl,k4,h⟩ := fitR_cons h
  obtain ⟨c5,r5,rfl,k5,h⟩ := fitR_cons h
  obtain ⟨c6,r6,rfl,k6,h⟩ := fitR_cons h
  obtain ⟨c7,r7,rfl,k7,h⟩ := fitR_cons h
  obtain rfl := fitR_nil h
  obtain ⟨x0,rfl⟩ := fitC_bool k0
  obtain ⟨x1,rfl,w1⟩ := fitC_int k1
  obtain ⟨x2,rfl⟩ := fitC_bool k2
  obtain ⟨x3,rfl,w3⟩ := fitC_int k3
  obtain ⟨x4,rfl,w4⟩ := fitC_int k4
  obtain ⟨x5,rfl,w5⟩ := fitC_int k5
  obtain ⟨x6,rfl,w6⟩ := fitC_int k6
  obtain ⟨x7,rfl,w7⟩ := fitC_int k7
  exact ⟨⟨x0,x1,x2,⟨x3,x4,x5,x6,x7⟩⟩,rfl,⟨w1,w3,w4,w5,w6,w7,trivial⟩⟩
theorem Pt.row_mine (v : Pt) : CV.mineRow (Pt.row v) := mine_cons mine_lit (mine_cons mine_lit (mine_cons mine_lit (mine_cons mine_lit (mine_cons mine_lit (mine_cons mine_lit (mine_cons mine_lit (mine_cons mine_lit (mine_nil))))))))
structure Fent where
  Tag : Int
  Mac : Int
  Port : Int
  Age : Int
  Static : Bool
def Fent.row (v : Fent) : List CV := [.lit (.int .i64 v.Tag),.lit (.int .i64 v.Mac),.lit (.int .i64 v.Port),.lit (.int .i64 v.Age),.lit (.bool v.Static)]
def Fent.wf (v : Fent) : Prop := intWf v.Tag ∧ intWf v.Mac ∧ intWf v.Port ∧ intWf v.Age ∧ True
theorem Fent.enc : Enc Fent [.int .i64,.int .i64,.int .i64,.int .i64,.bool] Fent.row Fent.wf := fun cs h => by
  obtain ⟨c0,r0,rfl,k0,h⟩ := fitR_cons h
  obtain ⟨c1,r1,rfl,k1,h⟩ := fitR_cons h
  obtain ⟨c2,r2,rfl,k2,h⟩ := fitR_cons h
  obtain ⟨c3,r3,rfl,k3,h⟩ := fitR_cons h
  obtain ⟨c4,r4,rfl,k4,h⟩ := fitR_cons h
  obtain rfl := fitR_nil h
  obtain ⟨x0,rfl,w0⟩ := fitC_int k0
  obtain ⟨x1,rfl,w1⟩ := fitC_int k1
  obtain ⟨x2,rfl,w2⟩ := fitC_int k2
  obtain ⟨x3,rfl,w3⟩ := fitC_int k3
  obtain ⟨x4,rfl⟩ := fitC_bool k4
  exact ⟨⟨x0,x1,x2,x3,x4⟩,rfl,⟨w0,w1,w2,w3,trivial⟩⟩
theorem Fent.row_mine (v : Fent) : CV.mineRow (Fent.row v) := mine_cons mine_lit (mine_cons mine_lit (mine_cons mine_lit (mine_cons mine_lit (mine_cons mine_lit (mine_nil)))))
structure Bridge where
  Id : Int
  Name : ByteArray
  Ports : (List Pt)
  F : (List Fent)
  V : Vtab
  Ticks : Int
  Parse : Int
  Word : Int
  Drops : Int
  Vers : Int
def Bridge.row (v : Bridge) : List CV := [.lit (.int .i64 v.Id),.lit (.string v.Name),.sl true 8 (v.Ports.map Pt.row),.sl true 5 (v.F.map Fent.row),.sl true 3 (v.V.Rows.map Vrow.row),.sl true 1 (v.V.Pvid.map intRow),.lit (.int .i64 v.Ticks),.lit (.int .i64 v.Parse),.lit (.int .i64 v.Word),.lit (.int .i64 v.Drops),.lit (.int .i64 v.Vers)]
def Bridge.wf (v : Bridge) : Prop := intWf v.Id ∧ v.Name.size ≤ maxLen ∧ listWf Pt.wf v.Ports ∧ listWf Fent.wf v.F ∧ listWf Vrow.wf v.V.Rows ∧ listWf intWf v.V.Pvid ∧ intWf v.Ticks ∧ intWf v.Parse ∧ intWf v.Word ∧ intWf v.Drops ∧ intWf v.Vers ∧ True
theorem Bridge.enc : Enc Bridge [.int .i64,.str,.sl 8 [.bool,.int .i64,.bool,.int .i64,.int .i64,.int .i64,.int .i64,.int .i64],.sl 5 [.int .i64,.int .i64,.int .i64,.int .i64,.bool],.sl 3 [.int .i64,.int .i64,.int .i64],.sl 1 [.int .i64],.int .i64,.int .i64,.int .i64,.int .i64,.int .i64] Bridge.row Bridge.wf := fun cs h => by
  obtain ⟨c0,r0,rfl,k0,h⟩ := fitR_cons h
  obtain ⟨c1,r1,rfl,k1,h⟩ := fitR_cons h
  obtain ⟨c2,r2,rfl,k2,h⟩ := fitR_cons h
  obtain ⟨c3,r3,rfl,k3,h⟩ := fitR_cons h
  obtain ⟨c4,r4,rfl,k4,h⟩ := fitR_cons h
  obtain ⟨c5,r5,rfl,k5,h⟩ := fitR_cons h
  obtain ⟨c6,r6,rfl,k6,h⟩ := fitR_cons h
  obtain ⟨c7,r7,rfl,k7,h⟩ := fitR_cons h
  obtain ⟨c8,r8,rfl,k8,h⟩ := fitR_cons h
  obtain ⟨c9,r9,rfl,k9,h⟩ := fitR_cons h
  obtain ⟨c10,r10,rfl,k10,h⟩ := fitR_cons h
  obtain rfl := fitR_nil h
  obtain ⟨x0,rfl,w0⟩ := fitC_int k0
  obtain ⟨x1,rfl,w1⟩ := fitC_str k1
  obtain ⟨x2,rfl,w2⟩ := Enc.sl Pt.enc k2
  obtain ⟨x3,rfl,w3⟩ := Enc.sl Fent.enc k3
  obtain ⟨x4,rfl,w4⟩ := Enc.sl Vrow.enc k4
  obtain ⟨x5,rfl,w5⟩ := Enc.sl encInt k5
  obtain ⟨x6,rfl,w6⟩ := fitC_int k6
  obtain ⟨x7,rfl,w7⟩ := fitC_int k7
  obtain ⟨x8,rfl,w8⟩ := fitC_int k8
  obtain ⟨x9,rfl,w9⟩ := fitC_int k9
  obtain ⟨x10,rfl,w10⟩ := fitC_int k10
  exact ⟨⟨x0,x1,x2,x3,⟨x4,x5⟩,x6,x7,x8,x9,x10⟩,rfl,⟨w0,w1,w2,w3,w4,w5,w6,w7,w8,w9,w10,trivial⟩⟩
theorem Bridge.row_mine (v : Bridge) : CV.mineRow (Bridge.row v) := mine_cons mine_lit (mine_cons mine_lit (mine_cons (mine_sl (mine_map Pt.row_mine _)) (mine_cons (mine_sl (mine_map Fent.row_mine _)) (mine_cons (mine_sl (mine_map Vrow.row_mine _)) (mine_cons (mine_sl (mine_map intRow_mine _)) (mine_cons mine_lit (mine_cons mine_lit (mine_cons mine_lit (mine_cons mine_lit (mine_cons mine_lit (mine_nil)))))))))))
structure Say where
  Link : Int
  Back : Bool
  V : Vec
def Say.row (v : Say) : List CV := [.lit (.int .i64 v.Link),.lit (.bool v.Back),.lit (.int .i64 v.V.Root),.lit (.int .i64 v.V.Cost),.lit (.int .i64 v.V.Hops),.lit (.int .i64 v.V.Bridge),.lit (.int .i64 v.V.Port)]
def Say.wf (v : Say) : Prop := intWf v.Link ∧ intWf v.V.Root ∧ intWf v.V.Cost ∧ intWf v.V.Hops ∧ intWf v.V.Bridge ∧ intWf v.V.Port ∧ True
theorem Say.enc : Enc Say [.int .i64,.bool,.int .i64,.int .i64,.int .i64,.int .i64,.int .i64] Say.row Say.wf := fun cs h => by
  obtain ⟨c0,r0,rfl,k0,h⟩ := fitR_cons h
  obtain ⟨c1,r1,rfl,k1,h⟩ := fitR_cons h
  obtain ⟨c2,r2,rfl,k2,h⟩ := fitR_cons h
  obtain ⟨c3,r3,rfl,k3,h⟩ := fitR_cons h
  obtain ⟨c4,r4,rfl,k4,h⟩ := fitR_cons h
  obtain ⟨c5,r5,rfl,k5,h⟩ := fitR_cons h
  obtain ⟨c6,r6,rfl,k6,h⟩ := fitR_cons h
  obtain rfl := fitR_nil h
  obtain ⟨x0,rfl,w0⟩ := fitC_int k0
  obtain ⟨x1,rfl⟩ := fitC_bool k1
  obtain ⟨x2,rfl,w2⟩ := fitC_int k2
  obtain ⟨x3,rfl,w3⟩ := fitC_int k3
  obtain ⟨x4,rfl,w4⟩ := fitC_int k4
  obtain ⟨x5,rfl,w5⟩ := fitC_int k5
  obtain ⟨x6,rfl,w6⟩ := fitC_int k6
  exact ⟨⟨x0,x1,⟨x2,x3,x4,x5,x6⟩⟩,rfl,⟨w0,w2,w3,w4,w5,w6,trivial⟩⟩
theorem Say.row_mine (v : Say) : CV.mineRow (Say.row v) := mine_cons mine_lit (mine_cons mine_lit (mine_cons mine_lit (mine_cons mine_lit (mine_cons mine_lit (mine_cons mine_lit (mine_cons mine_lit (mine_nil)))))))
structure Net where
  Bridges : (List Bridge)
  Links : (List Link)
  Said : (List Say)
def Net.row (v : Net) : List CV := [.sl true 11 (v.Bridges.map Bridge.row),.sl true 4 (v.Links.map Link.row),.sl true 7 (v.Said.map Say.row)]
def Net.wf (v : Net) : Prop := listWf Bridge.wf v.Bridges ∧ listWf Link.wf v.Links ∧ listWf Say.wf v.Said ∧ True
theorem Net.enc : Enc Net [.sl 11 [.int .i64,.str,.sl 8 [.bool,.int .i64,.bool,.int .i64,.int .i64,.int .i64,.int .i64,.int .i64],.sl 5 [.int .i64,.int .i64,.int .i64,.int .i64,.bool],.sl 3 [.int .i64,.int .i64,.int .i64],.sl 1 [.int .i64],.int .i64,.int .i64,.int .i64,.int .i64,.int .i64],.sl 4 [.int .i64,.int .i64,.int .i64,.int .i64],.sl 7 [.int .i64,.bool,.int .i64,.int .i64,.int .i64,.int .i64,.int .i64]] Net.row Net.wf := fun cs h => by
  obtain ⟨c0,r0,rfl,k0,h⟩ := fitR_cons h
  obtain ⟨c1,r1,rfl,k1,h⟩ := fitR_cons h
  obtain ⟨c2,r2,rfl,k2,h⟩ := fitR_cons h
  obtain rfl := fitR_nil h
  obtain ⟨x0,rfl,w0⟩ := Enc.sl Bridge.enc k0
  obtain ⟨x1,rfl,w1⟩ := Enc.sl Link.enc k1
  obtain ⟨x2,rfl,w2⟩ := Enc.sl Say.enc k2
  exact ⟨⟨x0,x1,x2⟩,rfl,⟨w0,w1,w2,trivial⟩⟩
theorem Net.row_mine (v : Net) : CV.mineRow (Net.row v) := mine_cons (mine_sl (mine_map Bridge.row_mine _)) (mine_cons (mine_sl (mine_map Link.row_mine _)) (mine_cons (mine_sl (mine_map Say.row_mine _)) (mine_nil)))
def laws_szLinkSF (n : Nat) (x0 : (List Link)) (x1 : Int) : Option (Int) :=
  (bif (decide ((IntKind.wrap .i64 (x1 - (x0.length : Int))) < 0)) then (some (-1)) else (some (IntKind.wrap .i64 (x1 - (x0.length : Int)))))
noncomputable abbrev G12 (k : Nat) := Rg Tryz.f12 k
theorem laws_szLinkS (n : Nat) (x0 : (List Link)) (x1 : Int) (r : Int) (H : laws_szLinkSF n x0 x1 = some r) : LCall Tryz.prog 12 [.val false [.sl false 4 (CV.frzEs (x0.map Link.row))],.val false [.lit (.int .i64 x1)]] [.val false [.lit (.int .i64 r)]] [] := by
 refine LCall.of_body tOk Tryz.func12 rfl (c := (.seq (G12 0) (.seq (G12 1) (.seq (.seq (G12 2) (.cond (.tmp 10) (.seq (G12 3) .ret) .skip)) (.seq (G12 4) .ret))))) kr (Nat.le_of_ble_eq_true kr) 0 (rs := [.tmp 4]) rfl [] .nil [(false,[.lit (.int .i64 r)])] [] [] fun cx => ?_
 show Tr _ _ _ ⟨12,0,[sC 0 (cF 4 x0 Link.row),sI 1 x1],[]⟩ _
 unfold laws_szLinkSF at H
 refine tG tOk 1 3 0 kr kr ?_
 refine rU tOk 2 kr ?_
 refine lL tOk 23 3 130 6 7 none ⟨(.slot 6),[],0,false,4,(CV.frzEs (x0.map Link.row))⟩ (x0).length _ kr kr kr kr kr (frz_len _ _) rfl ?_
 refine uD tOk 2 2 0 kr kr ?_
 refine tS ?_
 refine tG tOk 2 1026 0 kr kr ?_
 obtain ⟨h1,H⟩ | ⟨h1,H⟩ := bC H
 ·refine tF h1 kr ?_
  refine tK ?_
  refine tG tOk 2 16 0 kr kr ?_
  exact te (by obtain rfl := si H; exact fO [(false,[cI (IntKind.wrap .i64 (x1 - (x0.length : Int)))])] kr rfl rfl)
 refine tT h1 kr ?_
 refine tG tOk 1 16 0 kr kr ?_
 exact te (by obtain rfl := si H; exact fO [(false,[cI (-1)])] kr rfl rfl)
def laws_toIntS_J1 (n : Nat) (y4 : (List Int)) : Option ((List Int)) :=
  (some y4)
def laws_toIntS_L2 (n : Nat) : Nat → (List Int) → Int → (List Int) → Option (((List Int)) ⊕ ((List Int)))
  | 0,_,_,_ => none
  | mo5 + 1,x0,y2,y3 => (bif (decide (y2 < (x0.length : Int))) then ((idx x0 y2).bind fun v6 => ((idx y3 y2).bind fun v7 => (laws_toIntS_L2 n mo5 x0 (IntKind.wrap .i64 (y2 + 1)) (y3.set (y2.toNat) v6)))) else (some (Sum.inl y3)))
def laws_toIntSF (n : Nat) (x0 : (List Int)) : Option ((List Int)) :=
  (bif (decide (0 ≤ (x0.length : Int)) && decide ((x0.length : Int) ≤ 268435456)) then ((laws_toIntS_L2 n n x0 0 (List.replicate ((x0.length : Int)).toNat 0)).bind fun o => match o with | .inl y4 => (laws_toIntS_J1 n y4) | .inr r => some r) else none)
noncomputable abbrev G14 (k : Nat) := Rg Tryz.f14 k
theorem laws_toIntS (n : Nat) (x0 : (List Int)) (r : (List Int)) (H : laws_toIntSF n x0 = some r) : LCall Tryz.prog 14 [.val false [.sl false 1 (CV.frzEs (x0.map intRow))]] [.val false [.sl true 1 (r.map intRow)]] [] := by
 refine LCall.of_body tOk Tryz.func14 rfl (c := (.seq (G14 0) (.seq (G14 1) (.seq (.seq (G14 2) (.block 0 (.loop (.seq (.seq (G14 3) (.cond (.tmp 11) .skip (.exit 0))) (.seq (.block 1 (G14 5)) (G14 4)))))) (.seq (G14 6) .ret))))) kr (Nat.le_of_ble_eq_true kr) 0 (rs := [.tmp 2]) rfl [] .nil [(false,[.sl true 1 (r.map intRow)])] [] [] fun cx => ?_
 show Tr _ _ _ ⟨22,0,[sC 0 (cF 1 x0 intRow)],[]⟩ _
 unfold laws_toIntSF at H
 refine tG tOk 1 1 0 kr kr ?_
 refine rU tOk 1 kr ?_
 refine lL tOk 22 3 3 5 6 none ⟨(.slot 5),[],0,false,1,(CV.frzEs (x0.map intRow))⟩ (x0).length _ kr kr kr kr kr (frz_len _ _) rfl ?_
 obtain ⟨hg1,H⟩ := guard_some H
 refine LAt.makeG tOk (t := 22) (ty := 22) (e := 3) (x := (.tmp 6)) (d := 7) (g := none) (tI 3) (x0.length : Int) ((List.replicate ((x0.length : Int)).toNat 0).map intRow) _ kr kr kr kr kr kr hg1 kr (rep_map _ rfl) rfl ?_
 refine LAt.moveU (T := lk tab) (ty := 22) (x := (.tmp 7)) (d := 3) (g := none) false [cL 1 (List.replicate ((x0.length : Int)).toNat 0) intRow] kr kr kr kr kr ?_
 refine lD 9 0 kr ?_
 refine tS ?_
 refine tG tOk 1 25 0 kr kr ?_
 obtain ⟨o5,eo5,Ho5⟩ := bind_some H
 clear H
 refine Tr.mid (ι := (List Int)) (fun v => ⟨22,0,[sC 3 (cL 1 v intRow)],[]⟩) (fun v => laws_toIntS_J1 n v = some r) ?_ ?_
 ·refine tB ?_
  refine Tr.loop (ι := Nat × (Int × (List Int))) (fun v => ⟨22,0,[sI 4 v.2.1,sC 3 (cL 1 v.2.2 intRow),sC 0 (cF 1 x0 intRow)],[]⟩) (fun v => laws_toIntS_L2 n v.1 x0 v.2.1 v.2.2 = some o5) (fun v => v.1) (n,(0,(List.replicate ((x0.length : Int)).toNat 0))) eo5 (St.sub_of [4,3,0] [] kr) ?_
  rintro ⟨mo5,y2,y3⟩ H
  have H : laws_toIntS_L2 n mo5 x0 y2 y3 = some o5 := H
  obtain _ | mo5 := mo5
  ·cases (show (none : Option _) = some o5 from H)
  rw [laws_toIntS_L2] at H
  refine tS ?_
  refine rU tOk 2 kr ?_
  refine lL tOk 22 3 3 9 10 none ⟨(.slot 9),[],0,false,1,(CV.frzEs (x0.map intRow))⟩ (x0).length _ kr kr kr kr kr (frz_len _ _) rfl ?_
  refine uD tOk 1 2073 0 kr kr ?_
  obtain ⟨h1,H⟩ | ⟨h1,H⟩ := bC H
  ·refine tF h1 kr ?_
   refine Tr.exit ?_
   refine And.intro (fun _ => ?_) (fun h => absurd rfl h)
   obtain rfl := si H
   have H := Ho5
   dsimp only at H
   exact jn y3 H (sB_ [3] [] kr)
  refine tT h1 kr ?_
  refine tK ?_
  refine tS ?_
  refine tB ?_
  refine Tr.at ?_
  refine lU tOk 4 kr ?_
  obtain ⟨v6,ev6,H⟩ := bind_some H
  refine lI tOk 22 0 16 17 18 none ⟨(.slot 16),[],0,false,1,(CV.frzEs (x0.map intRow))⟩ y2 [cI v6] _ kr kr kr kr rfl (idx_isF ev6) rfl ?_
  refine lU tOk 1 kr ?_
  obtain ⟨v7,ev7,H⟩ := bind_some H
  refine lO tOk 22 0 14 15 20 none ⟨(.slot 3),[],0,true,1,(y3.map intRow)⟩ y2 (y2.toNat) (intRow v7) _ kr kr kr kr rfl kr (idx_isE ev7) rfl rfl ?_
  refine lW tOk (t := 3) (ty := 0) (ad := (.tmp 20)) (x := (.tmp 19)) (g := none) (tI 3) false [cI v6] 3 0 (y2.toNat) 1 0 1 y3 intRow v7 v6 kr kr kr kr kr kr kr kr (idx_get ev7).2 kr kr kr kr ?_
  refine lD 25 0 kr ?_
  refine tE tOk 3 25 0 kr kr ?_
  exact jn (mo5,((IntKind.wrap .i64 (y2 + 1)),(y3.set (y2.toNat) v6))) H (sM mo5 [4,3,0] [] kr)
 rintro y4 H
 have H : (laws_toIntS_J1 n y4) = some r := H
 unfold laws_toIntS_J1 at H
 refine tG tOk 2 12 0 kr kr ?_
 exact te (by obtain rfl := si H; exact fO [(false,[cL 1 y4 intRow])] kr rfl rfl)
def laws_toLinkF (n : Nat) (x0 : Link) : Option (Link) :=
  (some x0)
noncomputable abbrev G80 (k : Nat) := Rg Tryz.f80 k
theorem laws_toLink (n : Nat) (x0 : Link) (r : Link) (H : laws_toLinkF n x0 = some r) : LCall Tryz.prog 80 [.val true (CV.frzRow (Link.row x0))] [.val true (Link.row r)] [] := by
 refine LCall.of_body tOk Tryz.func80 rfl (c := (.seq (G80 0) (.seq (G80 1) (.seq (G80 2) (.seq (G80 3) (.seq (G80 4) (.seq (G80 5) (.seq (G80 6) .ret)))))))) kr (Nat.le_of_ble_eq_true kr) 0 (rs := [.cell 2 126]) rfl [] .nil [(true,(Link.row r))] [] [] fun cx => ?_
 show Tr _ _ _ ⟨17,0,[sV 0 (Link.row x0)],[]⟩ _
 unfold laws_toLinkF at H
 refine tG tOk 2 6 6 kr kr ?_
 refine tG tOk 1 14 14 kr kr ?_
 refine tG tOk 4 14 14 kr kr ?_
 refine tG tOk 4 14 14 kr kr ?_
 refine tG tOk 4 14 14 kr kr ?_
 refine tG tOk 4 12 12 kr kr ?_
 refine tG tOk 2 4 4 kr kr ?_
 exact te (by obtain rfl := si H; exact fO [(true,(Link.row x0))] kr rfl rfl)
def laws_toLinkS_J1 (n : Nat) (y4 : (List Link)) : Option ((List Link)) :=
  (some y4)
def laws_toLinkS_L2 (n : Nat) : Nat → (List Link) → Int → (List Link) → Option (((List Link)) ⊕ ((List Link)))
  | 0,_,_,_ => none
  | mo5 + 1,x0,y2,y3 => (bif (decide (y2 < (x0.length : Int))) then ((idx x0 y2).bind fun v6 => ((laws_toLinkF n v6).bind fun r7 => ((idx y3 y2).bind fun v8 => (laws_toLinkS_L2 n mo5 x0 (IntKind.wrap .i64 (y2 + 1)) (y3.set (y2.toNat) r7))))) else (some (Sum.inl y3)))
def laws_toLinkSF (n : Nat) (x0 : (List Link)) : Option ((List Link)) :=
  (bif (decide (0 ≤ (x0.length : Int)) && decide ((x0.length : Int) ≤ 268435456)) then ((laws_toLinkS_L2 n n x0 0 (List.replicate ((x0.length : Int)).toNat (⟨0,0,0,0⟩ : Link))).bind fun o => match o with | .inl y4 => (laws_toLinkS_J1 n y4) | .inr r => some r) else none)
noncomputable abbrev G15 (k : Nat) := Rg Tryz.f15 k
theorem laws_toLinkS (n : Nat) (x0 : (List Link)) (r : (List Link)) (H : laws_toLinkSF n x0 = some r) : LCall Tryz.prog 15 [.val false [.sl false 4 (CV.frzEs (x0.map Link.row))]] [.val false [.sl true 4 (r.map Link.row)]] [] := by
 refine LCall.of_body tOk Tryz.func15 rfl (c := (.seq (G15 0) (.seq (G15 1) (.seq (.seq (G15 2) (.block 0 (.loop (.seq (.seq (G15 3) (.cond (.tmp 11) .skip (.exit 0))) (.seq (.block 1 (G15 5)) (G15 4)))))) (.seq (G15 6) .ret))))) kr (Nat.le_of_ble_eq_true kr) 0 (rs := [.tmp 2]) rfl [] .nil [(false,[.sl true 4 (r.map Link.row)])] [] [] fun cx => ?_
 show Tr _ _ _ ⟨23,0,[sC 0 (cF 4 x0 Link.row)],[]⟩ _
 unfold laws_toLinkSF at H
 refine tG tOk 1 1 0 kr kr ?_
 refine rU tOk 1 kr ?_
 refine lL tOk 23 3 130 5 6 none ⟨(.slot 5),[],0,false,4,(CV.frzEs (x0.map Link.row))⟩ (x0).length _ kr kr kr kr kr (frz_len _ _) rfl ?_
 obtain ⟨hg1,H⟩ := guard_some H
 refine LAt.makeG tOk (t := 26) (ty := 26) (e := 126) (x := (.tmp 6)) (d := 7) (g := none) (tI 126) (x0.length : Int) ((List.replicate ((x0.length : Int)).toNat (⟨0,0,0,0⟩ : Link)).map Link.row) _ kr kr kr kr kr kr hg1 kr (rep_map _ rfl) rfl ?_
 refine LAt.moveU (T := lk tab) (ty := 26) (x := (.tmp 7)) (d := 3) (g := none) false [cL 4 (List.replicate ((x0.length : Int)).toNat (⟨0,0,0,0⟩ : Link)) Link.row] kr kr kr kr kr ?_
 refine lD 9 0 kr ?_
 refine tS ?_
 refine tG tOk 1 25 0 kr kr ?_
 obtain ⟨o5,eo5,Ho5⟩ := bind_some H
 clear H
 refine Tr.mid (ι := (List Link)) (fun v => ⟨23,0,[sC 3 (cL 4 v Link.row)],[]⟩) (fun v => laws_toLinkS_J1 n v = some r) ?_ ?_
 ·refine tB ?_
  refine Tr.loop (ι := Nat × (Int × (List Link))) (fun v => ⟨23,0,[sI 4 v.2.1,sC 3 (cL 4 v.2.2 Link.row),sC 0 (cF 4 x0 Link.row)],[]⟩) (fun v => laws_toLinkS_L2 n v.1 x0 v.2.1 v.2.2 = some o5) (fun v => v.1) (n,(0,(List.replicate ((x0.length : Int)).toNat (⟨0,0,0,0⟩ : Link)))) eo5 (St.sub_of [4,3,0] [] kr) ?_
  rintro ⟨mo5,y2,y3⟩ H
  have H : laws_toLinkS_L2 n mo5 x0 y2 y3 = some o5 := H
  obtain _ | mo5 := mo5
  ·cases (show (none : Option _) = some o5 from H)
  rw [laws_toLinkS_L2] at H
  refine tS ?_
  refine rU tOk 2 kr ?_
  refine lL tOk 23 3 130 9 10 none ⟨(.slot 9),[],0,false,4,(CV.frzEs (x0.map Link.row))⟩ (x0).length _ kr kr kr kr kr (frz_len _ _) rfl ?_
  refine uD tOk 1 2073 0 kr kr ?_
  obtain ⟨h1,H⟩ | ⟨h1,H⟩ := bC H
  ·refine tF h1 kr ?_
   refine Tr.exit ?_
   refine And.intro (fun _ => ?_) (fun h => absurd rfl h)
   obtain rfl := si H
   have H := Ho5
   dsimp only at H
   exact jn y3 H (sB_ [3] [] kr)
  refine tT h1 kr ?_
  refine tK ?_
  refine tS ?_
  refine tB ?_
  refine Tr.at ?_
  refine lU tOk 4 kr ?_
  obtain ⟨v6,ev6,H⟩ := bind_some H
  refine lI tOk 23 0 16 17 18 none ⟨(.slot 16),[],0,false,4,(CV.frzEs (x0.map Link.row))⟩ y2 (Link.row v6) _ kr kr kr kr rfl (idx_isF ev6) rfl ?_
  refine lU tOk 1 kr ?_
  obtain ⟨r7,er7,H⟩ := bind_some H
  refine lV tOk [.rd] [] (laws_toLink n v6 r7 er7) kr kr kr kr (.inl rfl) ?_
  obtain ⟨v8,ev8,H⟩ := bind_some H
  refine lO tOk 26 0 14 15 21 none ⟨(.slot 3),[],0,true,4,(y3.map Link.row)⟩ y2 (y2.toNat) (Link.row v8) _ kr kr kr kr rfl kr (idx_isE ev8) rfl rfl ?_
  refine lW tOk (t := 126) (ty := 0) (ad := (.tmp 21)) (x := (.tmp 20)) (g := none) (tI 126) true (Link.row r7) 3 0 (y2.toNat) 4 0 4 y3 Link.row v8 r7 kr kr kr kr kr kr kr kr (idx_get ev8).2 kr kr kr kr ?_
  refine lD 25 0 kr ?_
  refine tE tOk 3 25 0 kr kr ?_
  exact jn (mo5,((IntKind.wrap .i64 (y2 + 1)),(y3.set (y2.toNat) r7))) H (sM mo5 [4,3,0] [] kr)
 rintro y4 H
 have H : (laws_toLinkS_J1 n y4) = some r := H
 unfold laws_toLinkS_J1 at H
 refine tG tOk 2 12 0 kr kr ?_
 exact te (by obtain rfl := si H; exact fO [(false,[cL 4 y4 Link.row])] kr rfl rfl)
def spec_l1InF (n : Nat) (x0 : Int) (x1 : Int) (x2 : Int) : Option (Bool) :=
  (bif (decide (x0 ≥ x1)) then (some (decide (x0 ≤ x2))) else (some false))
noncomputable abbrev G140 (k : Nat) := Rg Tryz.f140 k
theorem spec_l1In (n : Nat) (x0 : Int) (x1 : Int) (x2 : Int) (r : Bool) (H : spec_l1InF n x0 x1 x2 = some r) : LCall Tryz.prog 140 [.val false [.lit (.int .i64 x0)],.val false [.lit (.int .i64 x1)],.val false [.lit (.int .i64 x2)]] [.val false [.lit (.bool r)]] [] := by
 refine LCall.of_body tOk Tryz.func140 rfl (c := (.seq (G140 0) (.seq (G140 1) .ret))) kr (Nat.le_of_ble_eq_true kr) 0 (rs := [.tmp 6]) rfl [] .nil [(false,[.lit (.bool r)])] [] [] fun cx => ?_
 show Tr _ _ _ ⟨15,0,[sI 0 x0,sI 1 x1,sI 2 x2],[]⟩ _
 unfold spec_l1InF at H
 refine tG tOk 1 7 0 kr kr ?_
 refine rU tOk 4 kr ?_
 refine lT ⟨15,0,[sB 10 (decide (x0 ≥ x1)),sB 9 (decide (x0 ≥ x1)),sI 8 x1,sI 7 x0,sI 0 x0,sI 1 x1,sI 2 x2],[]⟩ kr ?_
 cases h1 : (decide (x0 ≥ x1))
 ·have H := bifF h1 H
  refine uD tOk 5 64 0 kr kr ?_
  exact te (by obtain rfl := si H; exact fO [(false,[cB false])] kr rfl rfl)
 have H := bifT h1 H
 refine uD tOk 5 64 0 kr kr ?_
 exact te (by obtain rfl := si H; exact fO [(false,[cB (decide (x0 ≤ x2))])] kr rfl rfl)
def spec_VtabNew_J1 (n : Nat) (x0 : Int) (y5 : (List Int)) : Option (Vtab) :=
  (some (⟨[(⟨1,(IntKind.wrap .i64 ((IntKind.wrap .i64 (1 * 2 ^ min (((IntKind.wrap .u64 x0) : Int)).toNat (IntKind.bits .i64))) - 1)),(IntKind.wrap .i64 ((IntKind.wrap .i64 (1 * 2 ^ min (((IntKind.wrap .u64 x0) : Int)).toNat (IntKind.bits .i64))) - 1))⟩ : Vrow)],y5⟩ : Vtab))
def spec_VtabNew_L2 (n : Nat) : Nat → Int → Int → (List Int) → Option (((List Int)) ⊕ (Vtab))
  | 0,_,_,_ => none
  | mo6 + 1,x0,y3,y4 => (bif (decide (y3 < x0)) then (bif (decide (y4.length + [1].length ≤ 268435456)) then (spec_VtabNew_L2 n mo6 x0 (IntKind.wrap .i64 (y3 + 1)) (y4 ++ [1])) else none) else (some (Sum.inl y4)))
def spec_VtabNewF (n : Nat) (x0 : Int) : Option (Vtab) :=
  ((spec_l1InF n x0 1 6).bind fun r1 => (bif (!r1) then (some (⟨([] : List Vrow),([] : List Int)⟩ : Vtab)) else (bif (decide ((0 : Int) ≤ (IntKind.wrap .u64 x0))) then ((spec_VtabNew_L2 n n x0 0 ([] : List Int)).bind fun o => match o with | .inl y5 => (spec_VtabNew_J1 n x0 y5) | .inr r => some r) else none)))
noncomputable abbrev G180 (k : Nat) := Rg Tryz.f180 k
theorem spec_VtabNew (n : Nat) (x0 : Int) (r : Vtab) (H : spec_VtabNewF n x0 = some r) : LCall Tryz.prog 180 [.val false [.lit (.int .i64 x0)]] [.val true (Vtab.row r)] [] := by
 refine LCall.of_body tOk Tryz.func180 rfl (c := (.seq (G180 0) (.seq (.seq (G180 1) (.cond (.tmp 8) (.seq (G180 2) .ret) .skip)) (.seq (G180 3) (.seq (G180 4) (.seq (.seq (G180 5) (.block 0 (.loop (.seq (.seq (G180 6) (.cond (.tmp 21) .skip (.exit 0))) (.seq (.block 1 (G180 8)) (G180 7)))))) (.seq (G180 9) .ret))))))) kr (Nat.le_of_ble_eq_true kr) 0 (rs := [.cell 2 56]) rfl [] .nil [(true,(Vtab.row r))] [] [] fun cx => ?_
 show Tr _ _ _ ⟨30,0,[sI 0 x0],[]⟩ _
 unfold spec_VtabNewF at H
 refine tG tOk 1 5 4 kr kr ?_
 refine tS ?_
 refine rU tOk 1 kr ?_
 obtain ⟨r1,er1,H⟩ := bind_some H
 refine lV tOk [.rd,.rd,.rd] [] (spec_l1In n x0 1 6 r1 er1) kr kr kr kr (.inl rfl) ?_
 refine uD tOk 1 261 4 kr kr ?_
 obtain ⟨h1,H⟩ | ⟨h1,H⟩ := bC H
 ·refine tF h1 kr ?_
  refine tK ?_
  refine rU tOk 2 kr ?_
  obtain ⟨hg2,H⟩ := guard_some H
  refine LAt.binC tOk (op := .shl) (t := 3) (ty := 145) (ty' := 3) (x := (.const (.int .i64 1))) (y := (.tmp 11)) (d := 12) (g := none) (.int .i64 1) (.int .u64 (IntKind.wrap .u64 x0)) (.int .i64 (IntKind.wrap .i64 (1 * 2 ^ min (((IntKind.wrap .u64 x0) : Int)).toNat (IntKind.bits .i64)))) _ kr kr kr kr kr (φ := (0 : Int) ≤ (IntKind.wrap .u64 x0)) kr (of_decide_eq_true hg2) rfl ?_
  refine uD tOk 2 13 4 kr kr ?_
  refine tG tOk 7 21 20 kr kr ?_
  refine tS ?_
  refine tG tOk 1 53 20 kr kr ?_
  obtain ⟨o6,eo6,Ho6⟩ := bind_some H
  clear H
  refine Tr.mid (ι := (List Int)) (fun v => ⟨30,0,[sA 4 4 2 0,sA 2 2 2 0],[(4,[cL 3 [(⟨1,(IntKind.wrap .i64 ((IntKind.wrap .i64 (1 * 2 ^ min (((IntKind.wrap .u64 x0) : Int)).toNat (IntKind.bits .i64))) - 1)),(IntKind.wrap .i64 ((IntKind.wrap .i64 (1 * 2 ^ min (((IntKind.wrap .u64 x0) : Int)).toNat (IntKind.bits .i64))) - 1))⟩ : Vrow)] Vrow.row,cL 1 v intRow]),(2,[cL 3 ([] : List Vrow) Vrow.row,cL 1 ([] : List Int) intRow])]⟩) (fun v => spec_VtabNew_J1 n x0 v = some r) ?_ ?_
  ·refine tB ?_
   refine Tr.loop (ι := Nat × (Int × (List Int))) (fun v => ⟨30,0,[sI 5 v.2.1,sA 4 4 2 0,sA 2 2 2 0,sI 0 x0],[(4,[cL 3 [(⟨1,(IntKind.wrap .i64 ((IntKind.wrap .i64 (1 * 2 ^ min (((IntKind.wrap .u64 x0) : Int)).toNat (IntKind.bits .i64))) - 1)),(IntKind.wrap .i64 ((IntKind.wrap .i64 (1 * 2 ^ min (((IntKind.wrap .u64 x0) : Int)).toNat (IntKind.bits .i64))) - 1))⟩ : Vrow)] Vrow.row,cL 1 v.2.2 intRow]),(2,[cL 3 ([] : List Vrow) Vrow.row,cL 1 ([] : List Int) intRow])]⟩) (fun v => spec_VtabNew_L2 n v.1 x0 v.2.1 v.2.2 = some o6) (fun v => v.1) (n,(0,([] : List Int))) eo6 (St.sub_of [5,4,2,0] [4,2] kr) ?_
   rintro ⟨mo6,y3,y4⟩ H
   have H : spec_VtabNew_L2 n mo6 x0 y3 y4 = some o6 := H
   obtain _ | mo6 := mo6
   ·cases (show (none : Option _) = some o6 from H)
   rw [spec_VtabNew_L2] at H
   refine tS ?_
   refine tG tOk 3 2097205 20 kr kr ?_
   obtain ⟨h2,H⟩ | ⟨h2,H⟩ := bC H
   ·refine tF h2 kr ?_
    refine Tr.exit ?_
    refine And.intro (fun _ => ?_) (fun h => absurd rfl h)
    obtain rfl := si H
    have H := Ho6
    dsimp only at H
    exact jn y4 H (sB_ [4,2] [4,2] kr)
   refine tT h2 kr ?_
   refine tK ?_
   refine tS ?_
   refine tB ?_
   refine Tr.at ?_
   refine lU tOk 3 kr ?_
   obtain ⟨hg7,H⟩ := guard_some H
   refine LAt.appMU tOk (t := 22) (ty := 22) (e := 3) (x := (.tmp 25)) (y := (.tmp 26)) (d := 27) (g := none) (tI 3) intRow y4 [1] kr kr kr kr kr kr kr kr kr kr hg7 ?_
   refine uD tOk 2 53 20 kr kr ?_
   refine tE tOk 3 53 20 kr kr ?_
   exact jn (mo6,((IntKind.wrap .i64 (y3 + 1)),(y4 ++ [1]))) H (sM mo6 [5,4,2,0] [4,2] kr)
  rintro y5 H
  have H : (spec_VtabNew_J1 n x0 y5) = some r := H
  unfold spec_VtabNew_J1 at H
  refine tG tOk 2 4 4 kr kr ?_
  exact te (by obtain rfl := si H; exact fO [(true,[cL 3 [(⟨1,(IntKind.wrap .i64 ((IntKind.wrap .i64 (1 * 2 ^ min (((IntKind.wrap .u64 x0) : Int)).toNat (IntKind.bits .i64))) - 1)),(IntKind.wrap .i64 ((IntKind.wrap .i64 (1 * 2 ^ min (((IntKind.wrap .u64 x0) : Int)).toNat (IntKind.bits .i64))) - 1))⟩ : Vrow)] Vrow.row,cL 1 y5 intRow])] kr rfl rfl)
 refine tT h1 kr ?_
 refine tG tOk 2 4 4 kr kr ?_
 exact te (by obtain rfl := si H; exact fO [(true,[cL 3 ([] : List Vrow) Vrow.row,cL 1 ([] : List Int) intRow])] kr rfl rfl)
def spec_BridgeNew_J1 (n : Nat) (r3 : Vtab) (x0 : Int) (y6 : (List Pt)) : Option (Bridge) :=
  (some (⟨x0,(⟨#[]⟩ : ByteArray),y6,([] : List Fent),r3,0,0,0,0,0⟩ : Bridge))
def spec_BridgeNew_L2 (n : Nat) : Nat → Int → Int → (List Pt) → Option (((List Pt)) ⊕ (Bridge))
  | 0,_,_,_ => none
  | mo7 + 1,x1,y4,y5 => (bif (decide (y4 < x1)) then (bif (decide (y5.length + [(⟨false,1,false,(⟨0,0,0,0,0⟩ : Vec)⟩ : Pt)].length ≤ 268435456)) then (spec_BridgeNew_L2 n mo7 x1 (IntKind.wrap .i64 (y4 + 1)) (y5 ++ [(⟨false,1,false,(⟨0,0,0,0,0⟩ : Vec)⟩ : Pt)])) else none) else (some (Sum.inl y5)))
def spec_BridgeNewF (n : Nat) (x0 : Int) (x1 : Int) : Option (Bridge) :=
  ((spec_l1InF n x0 1 99).bind fun r1 => (bif (!r1) then (some (⟨0,(⟨#[]⟩ : ByteArray),([] : List Pt),([] : List Fent),(⟨([] : List Vrow),([] : List Int)⟩ : Vtab),0,0,0,0,0⟩ : Bridge)) else ((spec_l1InF n x1 1 6).bind fun r2 => (bif (!r2) then (some (⟨0,(⟨#[]⟩ : ByteArray),([] : List Pt),([] : List Fent),(⟨([] : List Vrow),([] : List Int)⟩ : Vtab),0,0,0,0,0⟩ : Bridge)) else ((spec_VtabNewF n x1).bind fun r3 => ((spec_BridgeNew_L2 n n x1 0 ([] : List Pt)).bind fun o => match o with | .inl y6 => (spec_BridgeNew_J1 n r3 x0 y6) | .inr r => some r))))))
noncomputable abbrev G78 (k : Nat) := Rg Tryz.f78 k
theorem spec_BridgeNew (n : Nat) (x0 : Int) (x1 : Int) (r : Bridge) (H : spec_BridgeNewF n x0 x1 = some r) : LCall Tryz.prog 78 [.val false [.lit (.int .i64 x0)],.val false [.lit (.int .i64 x1)]] [.val true (Bridge.row r)] [] := by
 refine LCall.of_body tOk Tryz.func78 rfl (c := (.seq (G78 0) (.seq (.seq (G78 1) (.cond (.tmp 14) (.seq (G78 2) .ret) .skip)) (.seq (G78 3) (.seq (.seq (G78 4) (.block 0 (.loop (.seq (.seq (G78 5) (.cond (.tmp 22) .skip (.exit 0))) (.seq (.block 1 (G78 7)) (G78 6)))))) (.seq (G78 8) .ret)))))) kr (Nat.le_of_ble_eq_true kr) 0 (rs := [.cell 4 58]) rfl [] .nil [(true,(Bridge.row r))] [] [] fun cx => ?_
 show Tr _ _ _ ⟨32,0,[sI 0 x0,sI 1 x1],[]⟩ _
 unfold spec_BridgeNewF at H
 refine tG tOk 1 19 16 kr kr ?_
 refine tS ?_
 refine rU tOk 1 kr ?_
 obtain ⟨r1,er1,H⟩ := bind_some H
 refine lV tOk [.rd,.rd,.rd] [] (spec_l1In n x0 1 99 r1 er1) kr kr kr kr (.inl rfl) ?_
 refine lU tOk 2 kr ?_
 refine lT ⟨32,0,[sB 10 (!r1),sB 9 (!r1),sB 8 r1,sI 7 x0,sA 4 4 11 0,sI 0 x0,sI 1 x1],[(4,[cI 0,cS (⟨#[]⟩ : ByteArray),cL 8 ([] : List Pt) Pt.row,cL 5 ([] : List Fent) Fent.row,cL 3 ([] : List Vrow) Vrow.row,cL 1 ([] : List Int) intRow,cI 0,cI 0,cI 0,cI 0,cI 0])]⟩ kr ?_
 cases h1 : (!r1)
 ·have H := bifF h1 H
  refine lU tOk 1 kr ?_
  obtain ⟨r2,er2,H⟩ := bind_some H
  refine lV tOk [.rd,.rd,.rd] [] (spec_l1In n x1 1 6 r2 er2) kr kr kr kr (.inl rfl) ?_
  refine uD tOk 2 16403 16 kr kr ?_
  obtain ⟨h2,H⟩ | ⟨h2,H⟩ := bC H
  ·refine tF h2 kr ?_
   refine tK ?_
   refine rU tOk 2 kr ?_
   obtain ⟨r3,er3,H⟩ := bind_some H
   refine lV tOk [.rd] [] (spec_VtabNew n x1 r3 er3) kr kr kr kr (.inl rfl) ?_
   refine uD tOk 3 50 48 kr kr ?_
   refine tS ?_
   refine tG tOk 1 114 48 kr kr ?_
   obtain ⟨o7,eo7,Ho7⟩ := bind_some H
   clear H
   refine Tr.mid (ι := (List Pt)) (fun v => ⟨32,0,[sA 5 5 11 0,sA 4 4 11 0],[(5,[cI x0,cS (⟨#[]⟩ : ByteArray),cL 8 v Pt.row,cL 5 ([] : List Fent) Fent.row,cL 3 r3.Rows Vrow.row,cL 1 r3.Pvid intRow,cI 0,cI 0,cI 0,cI 0,cI 0]),(4,[cI 0,cS (⟨#[]⟩ : ByteArray),cL 8 ([] : List Pt) Pt.row,cL 5 ([] : List Fent) Fent.row,cL 3 ([] : List Vrow) Vrow.row,cL 1 ([] : List Int) intRow,cI 0,cI 0,cI 0,cI 0,cI 0])]⟩) (fun v => spec_BridgeNew_J1 n r3 x0 v = some r) ?_ ?_
   ·refine tB ?_
    refine Tr.loop (ι := Nat × (Int × (List Pt))) (fun v => ⟨32,0,[sI 6 v.2.1,sA 5 5 11 0,sA 4 4 11 0,sI 1 x1],[(5,[cI x0,cS (⟨#[]⟩ : ByteArray),cL 8 v.2.2 Pt.row,cL 5 ([] : List Fent) Fent.row,cL 3 r3.Rows Vrow.row,cL 1 r3.Pvid intRow,cI 0,cI 0,cI 0,cI 0,cI 0]),(4,[cI 0,cS (⟨#[]⟩ : ByteArray),cL 8 ([] : List Pt) Pt.row,cL 5 ([] : List Fent) Fent.row,cL 3 ([] : List Vrow) Vrow.row,cL 1 ([] : List Int) intRow,cI 0,cI 0,cI 0,cI 0,cI 0])]⟩) (fun v => spec_BridgeNew_L2 n v.1 x1 v.2.1 v.2.2 = some o7) (fun v => v.1) (n,(0,([] : List Pt))) eo7 (St.sub_of [6,5,4,1] [5,4] kr) ?_
    rintro ⟨mo7,y4,y5⟩ H
    have H : spec_BridgeNew_L2 n mo7 x1 y4 y5 = some o7 := H
    obtain _ | mo7 := mo7
    ·cases (show (none : Option _) = some o7 from H)
    rw [spec_BridgeNew_L2] at H
    refine tS ?_
    refine tG tOk 3 4194418 48 kr kr ?_
    obtain ⟨h3,H⟩ | ⟨h3,H⟩ := bC H
    ·refine tF h3 kr ?_
     refine Tr.exit ?_
     refine And.intro (fun _ => ?_) (fun h => absurd rfl h)
     obtain rfl := si H
     have H := Ho7
     dsimp only at H
     exact jn y5 H (sB_ [5,4] [5,4] kr)
    refine tT h3 kr ?_
    refine tK ?_
    refine tS ?_
    refine tB ?_
    refine Tr.at ?_
    refine lU tOk 4 kr ?_
    obtain ⟨hg8,H⟩ := guard_some H
    refine LAt.appMU tOk (t := 52) (ty := 52) (e := 182) (x := (.tmp 26)) (y := (.tmp 28)) (d := 29) (g := none) (tI 182) Pt.row y5 [(⟨false,1,false,(⟨0,0,0,0,0⟩ : Vec)⟩ : Pt)] kr kr kr kr kr kr kr kr kr kr hg8 ?_
    refine uD tOk 2 114 48 kr kr ?_
    refine tE tOk 3 114 48 kr kr ?_
    exact jn (mo7,((IntKind.wrap .i64 (y4 + 1)),(y5 ++ [(⟨false,1,false,(⟨0,0,0,0,0⟩ : Vec)⟩ : Pt)]))) H (sM mo7 [6,5,4,1] [5,4] kr)
   rintro y6 H
   have H : (spec_BridgeNew_J1 n r3 x0 y6) = some r := H
   unfold spec_BridgeNew_J1 at H
   refine tG tOk 2 16 16 kr kr ?_
   exact te (by obtain rfl := si H; exact fO [(true,[cI x0,cS (⟨#[]⟩ : ByteArray),cL 8 y6 Pt.row,cL 5 ([] : List Fent) Fent.row,cL 3 r3.Rows Vrow.row,cL 1 r3.Pvid intRow,cI 0,cI 0,cI 0,cI 0,cI 0])] kr rfl rfl)
  refine tT h2 kr ?_
  refine tG tOk 2 16 16 kr kr ?_
  exact te (by obtain rfl := si H; exact fO [(true,[cI 0,cS (⟨#[]⟩ : ByteArray),cL 8 ([] : List Pt) Pt.row,cL 5 ([] : List Fent) Fent.row,cL 3 ([] : List Vrow) Vrow.row,cL 1 ([] : List Int) intRow,cI 0,cI 0,cI 0,cI 0,cI 0])] kr rfl rfl)
 have H := bifT h1 H
 refine uD tOk 4 16403 16 kr kr ?_
 refine tt kr ?_
 refine tG tOk 2 16 16 kr kr ?_
 exact te (by obtain rfl := si H; exact fO [(true,[cI 0,cS (⟨#[]⟩ : ByteArray),cL 8 ([] : List Pt) Pt.row,cL 5 ([] : List Fent) Fent.row,cL 3 ([] : List Vrow) Vrow.row,cL 1 ([] : List Int) intRow,cI 0,cI 0,cI 0,cI 0,cI 0])] kr rfl rfl)
def spec_VecOkF (n : Nat) (x0 : Vec) : Option (Bool) :=
  ((spec_l1InF n x0.Root 1 99).bind fun r1 => (bif r1 then ((spec_l1InF n x0.Cost 0 100000).bind fun r2 => (bif r2 then ((spec_l1InF n x0.Hops 0 10).bind fun r3 => (bif r3 then ((spec_l1InF n x0.Bridge 1 99).bind fun r4 => (bif r4 then ((spec_l1InF n x0.Port 0 7).bind fun r5 => (some r5)) else (some false))) else (some false))) else (some false))) else (some false)))
noncomputable abbrev G177 (k : Nat) := Rg Tryz.f177 k
theorem spec_VecOk (n : Nat) (x0 : Vec) (r : Bool) (H : spec_VecOkF n x0 = some r) : LCall Tryz.prog 177 [.val true (CV.frzRow (Vec.row x0))] [.val false [.lit (.bool r)]] [] := by
 refine LCall.of_body tOk Tryz.func177 rfl (c := (.seq (G177 0) (.seq (G177 1) .ret))) kr (Nat.le_of_ble_eq_true kr) 0 (rs := [.tmp 2]) rfl [] .nil [(false,[.lit (.bool r)])] [] [] fun cx => ?_
 show Tr _ _ _ ⟨26,0,[sV 0 (Vec.row x0)],[]⟩ _
 unfold spec_VecOkF at H
 refine tG tOk 2 2 2 kr kr ?_
 refine rU tOk 2 kr ?_
 obtain ⟨r1,er1,H⟩ := bind_some H
 refine lV tOk [.rd,.rd,.rd] [] (spec_l1In n x0.Root 1 99 r1 er1) kr kr kr kr (.inl rfl) ?_
 refine lU tOk 1 kr ?_
 refine lT ⟨26,0,[sB 6 r1,sB 5 r1,sI 4 x0.Root,sA 3 1 5 0,sA 1 1 5 0],[(1,(Vec.row x0))]⟩ kr ?_
 cases h1 : r1
 ·have H := bifF h1 H
  refine uD tOk 20 4 0 kr kr ?_
  exact te (by obtain rfl := si H; exact fO [(false,[cB false])] kr rfl rfl)
 have H := bifT h1 H
 refine lU tOk 2 kr ?_
 obtain ⟨r2,er2,H⟩ := bind_some H
 refine lV tOk [.rd,.rd,.rd] [] (spec_l1In n x0.Cost 0 100000 r2 er2) kr kr kr kr (.inl rfl) ?_
 refine lU tOk 2 kr ?_
 refine lT ⟨26,0,[sB 11 r2,sB 10 r2,sB 9 r2,sI 8 x0.Cost,sA 7 1 5 1,sB 6 true,sB 5 true,sI 4 x0.Root,sA 3 1 5 0,sA 1 1 5 0],[(1,(Vec.row x0))]⟩ kr ?_
 cases h2 : r2
 ·have H := bifF h2 H
  refine uD tOk 15 4 0 kr kr ?_
  exact te (by obtain rfl := si H; exact fO [(false,[cB false])] kr rfl rfl)
 have H := bifT h2 H
 refine lU tOk 2 kr ?_
 obtain ⟨r3,er3,H⟩ := bind_some H
 refine lV tOk [.rd,.rd,.rd] [] (spec_l1In n x0.Hops 0 10 r3 er3) kr kr kr kr (.inl rfl) ?_
 refine lU tOk 2 kr ?_
 refine lT ⟨26,0,[sB 16 r3,sB 15 r3,sB 14 r3,sI 13 x0.Hops,sA 12 1 5 2,sB 11 true,sB 10 true,sB 9 true,sI 8 x0.Cost,sA 7 1 5 1,sB 6 true,sB 5 true,sI 4 x0.Root,sA 3 1 5 0,sA 1 1 5 0],[(1,(Vec.row x0))]⟩ kr ?_
 cases h3 : r3
 ·have H := bifF h3 H
  refine uD tOk 10 4 0 kr kr ?_
  exact te (by obtain rfl := si H; exact fO [(false,[cB false])] kr rfl rfl)
 have H := bifT h3 H
 refine lU tOk 2 kr ?_
 obtain ⟨r4,er4,H⟩ := bind_some H
 refine lV tOk [.rd,.rd,.rd] [] (spec_l1In n x0.Bridge 1 99 r4 er4) kr kr kr kr (.inl rfl) ?_
 refine lU tOk 2 kr ?_
 refine lT ⟨26,0,[sB 21 r4,sB 20 r4,sB 19 r4,sI 18 x0.Bridge,sA 17 1 5 3,sB 16 true,sB 15 true,sB 14 true,sI 13 x0.Hops,sA 12 1 5 2,sB 11 true,sB 10 true,sB 9 true,sI 8 x0.Cost,sA 7 1 5 1,sB 6 true,sB 5 true,sI 4 x0.Root,sA 3 1 5 0,sA 1 1 5 0],[(1,(Vec.row x0))]⟩ kr ?_
 cases h4 : r4
 ·have H := bifF h4 H
  refine uD tOk 5 4 0 kr kr ?_
  exact te (by obtain rfl := si H; exact fO [(false,[cB false])] kr rfl rfl)
 have H := bifT h4 H
 refine lU tOk 2 kr ?_
 obtain ⟨r5,er5,H⟩ := bind_some H
 refine lV tOk [.rd,.rd,.rd] [] (spec_l1In n x0.Port 0 7 r5 er5) kr kr kr kr (.inl rfl) ?_
 refine uD tOk 2 4 0 kr kr ?_
 exact te (by obtain rfl := si H; exact fO [(false,[cB r5])] kr rfl rfl)
def spec_PtOkF (n : Nat) (x0 : Pt) : Option (Bool) :=
  ((spec_l1InF n x0.Cost 1 1000).bind fun r1 => (bif (!r1) then (some false) else (bif (!x0.Up) then (bif x0.Has then (some false) else (some ((x0.Heard.Root == 0) && ((x0.Heard.Cost == 0) && ((x0.Heard.Hops == 0) && ((x0.Heard.Bridge == 0) && ((x0.Heard.Port == 0) && true))))))) else (bif (!x0.Has) then (some ((x0.Heard.Root == 0) && ((x0.Heard.Cost == 0) && ((x0.Heard.Hops == 0) && ((x0.Heard.Bridge == 0) && ((x0.Heard.Port == 0) && true)))))) else ((spec_VecOkF n x0.Heard).bind fun r2 => (some r2))))))
noncomputable abbrev G239 (k : Nat) := Rg Tryz.f239 k
theorem spec_PtOk (n : Nat) (x0 : Pt) (r : Bool) (H : spec_PtOkF n x0 = some r) : LCall Tryz.prog 239 [.val true (CV.frzRow (Pt.row x0))] [.val false [.lit (.bool r)]] [] := by
 refine LCall.of_body tOk Tryz.func239 rfl (c := (.seq (G239 0) (.seq (.seq (G239 1) (.cond (.tmp 15) (.seq (G239 2) .ret) .skip)) (.seq (.seq (G239 3) (.cond (.tmp 18) (.seq (G239 4) .ret) .skip)) (.seq (G239 5) .ret))))) kr (Nat.le_of_ble_eq_true kr) 0 (rs := [.tmp 2]) rfl [] .nil [(false,[.lit (.bool r)])] [] [] fun cx => ?_
 show Tr _ _ _ ⟨26,0,[sV 0 (Pt.row x0)],[]⟩ _
 unfold spec_PtOkF at H
 refine tG tOk 2 2 2 kr kr ?_
 refine tS ?_
 refine rU tOk 2 kr ?_
 obtain ⟨r1,er1,H⟩ := bind_some H
 refine lV tOk [.rd,.rd,.rd] [] (spec_l1In n x0.Cost 1 1000 r1 er1) kr kr kr kr (.inl rfl) ?_
 refine lU tOk 2 kr ?_
 refine lT ⟨26,0,[sB 7 (!r1),sB 6 (!r1),sB 5 r1,sI 4 x0.Cost,sA 3 1 8 1,sA 1 1 8 0],[(1,(Pt.row x0))]⟩ kr ?_
 cases h1 : (!r1)
 ·have H := bifF h1 H
  refine lU tOk 4 kr ?_
  refine lT ⟨26,0,[sB 11 (!x0.Up),sB 10 (!x0.Up),sB 9 x0.Up,sA 8 1 8 0,sB 7 false,sB 6 false,sB 5 r1,sI 4 x0.Cost,sA 3 1 8 1,sA 1 1 8 0],[(1,(Pt.row x0))]⟩ kr ?_
  cases h2 : (!x0.Up)
  ·have H := bifF h2 H
   refine uD tOk 4 32770 2 kr kr ?_
   refine tf kr ?_
   refine tK ?_
   refine tS ?_
   refine tG tOk 3 262146 2 kr kr ?_
   obtain ⟨h3,H⟩ | ⟨h3,H⟩ := bC H
   ·refine tF h3 kr ?_
    refine tK ?_
    refine rU tOk 2 kr ?_
    obtain ⟨r2,er2,H⟩ := bind_some H
    refine lV tOk [.rd] [] (spec_VecOk n x0.Heard r2 er2) kr kr kr kr (.inl rfl) ?_
    refine uD tOk 1 4 0 kr kr ?_
    exact te (by obtain rfl := si H; exact fO [(false,[cB r2])] kr rfl rfl)
   refine tT h3 kr ?_
   refine rU tOk 3 kr ?_
   refine LAt.eqSG false (t := 162) (ty := 162) (ty' := 4) (x := (.tmp 20)) (y := (.tmp 21)) (d := 22) (g := none) ((x0.Heard.Root == 0) && ((x0.Heard.Cost == 0) && ((x0.Heard.Hops == 0) && ((x0.Heard.Bridge == 0) && ((x0.Heard.Port == 0) && true))))) _ kr kr kr kr rfl ?_
   refine uD tOk 1 4 0 kr kr ?_
   exact te (by obtain rfl := si H; exact fO [(false,[cB ((x0.Heard.Root == 0) && ((x0.Heard.Cost == 0) && ((x0.Heard.Hops == 0) && ((x0.Heard.Bridge == 0) && ((x0.Heard.Port == 0) && true)))))])] kr rfl rfl)
  have H := bifT h2 H
  refine uD tOk 4 32770 2 kr kr ?_
  refine tO ⟨26,0,[sB 15 x0.Has,sA 1 1 8 0],[(1,(Pt.row x0))]⟩ kr ?_
  cases h4 : x0.Has
  ·have H := bifF h4 H
   refine tf kr ?_
   refine tK ?_
   refine tS ?_
   refine tG tOk 3 262146 2 kr kr ?_
   refine tO ⟨26,0,[sB 18 (!x0.Has),sA 1 1 8 0],[(1,(Pt.row x0))]⟩ kr ?_
   rw [h4]
   refine tt kr ?_
   refine rU tOk 3 kr ?_
   refine LAt.eqSG false (t := 162) (ty := 162) (ty' := 4) (x := (.tmp 20)) (y := (.tmp 21)) (d := 22) (g := none) ((x0.Heard.Root == 0) && ((x0.Heard.Cost == 0) && ((x0.Heard.Hops == 0) && ((x0.Heard.Bridge == 0) && ((x0.Heard.Port == 0) && true))))) _ kr kr kr kr rfl ?_
   refine uD tOk 1 4 0 kr kr ?_
   exact te (by obtain rfl := si H; exact fO [(false,[cB ((x0.Heard.Root == 0) && ((x0.Heard.Cost == 0) && ((x0.Heard.Hops == 0) && ((x0.Heard.Bridge == 0) && ((x0.Heard.Port == 0) && true)))))])] kr rfl rfl)
  have H := bifT h4 H
  refine tt kr ?_
  refine tG tOk 1 4 0 kr kr ?_
  exact te (by obtain rfl := si H; exact fO [(false,[cB false])] kr rfl rfl)
 have H := bifT h1 H
 refine uD tOk 8 32770 2 kr kr ?_
 refine tt kr ?_
 refine tG tOk 1 4 0 kr kr ?_
 exact te (by obtain rfl := si H; exact fO [(false,[cB false])] kr rfl rfl)
def spec_l8EntF (n : Nat) (x0 : Fent) : Option (Bool) :=
  ((spec_l1InF n x0.Tag 1 99).bind fun r1 => (bif r1 then ((spec_l1InF n x0.Mac 1 9999).bind fun r2 => (bif r2 then ((spec_l1InF n x0.Port 0 7).bind fun r3 => (bif r3 then ((spec_l1InF n x0.Age 0 4).bind fun r4 => (bif r4 then (bif (!x0.Static) then (some true) else (some (x0.Age == 0))) else (some false))) else (some false))) else (some false))) else (some false)))
noncomputable abbrev G198 (k : Nat) := Rg Tryz.f198 k
theorem spec_l8Ent (n : Nat) (x0 : Fent) (r : Bool) (H : spec_l8EntF n x0 = some r) : LCall Tryz.prog 198 [.val true (CV.frzRow (Fent.row x0))] [.val false [.lit (.bool r)]] [] := by
 refine LCall.of_body tOk Tryz.func198 rfl (c := (.seq (G198 0) (.seq (G198 1) .ret))) kr (Nat.le_of_ble_eq_true kr) 0 (rs := [.tmp 2]) rfl [] .nil [(false,[.lit (.bool r)])] [] [] fun cx => ?_
 show Tr _ _ _ ⟨31,0,[sV 0 (Fent.row x0)],[]⟩ _
 unfold spec_l8EntF at H
 refine tG tOk 2 2 2 kr kr ?_
 refine rU tOk 2 kr ?_
 obtain ⟨r1,er1,H⟩ := bind_some H
 refine lV tOk [.rd,.rd,.rd] [] (spec_l1In n x0.Tag 1 99 r1 er1) kr kr kr kr (.inl rfl) ?_
 refine lU tOk 1 kr ?_
 refine lT ⟨31,0,[sB 6 r1,sB 5 r1,sI 4 x0.Tag,sA 3 1 5 0,sA 1 1 5 0],[(1,(Fent.row x0))]⟩ kr ?_
 cases h1 : r1
 ·have H := bifF h1 H
  refine uD tOk 25 4 0 kr kr ?_
  exact te (by obtain rfl := si H; exact fO [(false,[cB false])] kr rfl rfl)
 have H := bifT h1 H
 refine lU tOk 2 kr ?_
 obtain ⟨r2,er2,H⟩ := bind_some H
 refine lV tOk [.rd,.rd,.rd] [] (spec_l1In n x0.Mac 1 9999 r2 er2) kr kr kr kr (.inl rfl) ?_
 refine lU tOk 2 kr ?_
 refine lT ⟨31,0,[sB 11 r2,sB 10 r2,sB 9 r2,sI 8 x0.Mac,sA 7 1 5 1,sB 6 true,sB 5 true,sI 4 x0.Tag,sA 3 1 5 0,sA 1 1 5 0],[(1,(Fent.row x0))]⟩ kr ?_
 cases h2 : r2
 ·have H := bifF h2 H
  refine uD tOk 20 4 0 kr kr ?_
  exact te (by obtain rfl := si H; exact fO [(false,[cB false])] kr rfl rfl)
 have H := bifT h2 H
 refine lU tOk 2 kr ?_
 obtain ⟨r3,er3,H⟩ := bind_some H
 refine lV tOk [.rd,.rd,.rd] [] (spec_l1In n x0.Port 0 7 r3 er3) kr kr kr kr (.inl rfl) ?_
 refine lU tOk 2 kr ?_
 refine lT ⟨31,0,[sB 16 r3,sB 15 r3,sB 14 r3,sI 13 x0.Port,sA 12 1 5 2,sB 11 true,sB 10 true,sB 9 true,sI 8 x0.Mac,sA 7 1 5 1,sB 6 true,sB 5 true,sI 4 x0.Tag,sA 3 1 5 0,sA 1 1 5 0],[(1,(Fent.row x0))]⟩ kr ?_
 cases h3 : r3
 ·have H := bifF h3 H
  refine uD tOk 15 4 0 kr kr ?_
  exact te (by obtain rfl := si H; exact fO [(false,[cB false])] kr rfl rfl)
 have H := bifT h3 H
 refine lU tOk 2 kr ?_
 obtain ⟨r4,er4,H⟩ := bind_some H
 refine lV tOk [.rd,.rd,.rd] [] (spec_l1In n x0.Age 0 4 r4 er4) kr kr kr kr (.inl rfl) ?_
 refine lU tOk 2 kr ?_
 refine lT ⟨31,0,[sB 21 r4,sB 20 r4,sB 19 r4,sI 18 x0.Age,sA 17 1 5 3,sB 16 true,sB 15 true,sB 14 true,sI 13 x0.Port,sA 12 1 5 2,sB 11 true,sB 10 true,sB 9 true,sI 8 x0.Mac,sA 7 1 5 1,sB 6 true,sB 5 true,sI 4 x0.Tag,sA 3 1 5 0,sA 1 1 5 0],[(1,(Fent.row x0))]⟩ kr ?_
 cases h4 : r4
 ·have H := bifF h4 H
  refine uD tOk 10 4 0 kr kr ?_
  exact te (by obtain rfl := si H; exact fO [(false,[cB false])] kr rfl rfl)
 have H := bifT h4 H
 refine lU tOk 4 kr ?_
 refine lT ⟨31,0,[sB 25 (!x0.Static),sB 24 (!x0.Static),sB 23 x0.Static,sA 22 1 5 4,sB 21 true,sB 20 true,sB 19 true,sI 18 x0.Age,sA 17 1 5 3,sB 16 true,sB 15 true,sB 14 true,sI 13 x0.Port,sA 12 1 5 2,sB 11 true,sB 10 true,sB 9 true,sI 8 x0.Mac,sA 7 1 5 1,sB 6 true,sB 5 true,sI 4 x0.Tag,sA 3 1 5 0,sA 1 1 5 0],[(1,(Fent.row x0))]⟩ kr ?_
 cases h5 : (!x0.Static)
 ·have H := bifF h5 H
  refine uD tOk 6 4 0 kr kr ?_
  exact te (by obtain rfl := si H; exact fO [(false,[cB (x0.Age == 0)])] kr rfl rfl)
 have H := bifT h5 H
 refine uD tOk 6 4 0 kr kr ?_
 exact te (by obtain rfl := si H; exact fO [(false,[cB true])] kr rfl rfl)
def spec_l8AheadF (n : Nat) (x0 : Fent) (x1 : Int) (x2 : Int) : Option (Bool) :=
  (bif (x0.Tag != x1) then (some (decide (x0.Tag < x1))) else (some (decide (x0.Mac < x2))))
noncomputable abbrev G244 (k : Nat) := Rg Tryz.f244 k
theorem spec_l8Ahead (n : Nat) (x0 : Fent) (x1 : Int) (x2 : Int) (r : Bool) (H : spec_l8AheadF n x0 x1 x2 = some r) : LCall Tryz.prog 244 [.val true (CV.frzRow (Fent.row x0)),.val false [.lit (.int .i64 x1)],.val false [.lit (.int .i64 x2)]] [.val false [.lit (.bool r)]] [] := by
 refine LCall.of_body tOk Tryz.func244 rfl (c := (.seq (G244 0) (.seq (.seq (G244 1) (.cond (.tmp 10) (.seq (G244 2) .ret) .skip)) (.seq (G244 3) .ret)))) kr (Nat.le_of_ble_eq_true kr) 0 (rs := [.tmp 6]) rfl [] .nil [(false,[.lit (.bool r)])] [] [] fun cx => ?_
 show Tr _ _ _ ⟨19,0,[sV 0 (Fent.row x0),sI 1 x1,sI 2 x2],[]⟩ _
 unfold spec_l8AheadF at H
 refine tG tOk 2 14 8 kr kr ?_
 refine tS ?_
 refine tG tOk 4 1038 8 kr kr ?_
 obtain ⟨h1,H⟩ | ⟨h1,H⟩ := bC H
 ·refine tF h1 kr ?_
  refine tK ?_
  refine tG tOk 5 64 0 kr kr ?_
  exact te (by obtain rfl := si H; exact fO [(false,[cB (decide (x0.Mac < x2))])] kr rfl rfl)
 refine tT h1 kr ?_
 refine tG tOk 5 64 0 kr kr ?_
 exact te (by obtain rfl := si H; exact fO [(false,[cB (decide (x0.Tag < x1))])] kr rfl rfl)
def spec_FdbOk_J1 (n : Nat) (x0 : (List Fent)) : Option (Bool) :=
  (some (decide ((x0.length : Int) ≤ 12)))
def spec_FdbOk_L2 (n : Nat) : Nat → (List Fent) → Int → Option ((Unit) ⊕ (Bool))
  | 0,_,_ => none
  | mo2 + 1,x0,y1 => (bif (decide (y1 < (x0.length : Int))) then ((idx x0 y1).bind fun v3 => ((spec_l8EntF n v3).bind fun r4 => (bif (!r4) then (some (Sum.inr false)) else (bif (decide (y1 > 0)) then ((idx x0 (IntKind.wrap .i64 (y1 - 1))).bind fun v5 => ((idx x0 y1).bind fun v6 => ((idx x0 y1).bind fun v7 => ((spec_l8AheadF n v5 v6.Tag v7.Mac).bind fun r8 => (bif (!r8) then (some (Sum.inr false)) else (spec_FdbOk_L2 n mo2 x0 (IntKind.wrap .i64 (y1 + 1)))))))) else (spec_FdbOk_L2 n mo2 x0 (IntKind.wrap .i64 (y1 + 1))))))) else (some (Sum.inl ())))
def spec_FdbOkF (n : Nat) (x0 : (List Fent)) : Option (Bool) :=
  ((spec_FdbOk_L2 n n x0 0).bind fun o => match o with | .inl _ => (spec_FdbOk_J1 n x0) | .inr r => some r)
noncomputable abbrev G197 (k : Nat) := Rg Tryz.f197 k
noncomputable abbrev D197 (k : Nat) := Rd Tryz.f197 k
theorem spec_FdbOk (n : Nat) (x0 : (List Fent)) (r : Bool) (H : spec_FdbOkF n x0 = some r) : LCall Tryz.prog 197 [.val false [.sl false 5 (CV.frzEs (x0.map Fent.row))]] [.val false [.lit (.bool r)]] [] := by
 refine LCall.of_body tOk Tryz.func197 rfl (c := (.seq (G197 0) (.seq (.seq (G197 1) (.block 0 (.loop (.seq (.seq (G197 2) (.cond (.tmp 7) .skip (.exit 0))) (.seq (.block 1 (.seq (D197 4) (.cond (.tmp 38) (.seq (G197 5) .ret) .skip))) (G197 3)))))) (.seq (G197 6) .ret)))) kr (Nat.le_of_ble_eq_true kr) 0 (rs := [.tmp 2]) rfl [] .nil [(false,[.lit (.bool r)])] [] [] fun cx => ?_
 show Tr _ _ _ ⟨42,0,[sC 0 (cF 5 x0 Fent.row)],[]⟩ _
 unfold spec_FdbOkF at H
 refine tG tOk 1 1 0 kr kr ?_
 refine tS ?_
 refine tG tOk 1 9 0 kr kr ?_
 obtain ⟨o2,eo2,Ho2⟩ := bind_some H
 clear H
 refine Tr.mid (ι := Unit) (fun v => ⟨42,0,[sC 0 (cF 5 x0 Fent.row)],[]⟩) (fun v => spec_FdbOk_J1 n x0 = some r) ?_ ?_
 ·refine tB ?_
  refine Tr.loop (ι := Nat × (Int)) (fun v => ⟨42,0,[sI 3 v.2,sC 0 (cF 5 x0 Fent.row)],[]⟩) (fun v => spec_FdbOk_L2 n v.1 x0 v.2 = some o2) (fun v => v.1) (n,0) eo2 (St.sub_of [3,0] [] kr) ?_
  rintro ⟨mo2,y1⟩ H
  have H : spec_FdbOk_L2 n mo2 x0 y1 = some o2 := H
  obtain _ | mo2 := mo2
  ·cases (show (none : Option _) = some o2 from H)
  rw [spec_FdbOk_L2] at H
  refine tS ?_
  refine rU tOk 2 kr ?_
  refine lL tOk 53 3 184 5 6 none ⟨(.slot 5),[],0,false,5,(CV.frzEs (x0.map Fent.row))⟩ (x0).length _ kr kr kr kr kr (frz_len _ _) rfl ?_
  refine uD tOk 1 137 0 kr kr ?_
  obtain ⟨h1,H⟩ | ⟨h1,H⟩ := bC H
  ·refine tF h1 kr ?_
   refine Tr.exit ?_
   refine And.intro (fun _ => ?_) (fun h => absurd rfl h)
   obtain rfl := si H
   have H := Ho2
   dsimp only at H
   exact jn () H (sB_ [0] [] kr)
  refine tT h1 kr ?_
  refine tK ?_
  refine tS ?_
  refine tB ?_
  obtain ⟨v3,ev3,H⟩ := bind_some H
  obtain ⟨r4,er4,H⟩ := bind_some H
  refine tO ⟨42,0,[sB 7 (decide (y1 < (x0.length : Int))),sI 3 y1,sC 0 (cF 5 x0 Fent.row)],[]⟩ kr ?_
  cases h2 : (!r4)
  ·have H := bifF h2 H
   refine tO ⟨42,0,[sB 7 (decide (y1 < (x0.length : Int))),sI 3 y1,sC 0 (cF 5 x0 Fent.row)],[]⟩ kr ?_
   cases h3 : (decide (y1 > 0))
   ·have H := bifF h3 H
    refine Tr.draws mixed 29 kr ⟨42,0,[sB 38 false,sI 3 y1,sC 0 (cF 5 x0 Fent.row)],[]⟩ (fun cx => ?_) ?_
    ·refine aU tOk [(0,[]),(1,[])] 27 [] [1,0] rfl kr (fun cx => ?_)
     refine aI tOk 2 53 0 10 11 12 none ⟨(.slot 10),[],0,false,5,(CV.frzEs (x0.map Fent.row))⟩ y1 (Fent.row v3) _ kr kr kr kr kr kr rfl (idx_isF ev3) rfl (fun cx => ?_)
     refine aU tOk [(3,[])] 25 [] [3,2,1,0] rfl kr (fun cx => ?_)
     refine AT.big1 tOk 4 kr kr ?_
     refine lV tOk [.rd] [] (spec_l8Ent n v3 r4 er4) kr kr kr kr (.inl rfl) ?_
     refine lF kr kr kr ?_
     refine aU tOk [(5,[]),(6,[])] 22 [] [6,5,4,3,2,1,0] rfl kr (fun cx => ?_)
     refine aT ⟨42,0,[sB 16 (!r4),sB 15 (!r4),sB 14 r4,sV 13 (Fent.row v3),(12,.fad ((Fent.row v3))),sI 11 y1,sC 10 (cF 5 x0 Fent.row),sB 7 (decide (y1 < (x0.length : Int))),sI 3 y1,sC 0 (cF 5 x0 Fent.row)],[]⟩ kr ?_
     rw [h2]
     refine aU tOk [(7,[]),(8,[]),(9,[])] 19 [] [9,8,7,6,5,4,3,2,1,0] rfl kr (fun cx => ?_)
     refine aT ⟨42,0,[sB 19 (decide (y1 > 0)),sB 18 (decide (y1 > 0)),sI 17 y1,sB 16 false,sB 15 false,sB 14 r4,sV 13 (Fent.row v3),(12,.fad ((Fent.row v3))),sI 11 y1,sC 10 (cF 5 x0 Fent.row),sB 7 (decide (y1 < (x0.length : Int))),sI 3 y1,sC 0 (cF 5 x0 Fent.row)],[]⟩ kr ?_
     rw [h3]
     refine aU tOk [(10,[]),(11,[]),(12,[]),(13,[]),(14,[]),(15,[]),(16,[]),(17,[]),(18,[]),(19,[]),(20,[]),(21,[]),(22,[]),(23,[]),(24,[]),(25,[]),(26,[]),(27,[]),(28,[])] 0 [] [28,27,26,25,24,23,22,21,20,19,18,17,16,15,14,13,12,11,10,9,8,7,6,5,4,3,2,1,0] rfl kr (fun cx => ?_)
     exact AT.done [38,3,0] [] _ kr kr rfl
    refine tf kr ?_
    refine tK ?_
    refine tE tOk 3 9 0 kr kr ?_
    exact jn (mo2,(IntKind.wrap .i64 (y1 + 1))) H (sM mo2 [3,0] [] kr)
   have H := bifT h3 H
   obtain ⟨v5,ev5,H⟩ := bind_some H
   obtain ⟨v6,ev6,H⟩ := bind_some H
   obtain ⟨v7,ev7,H⟩ := bind_some H
   obtain ⟨r8,er8,H⟩ := bind_some H
   refine Tr.draws mixed 29 kr ⟨42,0,[sB 38 (!r8),sI 3 y1,sC 0 (cF 5 x0 Fent.row)],[]⟩ (fun cx => ?_) ?_
   ·refine aU tOk [(0,[]),(1,[])] 27 [] [1,0] rfl kr (fun cx => ?_)
    refine aI tOk 2 53 0 10 11 12 none ⟨(.slot 10),[],0,false,5,(CV.frzEs (x0.map Fent.row))⟩ y1 (Fent.row v3) _ kr kr kr kr kr kr rfl (idx_isF ev3) rfl (fun cx => ?_)
    refine aU tOk [(3,[])] 25 [] [3,2,1,0] rfl kr (fun cx => ?_)
    refine AT.big1 tOk 4 kr kr ?_
    refine lV tOk [.rd] [] (spec_l8Ent n v3 r4 er4) kr kr kr kr (.inl rfl) ?_
    refine lF kr kr kr ?_
    refine aU tOk [(5,[]),(6,[])] 22 [] [6,5,4,3,2,1,0] rfl kr (fun cx => ?_)
    refine aT ⟨42,0,[sB 16 (!r4),sB 15 (!r4),sB 14 r4,sV 13 (Fent.row v3),(12,.fad ((Fent.row v3))),sI 11 y1,sC 10 (cF 5 x0 Fent.row),sB 7 (decide (y1 < (x0.length : Int))),sI 3 y1,sC 0 (cF 5 x0 Fent.row)],[]⟩ kr ?_
    rw [h2]
    refine aU tOk [(7,[]),(8,[]),(9,[])] 19 [] [9,8,7,6,5,4,3,2,1,0] rfl kr (fun cx => ?_)
    refine aT ⟨42,0,[sB 19 (decide (y1 > 0)),sB 18 (decide (y1 > 0)),sI 17 y1,sB 16 false,sB 15 false,sB 14 r4,sV 13 (Fent.row v3),(12,.fad ((Fent.row v3))),sI 11 y1,sC 10 (cF 5 x0 Fent.row),sB 7 (decide (y1 < (x0.length : Int))),sI 3 y1,sC 0 (cF 5 x0 Fent.row)],[]⟩ kr ?_
    rw [h3]
    refine aU tOk [(10,[]),(11,[]),(12,[])] 16 [] [12,11,10,9,8,7,6,5,4,3,2,1,0] rfl kr (fun cx => ?_)
    refine aI tOk 13 53 0 20 22 23 (some (9,true)) ⟨(.slot 20),[],0,false,5,(CV.frzEs (x0.map Fent.row))⟩ (IntKind.wrap .i64 (y1 - 1)) (Fent.row v5) _ kr kr kr kr kr kr rfl (idx_isF ev5) rfl (fun cx => ?_)
    refine aU tOk [(14,[]),(15,[]),(16,[])] 12 [] [16,15,14,13,12,11,10,9,8,7,6,5,4,3,2,1,0] rfl kr (fun cx => ?_)
    refine aI tOk 17 53 0 25 26 27 (some (9,true)) ⟨(.slot 25),[],0,false,5,(CV.frzEs (x0.map Fent.row))⟩ y1 (Fent.row v6) _ kr kr kr kr kr kr rfl (idx_isF ev6) rfl (fun cx => ?_)
    refine aU tOk [(18,[]),(19,[]),(20,[]),(21,[])] 7 [] [21,20,19,18,17,16,15,14,13,12,11,10,9,8,7,6,5,4,3,2,1,0] rfl kr (fun cx => ?_)
    refine aI tOk 22 53 0 30 31 32 (some (9,true)) ⟨(.slot 30),[],0,false,5,(CV.frzEs (x0.map Fent.row))⟩ y1 (Fent.row v7) _ kr kr kr kr kr kr rfl (idx_isF ev7) rfl (fun cx => ?_)
    refine aU tOk [(23,[]),(24,[])] 4 [] [24,23,22,21,20,19,18,17,16,15,14,13,12,11,10,9,8,7,6,5,4,3,2,1,0] rfl kr (fun cx => ?_)
    refine AT.big1 tOk 25 kr kr ?_
    refine lV tOk [.rd,.rd,.rd] [] (spec_l8Ahead n v5 v6.Tag v7.Mac r8 er8) kr kr kr kr (.inl rfl) ?_
    refine lF kr kr kr ?_
    refine aU tOk [(26,[]),(27,[]),(28,[])] 0 [] [28,27,26,25,24,23,22,21,20,19,18,17,16,15,14,13,12,11,10,9,8,7,6,5,4,3,2,1,0] rfl kr (fun cx => ?_)
    exact AT.done [38,3,0] [] _ kr kr rfl
   refine tO ⟨42,0,[sB 38 (!r8),sI 3 y1,sC 0 (cF 5 x0 Fent.row)],[]⟩ kr ?_
   cases h4 : (!r8)
   ·have H := bifF h4 H
    refine tf kr ?_
    refine tK ?_
    refine tE tOk 3 9 0 kr kr ?_
    exact jn (mo2,(IntKind.wrap .i64 (y1 + 1))) H (sM mo2 [3,0] [] kr)
   have H := bifT h4 H
   refine tt kr ?_
   refine tG tOk 1 4 0 kr kr ?_
   refine te ?_
   obtain rfl := si H
   have H := Ho2
   dsimp only at H
   obtain rfl := si H
   exact fO [(false,[cB false])] kr rfl rfl
  have H := bifT h2 H
  refine Tr.draws mixed 29 kr ⟨42,0,[sB 38 true,sI 3 y1,sC 0 (cF 5 x0 Fent.row)],[]⟩ (fun cx => ?_) ?_
  ·refine aU tOk [(0,[]),(1,[])] 27 [] [1,0] rfl kr (fun cx => ?_)
   refine aI tOk 2 53 0 10 11 12 none ⟨(.slot 10),[],0,false,5,(CV.frzEs (x0.map Fent.row))⟩ y1 (Fent.row v3) _ kr kr kr kr kr kr rfl (idx_isF ev3) rfl (fun cx => ?_)
   refine aU tOk [(3,[])] 25 [] [3,2,1,0] rfl kr (fun cx => ?_)
   refine AT.big1 tOk 4 kr kr ?_
   refine lV tOk [.rd] [] (spec_l8Ent n v3 r4 er4) kr kr kr kr (.inl rfl) ?_
   refine lF kr kr kr ?_
   refine aU tOk [(5,[]),(6,[])] 22 [] [6,5,4,3,2,1,0] rfl kr (fun cx => ?_)
   refine aT ⟨42,0,[sB 16 (!r4),sB 15 (!r4),sB 14 r4,sV 13 (Fent.row v3),(12,.fad ((Fent.row v3))),sI 11 y1,sC 10 (cF 5 x0 Fent.row),sB 7 (decide (y1 < (x0.length : Int))),sI 3 y1,sC 0 (cF 5 x0 Fent.row)],[]⟩ kr ?_
   rw [h2]
   refine aU tOk [(7,[]),(8,[]),(9,[]),(10,[]),(11,[]),(12,[]),(13,[]),(14,[]),(15,[]),(16,[]),(17,[]),(18,[]),(19,[]),(20,[]),(21,[]),(22,[]),(23,[]),(24,[]),(25,[]),(26,[]),(27,[]),(28,[])] 0 [] [28,27,26,25,24,23,22,21,20,19,18,17,16,15,14,13,12,11,10,9,8,7,6,5,4,3,2,1,0] rfl kr (fun cx => ?_)
   exact AT.done [38,3,0] [] _ kr kr rfl
  refine tt kr ?_
  refine tG tOk 1 4 0 kr kr ?_
  refine te ?_
  obtain rfl := si H
  have H := Ho2
  dsimp only at H
  obtain rfl := si H
  exact fO [(false,[cB false])] kr rfl rfl
 rintro _ H
 have H : (spec_FdbOk_J1 n x0) = some r := H
 unfold spec_FdbOk_J1 at H
 refine rU tOk 1 kr ?_
 refine lL tOk 53 3 184 39 40 none ⟨(.slot 39),[],0,false,5,(CV.frzEs (x0.map Fent.row))⟩ (x0).length _ kr kr kr kr kr (frz_len _ _) rfl ?_
 refine uD tOk 2 4 0 kr kr ?_
 exact te (by obtain rfl := si H; exact fO [(false,[cB (decide ((x0.length : Int) ≤ 12))])] kr rfl rfl)
def spec_RowAt_J1 (n : Nat) : Option (Int) :=
  (some (-1))
def spec_RowAt_L2 (n : Nat) : Nat → Vtab → Int → Int → Option ((Unit) ⊕ (Int))
  | 0,_,_,_ => none
  | mo2 + 1,x0,x1,y1 => (bif (decide (y1 < (x0.Rows.length : Int))) then ((idx x0.Rows y1).bind fun v3 => (bif (v3.Id == x1) then (some (Sum.inr y1)) else (spec_RowAt_L2 n mo2 x0 x1 (IntKind.wrap .i64 (y1 + 1))))) else (some (Sum.inl ())))
def spec_RowAtF (n : Nat) (x0 : Vtab) (x1 : Int) : Option (Int) :=
  ((spec_RowAt_L2 n n x0 x1 0).bind fun o => match o with | .inl _ => (spec_RowAt_J1 n) | .inr r => some r)
noncomputable abbrev G195 (k : Nat) := Rg Tryz.f195 k
theorem spec_RowAt (n : Nat) (x0 : Vtab) (x1 : Int) (r : Int) (H : spec_RowAtF n x0 x1 = some r) : LCall Tryz.prog 195 [.val true (CV.frzRow (Vtab.row x0)),.val false [.lit (.int .i64 x1)]] [.val false [.lit (.int .i64 r)]] [] := by
 refine LCall.of_body tOk Tryz.func195 rfl (c := (.seq (G195 0) (.seq (.seq (G195 1) (.block 0 (.loop (.seq (.seq (G195 2) (.cond (.tmp 10) .skip (.exit 0))) (.seq (.block 1 (.seq (G195 4) (.cond (.tmp 20) (.seq (G195 5) .ret) .skip))) (G195 3)))))) (.seq (G195 6) .ret)))) kr (Nat.le_of_ble_eq_true kr) 0 (rs := [.tmp 4]) rfl [] .nil [(false,[.lit (.int .i64 r)])] [] [] fun cx => ?_
 show Tr _ _ _ ⟨22,0,[sV 0 (CV.frzRow (Vtab.row x0)),sI 1 x1],[]⟩ _
 unfold spec_RowAtF at H
 refine tG tOk 2 6 4 kr kr ?_
 refine tS ?_
 refine tG tOk 1 38 4 kr kr ?_
 obtain ⟨o2,eo2,Ho2⟩ := bind_some H
 clear H
 refine Tr.mid (ι := Unit) (fun v => ⟨22,0,[],[]⟩) (fun v => spec_RowAt_J1 n = some r) ?_ ?_
 ·refine tB ?_
  refine Tr.loop (ι := Nat × (Int)) (fun v => ⟨22,0,[sI 5 v.2,sA 2 2 2 0,sI 1 x1],[(2,(CV.frzRow (Vtab.row x0)))]⟩) (fun v => spec_RowAt_L2 n v.1 x0 x1 v.2 = some o2) (fun v => v.1) (n,0) eo2 (St.sub_of [5,2,1] [2] kr) ?_
  rintro ⟨mo2,y1⟩ H
  have H : spec_RowAt_L2 n mo2 x0 x1 y1 = some o2 := H
  obtain _ | mo2 := mo2
  ·cases (show (none : Option _) = some o2 from H)
  rw [spec_RowAt_L2] at H
  refine tS ?_
  refine rU tOk 3 kr ?_
  refine lL tOk 54 3 190 8 9 none ⟨(.slot 8),[],0,false,3,(CV.frzEs (x0.Rows.map Vrow.row))⟩ (x0.Rows).length _ kr kr kr kr kr (frz_len _ _) rfl ?_
  refine uD tOk 1 1062 4 kr kr ?_
  obtain ⟨h1,H⟩ | ⟨h1,H⟩ := bC H
  ·refine tF h1 kr ?_
   refine Tr.exit ?_
   refine And.intro (fun _ => ?_) (fun h => absurd rfl h)
   obtain rfl := si H
   have H := Ho2
   dsimp only at H
   exact jn () H (sB_ [] [] kr)
  refine tT h1 kr ?_
  refine tK ?_
  refine tS ?_
  refine tB ?_
  refine rU tOk 3 kr ?_
  obtain ⟨v3,ev3,H⟩ := bind_some H
  refine lI tOk 54 0 14 15 16 none ⟨(.slot 14),[],0,false,3,(CV.frzEs (x0.Rows.map Vrow.row))⟩ y1 (Vrow.row v3) _ kr kr kr kr rfl (idx_isF ev3) rfl ?_
  refine uD tOk 4 1048614 4 kr kr ?_
  obtain ⟨h2,H⟩ | ⟨h2,H⟩ := bC H
  ·refine tF h2 kr ?_
   refine tK ?_
   refine tE tOk 3 38 4 kr kr ?_
   exact jn (mo2,(IntKind.wrap .i64 (y1 + 1))) H (sM mo2 [5,2,1] [2] kr)
  refine tT h2 kr ?_
  refine tG tOk 2 16 0 kr kr ?_
  refine te ?_
  obtain rfl := si H
  have H := Ho2
  dsimp only at H
  obtain rfl := si H
  exact fO [(false,[cI y1])] kr rfl rfl
 rintro _ H
 have H : (spec_RowAt_J1 n) = some r := H
 unfold spec_RowAt_J1 at H
 refine tG tOk 1 16 0 kr kr ?_
 exact te (by obtain rfl := si H; exact fO [(false,[cI (-1)])] kr rfl rfl)
def spec_VtabOk_J2 (n : Nat) : Option (Bool) :=
  (some true)
def spec_VtabOk_L3 (n : Nat) : Nat → Vtab → Int → Option ((Unit) ⊕ (Bool))
  | 0,_,_ => none
  | mo5 + 1,x0,y4 => (bif (decide (y4 < (x0.Pvid.length : Int))) then ((idx x0.Pvid y4).bind fun v6 => ((spec_RowAtF n x0 v6).bind fun r7 => (bif (decide (r7 < 0)) then (some (Sum.inr false)) else (spec_VtabOk_L3 n mo5 x0 (IntKind.wrap .i64 (y4 + 1)))))) else (some (Sum.inl ())))
def spec_VtabOk_J1 (n : Nat) (x0 : Vtab) : Option (Bool) :=
  ((spec_VtabOk_L3 n n x0 0).bind fun o => match o with | .inl _ => (spec_VtabOk_J2 n) | .inr r => some r)
def spec_VtabOk_L4 (n : Nat) : Nat → Vtab → Int → Int → Option ((Unit) ⊕ (Bool))
  | 0,_,_,_ => none
  | mo8 + 1,x0,x1,y3 => (bif (decide (y3 < (x0.Rows.length : Int))) then ((idx x0.Rows y3).bind fun v9 => ((spec_l1InF n v9.Id 1 99).bind fun r10 => (bif (!r10) then (some (Sum.inr false)) else ((spec_l1InF n v9.Members 0 (IntKind.wrap .i64 ((IntKind.wrap .i64 (1 * 2 ^ min (((IntKind.wrap .u64 x1) : Int)).toNat (IntKind.bits .i64))) - 1))).bind fun r11 => (bif (!r11) then (some (Sum.inr false)) else ((spec_l1InF n v9.Bare 0 (IntKind.wrap .i64 ((IntKind.wrap .i64 (1 * 2 ^ min (((IntKind.wrap .u64 x1) : Int)).toNat (IntKind.bits .i64))) - 1))).bind fun r12 => (bif (!r12) then (some (Sum.inr false)) else (bif ((IntKind.wrap .i64 (BitVec.ofInt (IntKind.bits .i64) v9.Bare &&& BitVec.ofInt (IntKind.bits .i64) v9.Members).toNat) != v9.Bare) then (some (Sum.inr false)) else (bif (decide (y3 > 0)) then ((idx x0.Rows (IntKind.wrap .i64 (y3 - 1))).bind fun v13 => (bif (decide (v13.Id ≥ v9.Id)) then (some (Sum.inr false)) else (spec_VtabOk_L4 n mo8 x0 x1 (IntKind.wrap .i64 (y3 + 1))))) else (spec_VtabOk_L4 n mo8 x0 x1 (IntKind.wrap .i64 (y3 + 1)))))))))))) else (some (Sum.inl ())))
def spec_VtabOkF (n : Nat) (x0 : Vtab) (x1 : Int) : Option (Bool) :=
  ((spec_l1InF n x1 1 6).bind fun r1 => (bif (!r1) then (some false) else (bif ((x0.Pvid.length : Int) != x1) then (some false) else (bif (decide ((x0.Rows.length : Int) > 6)) then (some false) else (bif (decide ((0 : Int) ≤ (IntKind.wrap .u64 x1))) then ((spec_VtabOk_L4 n n x0 x1 0).bind fun o => match o with | .inl _ => (spec_VtabOk_J1 n x0) | .inr r => some r) else none)))))
noncomputable abbrev G240 (k : Nat) := Rg Tryz.f240 k
noncomputable abbrev D240 (k : Nat) := Rd Tryz.f240 k
theorem spec_VtabOk (n : Nat) (x0 : Vtab) (x1 : Int) (r : Bool) (H : spec_VtabOkF n x0 x1 = some r) : LCall Tryz.prog 240 [.val true (CV.frzRow (Vtab.row x0)),.val false [.lit (.int .i64 x1)]] [.val false [.lit (.bool r)]] [] := by
 refine LCall.of_body tOk Tryz.func240 rfl (c := (.seq (G240 0) (.seq (.seq (G240 1) (.cond (.tmp 24) (.seq (G240 2) .ret) .skip)) (.seq (G240 3) (.seq (.seq (G240 4) (.block 0 (.loop (.seq (.seq (G240 5) (.cond (.tmp 33) .skip (.exit 0))) (.seq (.block 1 (.seq (G240 7) (.seq (D240 8) (.cond (.tmp 84) (.seq (G240 9) .ret) .skip)))) (G240 6)))))) (.seq (.seq (G240 10) (.block 2 (.loop (.seq (.seq (G240 11) (.cond (.tmp 89) .skip (.exit 2))) (.seq (.block 3 (.seq (D240 13) (.cond (.tmp 99) (.seq (G240 14) .ret) .skip))) (G240 12)))))) (.seq (G240 15) .ret))))))) kr (Nat.le_of_ble_eq_true kr) 0 (rs := [.tmp 4]) rfl [] .nil [(false,[.lit (.bool r)])] [] [] fun cx => ?_
 show Tr _ _ _ ⟨100,0,[sV 0 (CV.frzRow (Vtab.row x0)),sI 1 x1],[]⟩ _
 unfold spec_VtabOkF at H
 refine tG tOk 2 6 4 kr kr ?_
 refine tS ?_
 refine rU tOk 1 kr ?_
 obtain ⟨r1,er1,H⟩ := bind_some H
 refine lV tOk [.rd,.rd,.rd] [] (spec_l1In n x1 1 6 r1 er1) kr kr kr kr (.inl rfl) ?_
 refine lU tOk 2 kr ?_
 refine lT ⟨100,0,[sB 12 (!r1),sB 11 (!r1),sB 10 r1,sI 9 x1,sA 2 2 2 0,sI 1 x1],[(2,(CV.frzRow (Vtab.row x0)))]⟩ kr ?_
 cases h1 : (!r1)
 ·have H := bifF h1 H
  refine lU tOk 2 kr ?_
  refine lL tOk 22 3 3 14 15 (some (3,false)) ⟨(.slot 14),[],0,false,1,(CV.frzEs (x0.Pvid.map intRow))⟩ (x0.Pvid).length _ kr kr kr kr kr (frz_len _ _) rfl ?_
  refine lU tOk 4 kr ?_
  refine lT ⟨100,0,[sB 19 ((x0.Pvid.length : Int) != x1),sB 18 ((x0.Pvid.length : Int) != x1),sB 17 ((x0.Pvid.length : Int) != x1),sI 16 x1,sI 15 (x0.Pvid.length : Int),sC 14 (cF 1 x0.Pvid intRow),sA 13 2 2 1,sB 12 false,sB 11 false,sB 10 r1,sI 9 x1,sA 2 2 2 0,sI 1 x1],[(2,(CV.frzRow (Vtab.row x0)))]⟩ kr ?_
  cases h2 : ((x0.Pvid.length : Int) != x1)
  ·have H := bifF h2 H
   refine lU tOk 2 kr ?_
   refine lL tOk 54 3 190 21 22 (some (10,false)) ⟨(.slot 21),[],0,false,3,(CV.frzEs (x0.Rows.map Vrow.row))⟩ (x0.Rows).length _ kr kr kr kr kr (frz_len _ _) rfl ?_
   refine uD tOk 2 16777222 4 kr kr ?_
   obtain ⟨h3,H⟩ | ⟨h3,H⟩ := bC H
   ·refine tF h3 kr ?_
    refine tK ?_
    refine rU tOk 2 kr ?_
    obtain ⟨hg2,H⟩ := guard_some H
    refine LAt.binC tOk (op := .shl) (t := 3) (ty := 145) (ty' := 3) (x := (.const (.int .i64 1))) (y := (.tmp 26)) (d := 27) (g := none) (.int .i64 1) (.int .u64 (IntKind.wrap .u64 x1)) (.int .i64 (IntKind.wrap .i64 (1 * 2 ^ min (((IntKind.wrap .u64 x1) : Int)).toNat (IntKind.bits .i64)))) _ kr kr kr kr kr (φ := (0 : Int) ≤ (IntKind.wrap .u64 x1)) kr (of_decide_eq_true hg2) rfl ?_
    refine uD tOk 2 36 4 kr kr ?_
    refine tS ?_
    refine tG tOk 1 100 4 kr kr ?_
    obtain ⟨o8,eo8,Ho8⟩ := bind_some H
    clear H
    refine Tr.mid (ι := Unit) (fun v => ⟨100,0,[sA 2 2 2 0],[(2,(CV.frzRow (Vtab.row x0)))]⟩) (fun v => spec_VtabOk_J1 n x0 = some r) ?_ ?_
    ·refine tB ?_
     refine Tr.loop (ι := Nat × (Int)) (fun v => ⟨100,0,[sI 6 v.2,sI 5 (IntKind.wrap .i64 ((IntKind.wrap .i64 (1 * 2 ^ min (((IntKind.wrap .u64 x1) : Int)).toNat (IntKind.bits .i64))) - 1)),sA 2 2 2 0],[(2,(CV.frzRow (Vtab.row x0)))]⟩) (fun v => spec_VtabOk_L4 n v.1 x0 x1 v.2 = some o8) (fun v => v.1) (n,0) eo8 (St.sub_of [6,5,2] [2] kr) ?_
     rintro ⟨mo8,y3⟩ H
     have H : spec_VtabOk_L4 n mo8 x0 x1 y3 = some o8 := H
     obtain _ | mo8 := mo8
     ·cases (show (none : Option _) = some o8 from H)
     rw [spec_VtabOk_L4] at H
     refine tS ?_
     refine rU tOk 3 kr ?_
     refine lL tOk 54 3 190 31 32 none ⟨(.slot 31),[],0,false,3,(CV.frzEs (x0.Rows.map Vrow.row))⟩ (x0.Rows).length _ kr kr kr kr kr (frz_len _ _) rfl ?_
     refine uD tOk 1 8589934692 4 kr kr ?_
     obtain ⟨h6,H⟩ | ⟨h6,H⟩ := bC H
     ·refine tF h6 kr ?_
      refine Tr.exit ?_
      refine And.intro (fun _ => ?_) (fun h => absurd rfl h)
      obtain rfl := si H
      have H := Ho8
      dsimp only at H
      exact jn () H (sB_ [2] [2] kr)
     refine tT h6 kr ?_
     refine tK ?_
     refine tS ?_
     refine tB ?_
     refine rU tOk 3 kr ?_
     obtain ⟨v9,ev9,H⟩ := bind_some H
     refine lI tOk 54 0 37 38 39 none ⟨(.slot 37),[],0,false,3,(CV.frzEs (x0.Rows.map Vrow.row))⟩ y3 (Vrow.row v9) _ kr kr kr kr rfl (idx_isF ev9) rfl ?_
     refine uD tOk 3 228 132 kr kr ?_
     obtain ⟨r10,er10,H⟩ := bind_some H
     refine tO ⟨100,0,[sA 7 7 3 0,sI 6 y3,sI 5 (IntKind.wrap .i64 ((IntKind.wrap .i64 (1 * 2 ^ min (((IntKind.wrap .u64 x1) : Int)).toNat (IntKind.bits .i64))) - 1)),sA 2 2 2 0],[(7,(Vrow.row v9)),(2,(CV.frzRow (Vtab.row x0)))]⟩ kr ?_
     cases h7 : (!r10)
     ·have H := bifF h7 H
      obtain ⟨r11,er11,H⟩ := bind_some H
      refine tO ⟨100,0,[sA 7 7 3 0,sI 6 y3,sI 5 (IntKind.wrap .i64 ((IntKind.wrap .i64 (1 * 2 ^ min (((IntKind.wrap .u64 x1) : Int)).toNat (IntKind.bits .i64))) - 1)),sA 2 2 2 0],[(7,(Vrow.row v9)),(2,(CV.frzRow (Vtab.row x0)))]⟩ kr ?_
      cases h8 : (!r11)
      ·have H := bifF h8 H
       obtain ⟨r12,er12,H⟩ := bind_some H
       refine tO ⟨100,0,[sA 7 7 3 0,sI 6 y3,sI 5 (IntKind.wrap .i64 ((IntKind.wrap .i64 (1 * 2 ^ min (((IntKind.wrap .u64 x1) : Int)).toNat (IntKind.bits .i64))) - 1)),sA 2 2 2 0],[(7,(Vrow.row v9)),(2,(CV.frzRow (Vtab.row x0)))]⟩ kr ?_
       cases h9 : (!r12)
       ·have H := bifF h9 H
        refine tO ⟨100,0,[sA 7 7 3 0,sI 6 y3,sI 5 (IntKind.wrap .i64 ((IntKind.wrap .i64 (1 * 2 ^ min (((IntKind.wrap .u64 x1) : Int)).toNat (IntKind.bits .i64))) - 1)),sA 2 2 2 0],[(7,(Vrow.row v9)),(2,(CV.frzRow (Vtab.row x0)))]⟩ kr ?_
        cases h10 : ((IntKind.wrap .i64 (BitVec.ofInt (IntKind.bits .i64) v9.Bare &&& BitVec.ofInt (IntKind.bits .i64) v9.Members).toNat) != v9.Bare)
        ·have H := bifF h10 H
         refine tO ⟨100,0,[sA 7 7 3 0,sI 6 y3,sI 5 (IntKind.wrap .i64 ((IntKind.wrap .i64 (1 * 2 ^ min (((IntKind.wrap .u64 x1) : Int)).toNat (IntKind.bits .i64))) - 1)),sA 2 2 2 0],[(7,(Vrow.row v9)),(2,(CV.frzRow (Vtab.row x0)))]⟩ kr ?_
         cases h11 : (decide (y3 > 0))
         ·have H := bifF h11 H
          refine Tr.draws mixed 44 kr ⟨100,0,[sB 84 false,sI 6 y3,sI 5 (IntKind.wrap .i64 ((IntKind.wrap .i64 (1 * 2 ^ min (((IntKind.wrap .u64 x1) : Int)).toNat (IntKind.bits .i64))) - 1)),sA 2 2 2 0],[(2,(CV.frzRow (Vtab.row x0)))]⟩ (fun cx => ?_) ?_
          ·refine aU tOk [(0,[]),(1,[2,8,15])] 42 [⟨[2,8,15],3,41,42⟩] [1,0] rfl kr (fun cx => ?_)
           refine AT.big1 tOk 2 kr kr ?_
           refine lV tOk [.rd,.rd,.rd] [] (spec_l1In n v9.Id 1 99 r10 er10) kr kr kr kr (.inl rfl) ?_
           refine lF kr kr kr ?_
           refine aU tOk [(3,[]),(4,[])] 39 [⟨[2,8,15],3,41,42⟩] [4,3,2,1,0] rfl kr (fun cx => ?_)
           refine aT ⟨100,0,[sB 45 (!r10),sB 44 (!r10),sB 43 r10,sI 42 v9.Id,sA 41 7 3 0,sA 7 7 3 0,sI 6 y3,sI 5 (IntKind.wrap .i64 ((IntKind.wrap .i64 (1 * 2 ^ min (((IntKind.wrap .u64 x1) : Int)).toNat (IntKind.bits .i64))) - 1)),sA 2 2 2 0],[(7,(Vrow.row v9)),(2,(CV.frzRow (Vtab.row x0)))]⟩ kr ?_
           rw [h7]
           refine aU tOk [(5,[]),(6,[8,15]),(7,[])] 36 [⟨[8,15],3,46,47⟩,⟨[2,8,15],3,41,42⟩] [7,6,5,4,3,2,1,0] rfl kr (fun cx => ?_)
           refine AT.big1 tOk 8 kr kr ?_
           refine lV tOk [.rd,.rd,.rd] [] (spec_l1In n v9.Members 0 (IntKind.wrap .i64 ((IntKind.wrap .i64 (1 * 2 ^ min (((IntKind.wrap .u64 x1) : Int)).toNat (IntKind.bits .i64))) - 1)) r11 er11) kr kr kr kr (.inl rfl) ?_
           refine lF kr kr kr ?_
           refine aU tOk [(9,[]),(10,[]),(11,[])] 32 [⟨[8,15],3,46,47⟩,⟨[2,8,15],3,41,42⟩] [11,10,9,8,7,6,5,4,3,2,1,0] rfl kr (fun cx => ?_)
           refine aT ⟨100,0,[sB 52 (!r11),sB 51 (!r11),sB 50 (!r11),sB 49 r11,sI 48 (IntKind.wrap .i64 ((IntKind.wrap .i64 (1 * 2 ^ min (((IntKind.wrap .u64 x1) : Int)).toNat (IntKind.bits .i64))) - 1)),sI 47 v9.Members,sA 46 7 3 1,sB 45 false,sB 44 false,sB 43 r10,sI 42 v9.Id,sA 41 7 3 0,sA 7 7 3 0,sI 6 y3,sI 5 (IntKind.wrap .i64 ((IntKind.wrap .i64 (1 * 2 ^ min (((IntKind.wrap .u64 x1) : Int)).toNat (IntKind.bits .i64))) - 1)),sA 2 2 2 0],[(7,(Vrow.row v9)),(2,(CV.frzRow (Vtab.row x0)))]⟩ kr ?_
           rw [h8]
           refine aU tOk [(12,[]),(13,[15]),(14,[])] 29 [⟨[15],3,53,54⟩,⟨[8,15],3,46,47⟩,⟨[2,8,15],3,41,42⟩] [14,13,12,11,10,9,8,7,6,5,4,3,2,1,0] rfl kr (fun cx => ?_)
           refine AT.big1 tOk 15 kr kr ?_
           refine lV tOk [.rd,.rd,.rd] [] (spec_l1In n v9.Bare 0 (IntKind.wrap .i64 ((IntKind.wrap .i64 (1 * 2 ^ min (((IntKind.wrap .u64 x1) : Int)).toNat (IntKind.bits .i64))) - 1)) r12 er12) kr kr kr kr (.inl rfl) ?_
           refine lF kr kr kr ?_
           refine aU tOk [(16,[]),(17,[]),(18,[])] 25 [⟨[15],3,53,54⟩,⟨[8,15],3,46,47⟩,⟨[2,8,15],3,41,42⟩] [18,17,16,15,14,13,12,11,10,9,8,7,6,5,4,3,2,1,0] rfl kr (fun cx => ?_)
           refine aT ⟨100,0,[sB 59 (!r12),sB 58 (!r12),sB 57 (!r12),sB 56 r12,sI 55 (IntKind.wrap .i64 ((IntKind.wrap .i64 (1 * 2 ^ min (((IntKind.wrap .u64 x1) : Int)).toNat (IntKind.bits .i64))) - 1)),sI 54 v9.Bare,sA 53 7 3 2,sB 52 false,sB 51 false,sB 50 false,sB 49 r11,sI 48 (IntKind.wrap .i64 ((IntKind.wrap .i64 (1 * 2 ^ min (((IntKind.wrap .u64 x1) : Int)).toNat (IntKind.bits .i64))) - 1)),sI 47 v9.Members,sA 46 7 3 1,sB 45 false,sB 44 false,sB 43 r10,sI 42 v9.Id,sA 41 7 3 0,sA 7 7 3 0,sI 6 y3,sI 5 (IntKind.wrap .i64 ((IntKind.wrap .i64 (1 * 2 ^ min (((IntKind.wrap .u64 x1) : Int)).toNat (IntKind.bits .i64))) - 1)),sA 2 2 2 0],[(7,(Vrow.row v9)),(2,(CV.frzRow (Vtab.row x0)))]⟩ kr ?_
           rw [h9]
           refine aU tOk [(19,[]),(20,[]),(21,[]),(22,[]),(23,[]),(24,[]),(25,[]),(26,[]),(27,[]),(28,[])] 15 [⟨[],3,65,66⟩,⟨[],3,62,63⟩,⟨[],3,60,61⟩,⟨[15],3,53,54⟩,⟨[8,15],3,46,47⟩,⟨[2,8,15],3,41,42⟩] [28,27,26,25,24,23,22,21,20,19,18,17,16,15,14,13,12,11,10,9,8,7,6,5,4,3,2,1,0] rfl kr (fun cx => ?_)
           refine aT ⟨100,0,[sB 69 ((IntKind.wrap .i64 (BitVec.ofInt (IntKind.bits .i64) v9.Bare &&& BitVec.ofInt (IntKind.bits .i64) v9.Members).toNat) != v9.Bare),sB 68 ((IntKind.wrap .i64 (BitVec.ofInt (IntKind.bits .i64) v9.Bare &&& BitVec.ofInt (IntKind.bits .i64) v9.Members).toNat) != v9.Bare),sB 67 ((IntKind.wrap .i64 (BitVec.ofInt (IntKind.bits .i64) v9.Bare &&& BitVec.ofInt (IntKind.bits .i64) v9.Members).toNat) != v9.Bare),sI 66 v9.Bare,sA 65 7 3 2,sI 64 (IntKind.wrap .i64 (BitVec.ofInt (IntKind.bits .i64) v9.Bare &&& BitVec.ofInt (IntKind.bits .i64) v9.Members).toNat),sI 63 v9.Members,sA 62 7 3 1,sI 61 v9.Bare,sA 60 7 3 2,sB 59 false,sB 58 false,sB 57 false,sB 56 r12,sI 55 (IntKind.wrap .i64 ((IntKind.wrap .i64 (1 * 2 ^ min (((IntKind.wrap .u64 x1) : Int)).toNat (IntKind.bits .i64))) - 1)),sI 54 v9.Bare,sA 53 7 3 2,sB 52 false,sB 51 false,sB 50 false,sB 49 r11,sI 48 (IntKind.wrap .i64 ((IntKind.wrap .i64 (1 * 2 ^ min (((IntKind.wrap .u64 x1) : Int)).toNat (IntKind.bits .i64))) - 1)),sI 47 v9.Members,sA 46 7 3 1,sB 45 false,sB 44 false,sB 43 r10,sI 42 v9.Id,sA 41 7 3 0,sA 7 7 3 0,sI 6 y3,sI 5 (IntKind.wrap .i64 ((IntKind.wrap .i64 (1 * 2 ^ min (((IntKind.wrap .u64 x1) : Int)).toNat (IntKind.bits .i64))) - 1)),sA 2 2 2 0],[(7,(Vrow.row v9)),(2,(CV.frzRow (Vtab.row x0)))]⟩ kr ?_
           rw [h10]
           refine aU tOk [(29,[]),(30,[]),(31,[])] 12 [⟨[],3,65,66⟩,⟨[],3,62,63⟩,⟨[],3,60,61⟩,⟨[15],3,53,54⟩,⟨[8,15],3,46,47⟩,⟨[2,8,15],3,41,42⟩] [31,30,29,28,27,26,25,24,23,22,21,20,19,18,17,16,15,14,13,12,11,10,9,8,7,6,5,4,3,2,1,0] rfl kr (fun cx => ?_)
           refine aT ⟨100,0,[sB 72 (decide (y3 > 0)),sB 71 (decide (y3 > 0)),sI 70 y3,sB 69 false,sB 68 false,sB 67 false,sI 66 v9.Bare,sA 65 7 3 2,sI 64 (IntKind.wrap .i64 (BitVec.ofInt (IntKind.bits .i64) v9.Bare &&& BitVec.ofInt (IntKind.bits .i64) v9.Members).toNat),sI 63 v9.Members,sA 62 7 3 1,sI 61 v9.Bare,sA 60 7 3 2,sB 59 false,sB 58 false,sB 57 false,sB 56 r12,sI 55 (IntKind.wrap .i64 ((IntKind.wrap .i64 (1 * 2 ^ min (((IntKind.wrap .u64 x1) : Int)).toNat (IntKind.bits .i64))) - 1)),sI 54 v9.Bare,sA 53 7 3 2,sB 52 false,sB 51 false,sB 50 false,sB 49 r11,sI 48 (IntKind.wrap .i64 ((IntKind.wrap .i64 (1 * 2 ^ min (((IntKind.wrap .u64 x1) : Int)).toNat (IntKind.bits .i64))) - 1)),sI 47 v9.Members,sA 46 7 3 1,sB 45 false,sB 44 false,sB 43 r10,sI 42 v9.Id,sA 41 7 3 0,sA 7 7 3 0,sI 6 y3,sI 5 (IntKind.wrap .i64 ((IntKind.wrap .i64 (1 * 2 ^ min (((IntKind.wrap .u64 x1) : Int)).toNat (IntKind.bits .i64))) - 1)),sA 2 2 2 0],[(7,(Vrow.row v9)),(2,(CV.frzRow (Vtab.row x0)))]⟩ kr ?_
           rw [h11]
           refine aU tOk [(32,[]),(33,[]),(34,[]),(35,[]),(36,[]),(37,[]),(38,[]),(39,[]),(40,[]),(41,[]),(42,[]),(43,[])] 0 [⟨[],3,65,66⟩,⟨[],3,62,63⟩,⟨[],3,60,61⟩,⟨[15],3,53,54⟩,⟨[8,15],3,46,47⟩,⟨[2,8,15],3,41,42⟩] [43,42,41,40,39,38,37,36,35,34,33,32,31,30,29,28,27,26,25,24,23,22,21,20,19,18,17,16,15,14,13,12,11,10,9,8,7,6,5,4,3,2,1,0] rfl kr (fun cx => ?_)
           exact AT.done [84,6,5,2] [2] _ kr kr rfl
          refine tf kr ?_
          refine tK ?_
          refine tE tOk 3 100 4 kr kr ?_
          exact jn (mo8,(IntKind.wrap .i64 (y3 + 1))) H (sM mo8 [6,5,2] [2] kr)
         have H := bifT h11 H
         obtain ⟨v13,ev13,H⟩ := bind_some H
         refine Tr.draws mixed 44 kr ⟨100,0,[sB 84 (decide (v13.Id ≥ v9.Id)),sI 6 y3,sI 5 (IntKind.wrap .i64 ((IntKind.wrap .i64 (1 * 2 ^ min (((IntKind.wrap .u64 x1) : Int)).toNat (IntKind.bits .i64))) - 1)),sA 2 2 2 0],[(2,(CV.frzRow (Vtab.row x0)))]⟩ (fun cx => ?_) ?_
         ·refine aU tOk [(0,[]),(1,[2,8,15])] 42 [⟨[2,8,15],3,41,42⟩] [1,0] rfl kr (fun cx => ?_)
          refine AT.big1 tOk 2 kr kr ?_
          refine lV tOk [.rd,.rd,.rd] [] (spec_l1In n v9.Id 1 99 r10 er10) kr kr kr kr (.inl rfl) ?_
          refine lF kr kr kr ?_
          refine aU tOk [(3,[]),(4,[])] 39 [⟨[2,8,15],3,41,42⟩] [4,3,2,1,0] rfl kr (fun cx => ?_)
          refine aT ⟨100,0,[sB 45 (!r10),sB 44 (!r10),sB 43 r10,sI 42 v9.Id,sA 41 7 3 0,sA 7 7 3 0,sI 6 y3,sI 5 (IntKind.wrap .i64 ((IntKind.wrap .i64 (1 * 2 ^ min (((IntKind.wrap .u64 x1) : Int)).toNat (IntKind.bits .i64))) - 1)),sA 2 2 2 0],[(7,(Vrow.row v9)),(2,(CV.frzRow (Vtab.row x0)))]⟩ kr ?_
          rw [h7]
          refine aU tOk [(5,[]),(6,[8,15]),(7,[])] 36 [⟨[8,15],3,46,47⟩,⟨[2,8,15],3,41,42⟩] [7,6,5,4,3,2,1,0] rfl kr (fun cx => ?_)
          refine AT.big1 tOk 8 kr kr ?_
          refine lV tOk [.rd,.rd,.rd] [] (spec_l1In n v9.Members 0 (IntKind.wrap .i64 ((IntKind.wrap .i64 (1 * 2 ^ min (((IntKind.wrap .u64 x1) : Int)).toNat (IntKind.bits .i64))) - 1)) r11 er11) kr kr kr kr (.inl rfl) ?_
          refine lF kr kr kr ?_
          refine aU tOk [(9,[]),(10,[]),(11,[])] 32 [⟨[8,15],3,46,47⟩,⟨[2,8,15],3,41,42⟩] [11,10,9,8,7,6,5,4,3,2,1,0] rfl kr (fun cx => ?_)
          refine aT ⟨100,0,[sB 52 (!r11),sB 51 (!r11),sB 50 (!r11),sB 49 r11,sI 48 (IntKind.wrap .i64 ((IntKind.wrap .i64 (1 * 2 ^ min (((IntKind.wrap .u64 x1) : Int)).toNat (IntKind.bits .i64))) - 1)),sI 47 v9.Members,sA 46 7 3 1,sB 45 false,sB 44 false,sB 43 r10,sI 42 v9.Id,sA 41 7 3 0,sA 7 7 3 0,sI 6 y3,sI 5 (IntKind.wrap .i64 ((IntKind.wrap .i64 (1 * 2 ^ min (((IntKind.wrap .u64 x1) : Int)).toNat (IntKind.bits .i64))) - 1)),sA 2 2 2 0],[(7,(Vrow.row v9)),(2,(CV.frzRow (Vtab.row x0)))]⟩ kr ?_
          rw [h8]
          refine aU tOk [(12,[]),(13,[15]),(14,[])] 29 [⟨[15],3,53,54⟩,⟨[8,15],3,46,47⟩,⟨[2,8,15],3,41,42⟩] [14,13,12,11,10,9,8,7,6,5,4,3,2,1,0] rfl kr (fun cx => ?_)
          refine AT.big1 tOk 15 kr kr ?_
          refine lV tOk [.rd,.rd,.rd] [] (spec_l1In n v9.Bare 0 (IntKind.wrap .i64 ((IntKind.wrap .i64 (1 * 2 ^ min (((IntKind.wrap .u64 x1) : Int)).toNat (IntKind.bits .i64))) - 1)) r12 er12) kr kr kr kr (.inl rfl) ?_
          refine lF kr kr kr ?_
          refine aU tOk [(16,[]),(17,[]),(18,[])] 25 [⟨[15],3,53,54⟩,⟨[8,15],3,46,47⟩,⟨[2,8,15],3,41,42⟩] [18,17,16,15,14,13,12,11,10,9,8,7,6,5,4,3,2,1,0] rfl kr (fun cx => ?_)
          refine aT ⟨100,0,[sB 59 (!r12),sB 58 (!r12),sB 57 (!r12),sB 56 r12,sI 55 (IntKind.wrap .i64 ((IntKind.wrap .i64 (1 * 2 ^ min (((IntKind.wrap .u64 x1) : Int)).toNat (IntKind.bits .i64))) - 1)),sI 54 v9.Bare,sA 53 7 3 2,sB 52 false,sB 51 false,sB 50 false,sB 49 r11,sI 48 (IntKind.wrap .i64 ((IntKind.wrap .i64 (1 * 2 ^ min (((IntKind.wrap .u64 x1) : Int)).toNat (IntKind.bits .i64))) - 1)),sI 47 v9.Members,sA 46 7 3 1,sB 45 false,sB 44 false,sB 43 r10,sI 42 v9.Id,sA 41 7 3 0,sA 7 7 3 0,sI 6 y3,sI 5 (IntKind.wrap .i64 ((IntKind.wrap .i64 (1 * 2 ^ min (((IntKind.wrap .u64 x1) : Int)).toNat (IntKind.bits .i64))) - 1)),sA 2 2 2 0],[(7,(Vrow.row v9)),(2,(CV.frzRow (Vtab.row x0)))]⟩ kr ?_
          rw [h9]
          refine aU tOk [(19,[]),(20,[]),(21,[]),(22,[]),(23,[]),(24,[]),(25,[]),(26,[]),(27,[]),(28,[])] 15 [⟨[],3,65,66⟩,⟨[],3,62,63⟩,⟨[],3,60,61⟩,⟨[15],3,53,54⟩,⟨[8,15],3,46,47⟩,⟨[2,8,15],3,41,42⟩] [28,27,26,25,24,23,22,21,20,19,18,17,16,15,14,13,12,11,10,9,8,7,6,5,4,3,2,1,0] rfl kr (fun cx => ?_)
          refine aT ⟨100,0,[sB 69 ((IntKind.wrap .i64 (BitVec.ofInt (IntKind.bits .i64) v9.Bare &&& BitVec.ofInt (IntKind.bits .i64) v9.Members).toNat) != v9.Bare),sB 68 ((IntKind.wrap .i64 (BitVec.ofInt (IntKind.bits .i64) v9.Bare &&& BitVec.ofInt (IntKind.bits .i64) v9.Members).toNat) != v9.Bare),sB 67 ((IntKind.wrap .i64 (BitVec.ofInt (IntKind.bits .i64) v9.Bare &&& BitVec.ofInt (IntKind.bits .i64) v9.Members).toNat) != v9.Bare),sI 66 v9.Bare,sA 65 7 3 2,sI 64 (IntKind.wrap .i64 (BitVec.ofInt (IntKind.bits .i64) v9.Bare &&& BitVec.ofInt (IntKind.bits .i64) v9.Members).toNat),sI 63 v9.Members,sA 62 7 3 1,sI 61 v9.Bare,sA 60 7 3 2,sB 59 false,sB 58 false,sB 57 false,sB 56 r12,sI 55 (IntKind.wrap .i64 ((IntKind.wrap .i64 (1 * 2 ^ min (((IntKind.wrap .u64 x1) : Int)).toNat (IntKind.bits .i64))) - 1)),sI 54 v9.Bare,sA 53 7 3 2,sB 52 false,sB 51 false,sB 50 false,sB 49 r11,sI 48 (IntKind.wrap .i64 ((IntKind.wrap .i64 (1 * 2 ^ min (((IntKind.wrap .u64 x1) : Int)).toNat (IntKind.bits .i64))) - 1)),sI 47 v9.Members,sA 46 7 3 1,sB 45 false,sB 44 false,sB 43 r10,sI 42 v9.Id,sA 41 7 3 0,sA 7 7 3 0,sI 6 y3,sI 5 (IntKind.wrap .i64 ((IntKind.wrap .i64 (1 * 2 ^ min (((IntKind.wrap .u64 x1) : Int)).toNat (IntKind.bits .i64))) - 1)),sA 2 2 2 0],[(7,(Vrow.row v9)),(2,(CV.frzRow (Vtab.row x0)))]⟩ kr ?_
          rw [h10]
          refine aU tOk [(29,[]),(30,[]),(31,[])] 12 [⟨[],3,65,66⟩,⟨[],3,62,63⟩,⟨[],3,60,61⟩,⟨[15],3,53,54⟩,⟨[8,15],3,46,47⟩,⟨[2,8,15],3,41,42⟩] [31,30,29,28,27,26,25,24,23,22,21,20,19,18,17,16,15,14,13,12,11,10,9,8,7,6,5,4,3,2,1,0] rfl kr (fun cx => ?_)
          refine aT ⟨100,0,[sB 72 (decide (y3 > 0)),sB 71 (decide (y3 > 0)),sI 70 y3,sB 69 false,sB 68 false,sB 67 false,sI 66 v9.Bare,sA 65 7 3 2,sI 64 (IntKind.wrap .i64 (BitVec.ofInt (IntKind.bits .i64) v9.Bare &&& BitVec.ofInt (IntKind.bits .i64) v9.Members).toNat),sI 63 v9.Members,sA 62 7 3 1,sI 61 v9.Bare,sA 60 7 3 2,sB 59 false,sB 58 false,sB 57 false,sB 56 r12,sI 55 (IntKind.wrap .i64 ((IntKind.wrap .i64 (1 * 2 ^ min (((IntKind.wrap .u64 x1) : Int)).toNat (IntKind.bits .i64))) - 1)),sI 54 v9.Bare,sA 53 7 3 2,sB 52 false,sB 51 false,sB 50 false,sB 49 r11,sI 48 (IntKind.wrap .i64 ((IntKind.wrap .i64 (1 * 2 ^ min (((IntKind.wrap .u64 x1) : Int)).toNat (IntKind.bits .i64))) - 1)),sI 47 v9.Members,sA 46 7 3 1,sB 45 false,sB 44 false,sB 43 r10,sI 42 v9.Id,sA 41 7 3 0,sA 7 7 3 0,sI 6 y3,sI 5 (IntKind.wrap .i64 ((IntKind.wrap .i64 (1 * 2 ^ min (((IntKind.wrap .u64 x1) : Int)).toNat (IntKind.bits .i64))) - 1)),sA 2 2 2 0],[(7,(Vrow.row v9)),(2,(CV.frzRow (Vtab.row x0)))]⟩ kr ?_
          rw [h11]
          refine aU tOk [(32,[]),(33,[]),(34,[]),(35,[])] 8 [⟨[],54,73,74⟩,⟨[],3,65,66⟩,⟨[],3,62,63⟩,⟨[],3,60,61⟩,⟨[15],3,53,54⟩,⟨[8,15],3,46,47⟩,⟨[2,8,15],3,41,42⟩] [35,34,33,32,31,30,29,28,27,26,25,24,23,22,21,20,19,18,17,16,15,14,13,12,11,10,9,8,7,6,5,4,3,2,1,0] rfl kr (fun cx => ?_)
          refine aI tOk 36 54 0 74 76 77 (some (31,true)) ⟨(.box 2),[(0,0)],0,false,3,(CV.frzEs (x0.Rows.map Vrow.row))⟩ (IntKind.wrap .i64 (y3 - 1)) (Vrow.row v13) _ kr kr kr kr kr kr rfl (idx_isF ev13) rfl (fun cx => ?_)
          refine aU tOk [(37,[]),(38,[]),(39,[]),(40,[]),(41,[]),(42,[]),(43,[])] 0 [⟨[],3,80,81⟩,⟨[],54,73,74⟩,⟨[],3,65,66⟩,⟨[],3,62,63⟩,⟨[],3,60,61⟩,⟨[15],3,53,54⟩,⟨[8,15],3,46,47⟩,⟨[2,8,15],3,41,42⟩] [43,42,41,40,39,38,37,36,35,34,33,32,31,30,29,28,27,26,25,24,23,22,21,20,19,18,17,16,15,14,13,12,11,10,9,8,7,6,5,4,3,2,1,0] rfl kr (fun cx => ?_)
          exact AT.done [84,6,5,2] [2] _ kr kr rfl
         refine tO ⟨100,0,[sB 84 (decide (v13.Id ≥ v9.Id)),sI 6 y3,sI 5 (IntKind.wrap .i64 ((IntKind.wrap .i64 (1 * 2 ^ min (((IntKind.wrap .u64 x1) : Int)).toNat (IntKind.bits .i64))) - 1)),sA 2 2 2 0],[(2,(CV.frzRow (Vtab.row x0)))]⟩ kr ?_
         cases h12 : (decide (v13.Id ≥ v9.Id))
         ·have H := bifF h12 H
          refine tf kr ?_
          refine tK ?_
          refine tE tOk 3 100 4 kr kr ?_
          exact jn (mo8,(IntKind.wrap .i64 (y3 + 1))) H (sM mo8 [6,5,2] [2] kr)
         have H := bifT h12 H
         refine tt kr ?_
         refine tG tOk 1 16 0 kr kr ?_
         refine te ?_
         obtain rfl := si H
         have H := Ho8
         dsimp only at H
         obtain rfl := si H
         exact fO [(false,[cB false])] kr rfl rfl
        have H := bifT h10 H
        refine Tr.draws mixed 44 kr ⟨100,0,[sB 84 true,sI 6 y3,sI 5 (IntKind.wrap .i64 ((IntKind.wrap .i64 (1 * 2 ^ min (((IntKind.wrap .u64 x1) : Int)).toNat (IntKind.bits .i64))) - 1)),sA 2 2 2 0],[(2,(CV.frzRow (Vtab.row x0)))]⟩ (fun cx => ?_) ?_
        ·refine aU tOk [(0,[]),(1,[2,8,15])] 42 [⟨[2,8,15],3,41,42⟩] [1,0] rfl kr (fun cx => ?_)
         refine AT.big1 tOk 2 kr kr ?_
         refine lV tOk [.rd,.rd,.rd] [] (spec_l1In n v9.Id 1 99 r10 er10) kr kr kr kr (.inl rfl) ?_
         refine lF kr kr kr ?_
         refine aU tOk [(3,[]),(4,[])] 39 [⟨[2,8,15],3,41,42⟩] [4,3,2,1,0] rfl kr (fun cx => ?_)
         refine aT ⟨100,0,[sB 45 (!r10),sB 44 (!r10),sB 43 r10,sI 42 v9.Id,sA 41 7 3 0,sA 7 7 3 0,sI 6 y3,sI 5 (IntKind.wrap .i64 ((IntKind.wrap .i64 (1 * 2 ^ min (((IntKind.wrap .u64 x1) : Int)).toNat (IntKind.bits .i64))) - 1)),sA 2 2 2 0],[(7,(Vrow.row v9)),(2,(CV.frzRow (Vtab.row x0)))]⟩ kr ?_
         rw [h7]
         refine aU tOk [(5,[]),(6,[8,15]),(7,[])] 36 [⟨[8,15],3,46,47⟩,⟨[2,8,15],3,41,42⟩] [7,6,5,4,3,2,1,0] rfl kr (fun cx => ?_)
         refine AT.big1 tOk 8 kr kr ?_
         refine lV tOk [.rd,.rd,.rd] [] (spec_l1In n v9.Members 0 (IntKind.wrap .i64 ((IntKind.wrap .i64 (1 * 2 ^ min (((IntKind.wrap .u64 x1) : Int)).toNat (IntKind.bits .i64))) - 1)) r11 er11) kr kr kr kr (.inl rfl) ?_
         refine lF kr kr kr ?_
         refine aU tOk [(9,[]),(10,[]),(11,[])] 32 [⟨[8,15],3,46,47⟩,⟨[2,8,15],3,41,42⟩] [11,10,9,8,7,6,5,4,3,2,1,0] rfl kr (fun cx => ?_)
         refine aT ⟨100,0,[sB 52 (!r11),sB 51 (!r11),sB 50 (!r11),sB 49 r11,sI 48 (IntKind.wrap .i64 ((IntKind.wrap .i64 (1 * 2 ^ min (((IntKind.wrap .u64 x1) : Int)).toNat (IntKind.bits .i64))) - 1)),sI 47 v9.Members,sA 46 7 3 1,sB 45 false,sB 44 false,sB 43 r10,sI 42 v9.Id,sA 41 7 3 0,sA 7 7 3 0,sI 6 y3,sI 5 (IntKind.wrap .i64 ((IntKind.wrap .i64 (1 * 2 ^ min (((IntKind.wrap .u64 x1) : Int)).toNat (IntKind.bits .i64))) - 1)),sA 2 2 2 0],[(7,(Vrow.row v9)),(2,(CV.frzRow (Vtab.row x0)))]⟩ kr ?_
         rw [h8]
         refine aU tOk [(12,[]),(13,[15]),(14,[])] 29 [⟨[15],3,53,54⟩,⟨[8,15],3,46,47⟩,⟨[2,8,15],3,41,42⟩] [14,13,12,11,10,9,8,7,6,5,4,3,2,1,0] rfl kr (fun cx => ?_)
         refine AT.big1 tOk 15 kr kr ?_
         refine lV tOk [.rd,.rd,.rd] [] (spec_l1In n v9.Bare 0 (IntKind.wrap .i64 ((IntKind.wrap .i64 (1 * 2 ^ min (((IntKind.wrap .u64 x1) : Int)).toNat (IntKind.bits .i64))) - 1)) r12 er12) kr kr kr kr (.inl rfl) ?_
         refine lF kr kr kr ?_
         refine aU tOk [(16,[]),(17,[]),(18,[])] 25 [⟨[15],3,53,54⟩,⟨[8,15],3,46,47⟩,⟨[2,8,15],3,41,42⟩] [18,17,16,15,14,13,12,11,10,9,8,7,6,5,4,3,2,1,0] rfl kr (fun cx => ?_)
         refine aT ⟨100,0,[sB 59 (!r12),sB 58 (!r12),sB 57 (!r12),sB 56 r12,sI 55 (IntKind.wrap .i64 ((IntKind.wrap .i64 (1 * 2 ^ min (((IntKind.wrap .u64 x1) : Int)).toNat (IntKind.bits .i64))) - 1)),sI 54 v9.Bare,sA 53 7 3 2,sB 52 false,sB 51 false,sB 50 false,sB 49 r11,sI 48 (IntKind.wrap .i64 ((IntKind.wrap .i64 (1 * 2 ^ min (((IntKind.wrap .u64 x1) : Int)).toNat (IntKind.bits .i64))) - 1)),sI 47 v9.Members,sA 46 7 3 1,sB 45 false,sB 44 false,sB 43 r10,sI 42 v9.Id,sA 41 7 3 0,sA 7 7 3 0,sI 6 y3,sI 5 (IntKind.wrap .i64 ((IntKind.wrap .i64 (1 * 2 ^ min (((IntKind.wrap .u64 x1) : Int)).toNat (IntKind.bits .i64))) - 1)),sA 2 2 2 0],[(7,(Vrow.row v9)),(2,(CV.frzRow (Vtab.row x0)))]⟩ kr ?_
         rw [h9]
         refine aU tOk [(19,[]),(20,[]),(21,[]),(22,[]),(23,[]),(24,[]),(25,[]),(26,[]),(27,[]),(28,[])] 15 [⟨[],3,65,66⟩,⟨[],3,62,63⟩,⟨[],3,60,61⟩,⟨[15],3,53,54⟩,⟨[8,15],3,46,47⟩,⟨[2,8,15],3,41,42⟩] [28,27,26,25,24,23,22,21,20,19,18,17,16,15,14,13,12,11,10,9,8,7,6,5,4,3,2,1,0] rfl kr (fun cx => ?_)
         refine aT ⟨100,0,[sB 69 ((IntKind.wrap .i64 (BitVec.ofInt (IntKind.bits .i64) v9.Bare &&& BitVec.ofInt (IntKind.bits .i64) v9.Members).toNat) != v9.Bare),sB 68 ((IntKind.wrap .i64 (BitVec.ofInt (IntKind.bits .i64) v9.Bare &&& BitVec.ofInt (IntKind.bits .i64) v9.Members).toNat) != v9.Bare),sB 67 ((IntKind.wrap .i64 (BitVec.ofInt (IntKind.bits .i64) v9.Bare &&& BitVec.ofInt (IntKind.bits .i64) v9.Members).toNat) != v9.Bare),sI 66 v9.Bare,sA 65 7 3 2,sI 64 (IntKind.wrap .i64 (BitVec.ofInt (IntKind.bits .i64) v9.Bare &&& BitVec.ofInt (IntKind.bits .i64) v9.Members).toNat),sI 63 v9.Members,sA 62 7 3 1,sI 61 v9.Bare,sA 60 7 3 2,sB 59 false,sB 58 false,sB 57 false,sB 56 r12,sI 55 (IntKind.wrap .i64 ((IntKind.wrap .i64 (1 * 2 ^ min (((IntKind.wrap .u64 x1) : Int)).toNat (IntKind.bits .i64))) - 1)),sI 54 v9.Bare,sA 53 7 3 2,sB 52 false,sB 51 false,sB 50 false,sB 49 r11,sI 48 (IntKind.wrap .i64 ((IntKind.wrap .i64 (1 * 2 ^ min (((IntKind.wrap .u64 x1) : Int)).toNat (IntKind.bits .i64))) - 1)),sI 47 v9.Members,sA 46 7 3 1,sB 45 false,sB 44 false,sB 43 r10,sI 42 v9.Id,sA 41 7 3 0,sA 7 7 3 0,sI 6 y3,sI 5 (IntKind.wrap .i64 ((IntKind.wrap .i64 (1 * 2 ^ min (((IntKind.wrap .u64 x1) : Int)).toNat (IntKind.bits .i64))) - 1)),sA 2 2 2 0],[(7,(Vrow.row v9)),(2,(CV.frzRow (Vtab.row x0)))]⟩ kr ?_
         rw [h10]
         refine aU tOk [(29,[]),(30,[]),(31,[]),(32,[]),(33,[]),(34,[]),(35,[]),(36,[]),(37,[]),(38,[]),(39,[]),(40,[]),(41,[]),(42,[]),(43,[])] 0 [⟨[],3,65,66⟩,⟨[],3,62,63⟩,⟨[],3,60,61⟩,⟨[15],3,53,54⟩,⟨[8,15],3,46,47⟩,⟨[2,8,15],3,41,42⟩] [43,42,41,40,39,38,37,36,35,34,33,32,31,30,29,28,27,26,25,24,23,22,21,20,19,18,17,16,15,14,13,12,11,10,9,8,7,6,5,4,3,2,1,0] rfl kr (fun cx => ?_)
         exact AT.done [84,6,5,2] [2] _ kr kr rfl
        refine tt kr ?_
        refine tG tOk 1 16 0 kr kr ?_
        refine te ?_
        obtain rfl := si H
        have H := Ho8
        dsimp only at H
        obtain rfl := si H
        exact fO [(false,[cB false])] kr rfl rfl
       have H := bifT h9 H
       refine Tr.draws mixed 44 kr ⟨100,0,[sB 84 true,sI 6 y3,sI 5 (IntKind.wrap .i64 ((IntKind.wrap .i64 (1 * 2 ^ min (((IntKind.wrap .u64 x1) : Int)).toNat (IntKind.bits .i64))) - 1)),sA 2 2 2 0],[(2,(CV.frzRow (Vtab.row x0)))]⟩ (fun cx => ?_) ?_
       ·refine aU tOk [(0,[]),(1,[2,8,15])] 42 [⟨[2,8,15],3,41,42⟩] [1,0] rfl kr (fun cx => ?_)
        refine AT.big1 tOk 2 kr kr ?_
        refine lV tOk [.rd,.rd,.rd] [] (spec_l1In n v9.Id 1 99 r10 er10) kr kr kr kr (.inl rfl) ?_
        refine lF kr kr kr ?_
        refine aU tOk [(3,[]),(4,[])] 39 [⟨[2,8,15],3,41,42⟩] [4,3,2,1,0] rfl kr (fun cx => ?_)
        refine aT ⟨100,0,[sB 45 (!r10),sB 44 (!r10),sB 43 r10,sI 42 v9.Id,sA 41 7 3 0,sA 7 7 3 0,sI 6 y3,sI 5 (IntKind.wrap .i64 ((IntKind.wrap .i64 (1 * 2 ^ min (((IntKind.wrap .u64 x1) : Int)).toNat (IntKind.bits .i64))) - 1)),sA 2 2 2 0],[(7,(Vrow.row v9)),(2,(CV.frzRow (Vtab.row x0)))]⟩ kr ?_
        rw [h7]
        refine aU tOk [(5,[]),(6,[8,15]),(7,[])] 36 [⟨[8,15],3,46,47⟩,⟨[2,8,15],3,41,42⟩] [7,6,5,4,3,2,1,0] rfl kr (fun cx => ?_)
        refine AT.big1 tOk 8 kr kr ?_
        refine lV tOk [.rd,.rd,.rd] [] (spec_l1In n v9.Members 0 (IntKind.wrap .i64 ((IntKind.wrap .i64 (1 * 2 ^ min (((IntKind.wrap .u64 x1) : Int)).toNat (IntKind.bits .i64))) - 1)) r11 er11) kr kr kr kr (.inl rfl) ?_
        refine lF kr kr kr ?_
        refine aU tOk [(9,[]),(10,[]),(11,[])] 32 [⟨[8,15],3,46,47⟩,⟨[2,8,15],3,41,42⟩] [11,10,9,8,7,6,5,4,3,2,1,0] rfl kr (fun cx => ?_)
        refine aT ⟨100,0,[sB 52 (!r11),sB 51 (!r11),sB 50 (!r11),sB 49 r11,sI 48 (IntKind.wrap .i64 ((IntKind.wrap .i64 (1 * 2 ^ min (((IntKind.wrap .u64 x1) : Int)).toNat (IntKind.bits .i64))) - 1)),sI 47 v9.Members,sA 46 7 3 1,sB 45 false,sB 44 false,sB 43 r10,sI 42 v9.Id,sA 41 7 3 0,sA 7 7 3 0,sI 6 y3,sI 5 (IntKind.wrap .i64 ((IntKind.wrap .i64 (1 * 2 ^ min (((IntKind.wrap .u64 x1) : Int)).toNat (IntKind.bits .i64))) - 1)),sA 2 2 2 0],[(7,(Vrow.row v9)),(2,(CV.frzRow (Vtab.row x0)))]⟩ kr ?_
        rw [h8]
        refine aU tOk [(12,[]),(13,[15]),(14,[])] 29 [⟨[15],3,53,54⟩,⟨[8,15],3,46,47⟩,⟨[2,8,15],3,41,42⟩] [14,13,12,11,10,9,8,7,6,5,4,3,2,1,0] rfl kr (fun cx => ?_)
        refine AT.big1 tOk 15 kr kr ?_
        refine lV tOk [.rd,.rd,.rd] [] (spec_l1In n v9.Bare 0 (IntKind.wrap .i64 ((IntKind.wrap .i64 (1 * 2 ^ min (((IntKind.wrap .u64 x1) : Int)).toNat (IntKind.bits .i64))) - 1)) r12 er12) kr kr kr kr (.inl rfl) ?_
        refine lF kr kr kr ?_
        refine aU tOk [(16,[]),(17,[]),(18,[])] 25 [⟨[15],3,53,54⟩,⟨[8,15],3,46,47⟩,⟨[2,8,15],3,41,42⟩] [18,17,16,15,14,13,12,11,10,9,8,7,6,5,4,3,2,1,0] rfl kr (fun cx => ?_)
        refine aT ⟨100,0,[sB 59 (!r12),sB 58 (!r12),sB 57 (!r12),sB 56 r12,sI 55 (IntKind.wrap .i64 ((IntKind.wrap .i64 (1 * 2 ^ min (((IntKind.wrap .u64 x1) : Int)).toNat (IntKind.bits .i64))) - 1)),sI 54 v9.Bare,sA 53 7 3 2,sB 52 false,sB 51 false,sB 50 false,sB 49 r11,sI 48 (IntKind.wrap .i64 ((IntKind.wrap .i64 (1 * 2 ^ min (((IntKind.wrap .u64 x1) : Int)).toNat (IntKind.bits .i64))) - 1)),sI 47 v9.Members,sA 46 7 3 1,sB 45 false,sB 44 false,sB 43 r10,sI 42 v9.Id,sA 41 7 3 0,sA 7 7 3 0,sI 6 y3,sI 5 (IntKind.wrap .i64 ((IntKind.wrap .i64 (1 * 2 ^ min (((IntKind.wrap .u64 x1) : Int)).toNat (IntKind.bits .i64))) - 1)),sA 2 2 2 0],[(7,(Vrow.row v9)),(2,(CV.frzRow (Vtab.row x0)))]⟩ kr ?_
        rw [h9]
        refine aU tOk [(19,[]),(20,[]),(21,[]),(22,[]),(23,[]),(24,[]),(25,[]),(26,[]),(27,[]),(28,[]),(29,[]),(30,[]),(31,[]),(32,[]),(33,[]),(34,[]),(35,[]),(36,[]),(37,[]),(38,[]),(39,[]),(40,[]),(41,[]),(42,[]),(43,[])] 0 [⟨[15],3,53,54⟩,⟨[8,15],3,46,47⟩,⟨[2,8,15],3,41,42⟩] [43,42,41,40,39,38,37,36,35,34,33,32,31,30,29,28,27,26,25,24,23,22,21,20,19,18,17,16,15,14,13,12,11,10,9,8,7,6,5,4,3,2,1,0] rfl kr (fun cx => ?_)
        exact AT.done [84,6,5,2] [2] _ kr kr rfl
       refine tt kr ?_
       refine tG tOk 1 16 0 kr kr ?_
       refine te ?_
       obtain rfl := si H
       have H := Ho8
       dsimp only at H
       obtain rfl := si H
       exact fO [(false,[cB false])] kr rfl rfl
      have H := bifT h8 H
      refine Tr.draws mixed 44 kr ⟨100,0,[sB 84 true,sI 6 y3,sI 5 (IntKind.wrap .i64 ((IntKind.wrap .i64 (1 * 2 ^ min (((IntKind.wrap .u64 x1) : Int)).toNat (IntKind.bits .i64))) - 1)),sA 2 2 2 0],[(2,(CV.frzRow (Vtab.row x0)))]⟩ (fun cx => ?_) ?_
      ·refine aU tOk [(0,[]),(1,[2,8])] 42 [⟨[2,8],3,41,42⟩] [1,0] rfl kr (fun cx => ?_)
       refine AT.big1 tOk 2 kr kr ?_
       refine lV tOk [.rd,.rd,.rd] [] (spec_l1In n v9.Id 1 99 r10 er10) kr kr kr kr (.inl rfl) ?_
       refine lF kr kr kr ?_
       refine aU tOk [(3,[]),(4,[])] 39 [⟨[2,8],3,41,42⟩] [4,3,2,1,0] rfl kr (fun cx => ?_)
       refine aT ⟨100,0,[sB 45 (!r10),sB 44 (!r10),sB 43 r10,sI 42 v9.Id,sA 41 7 3 0,sA 7 7 3 0,sI 6 y3,sI 5 (IntKind.wrap .i64 ((IntKind.wrap .i64 (1 * 2 ^ min (((IntKind.wrap .u64 x1) : Int)).toNat (IntKind.bits .i64))) - 1)),sA 2 2 2 0],[(7,(Vrow.row v9)),(2,(CV.frzRow (Vtab.row x0)))]⟩ kr ?_
       rw [h7]
       refine aU tOk [(5,[]),(6,[8]),(7,[])] 36 [⟨[8],3,46,47⟩,⟨[2,8],3,41,42⟩] [7,6,5,4,3,2,1,0] rfl kr (fun cx => ?_)
       refine AT.big1 tOk 8 kr kr ?_
       refine lV tOk [.rd,.rd,.rd] [] (spec_l1In n v9.Members 0 (IntKind.wrap .i64 ((IntKind.wrap .i64 (1 * 2 ^ min (((IntKind.wrap .u64 x1) : Int)).toNat (IntKind.bits .i64))) - 1)) r11 er11) kr kr kr kr (.inl rfl) ?_
       refine lF kr kr kr ?_
       refine aU tOk [(9,[]),(10,[]),(11,[])] 32 [⟨[8],3,46,47⟩,⟨[2,8],3,41,42⟩] [11,10,9,8,7,6,5,4,3,2,1,0] rfl kr (fun cx => ?_)
       refine aT ⟨100,0,[sB 52 (!r11),sB 51 (!r11),sB 50 (!r11),sB 49 r11,sI 48 (IntKind.wrap .i64 ((IntKind.wrap .i64 (1 * 2 ^ min (((IntKind.wrap .u64 x1) : Int)).toNat (IntKind.bits .i64))) - 1)),sI 47 v9.Members,sA 46 7 3 1,sB 45 false,sB 44 false,sB 43 r10,sI 42 v9.Id,sA 41 7 3 0,sA 7 7 3 0,sI 6 y3,sI 5 (IntKind.wrap .i64 ((IntKind.wrap .i64 (1 * 2 ^ min (((IntKind.wrap .u64 x1) : Int)).toNat (IntKind.bits .i64))) - 1)),sA 2 2 2 0],[(7,(Vrow.row v9)),(2,(CV.frzRow (Vtab.row x0)))]⟩ kr ?_
       rw [h8]
       refine aU tOk [(12,[]),(13,[]),(14,[]),(15,[]),(16,[]),(17,[]),(18,[]),(19,[]),(20,[]),(21,[]),(22,[]),(23,[]),(24,[]),(25,[]),(26,[]),(27,[]),(28,[]),(29,[]),(30,[]),(31,[]),(32,[]),(33,[]),(34,[]),(35,[]),(36,[]),(37,[]),(38,[]),(39,[]),(40,[]),(41,[]),(42,[]),(43,[])] 0 [⟨[8],3,46,47⟩,⟨[2,8],3,41,42⟩] [43,42,41,40,39,38,37,36,35,34,33,32,31,30,29,28,27,26,25,24,23,22,21,20,19,18,17,16,15,14,13,12,11,10,9,8,7,6,5,4,3,2,1,0] rfl kr (fun cx => ?_)
       exact AT.done [84,6,5,2] [2] _ kr kr rfl
      refine tt kr ?_
      refine tG tOk 1 16 0 kr kr ?_
      refine te ?_
      obtain rfl := si H
      have H := Ho8
      dsimp only at H
      obtain rfl := si H
      exact fO [(false,[cB false])] kr rfl rfl
     have H := bifT h7 H
     refine Tr.draws mixed 44 kr ⟨100,0,[sB 84 true,sI 6 y3,sI 5 (IntKind.wrap .i64 ((IntKind.wrap .i64 (1 * 2 ^ min (((IntKind.wrap .u64 x1) : Int)).toNat (IntKind.bits .i64))) - 1)),sA 2 2 2 0],[(2,(CV.frzRow (Vtab.row x0)))]⟩ (fun cx => ?_) ?_
     ·refine aU tOk [(0,[]),(1,[2])] 42 [⟨[2],3,41,42⟩] [1,0] rfl kr (fun cx => ?_)
      refine AT.big1 tOk 2 kr kr ?_
      refine lV tOk [.rd,.rd,.rd] [] (spec_l1In n v9.Id 1 99 r10 er10) kr kr kr kr (.inl rfl) ?_
      refine lF kr kr kr ?_
      refine aU tOk [(3,[]),(4,[])] 39 [⟨[2],3,41,42⟩] [4,3,2,1,0] rfl kr (fun cx => ?_)
      refine aT ⟨100,0,[sB 45 (!r10),sB 44 (!r10),sB 43 r10,sI 42 v9.Id,sA 41 7 3 0,sA 7 7 3 0,sI 6 y3,sI 5 (IntKind.wrap .i64 ((IntKind.wrap .i64 (1 * 2 ^ min (((IntKind.wrap .u64 x1) : Int)).toNat (IntKind.bits .i64))) - 1)),sA 2 2 2 0],[(7,(Vrow.row v9)),(2,(CV.frzRow (Vtab.row x0)))]⟩ kr ?_
      rw [h7]
      refine aU tOk [(5,[]),(6,[]),(7,[]),(8,[]),(9,[]),(10,[]),(11,[]),(12,[]),(13,[]),(14,[]),(15,[]),(16,[]),(17,[]),(18,[]),(19,[]),(20,[]),(21,[]),(22,[]),(23,[]),(24,[]),(25,[]),(26,[]),(27,[]),(28,[]),(29,[]),(30,[]),(31,[]),(32,[]),(33,[]),(34,[]),(35,[]),(36,[]),(37,[]),(38,[]),(39,[]),(40,[]),(41,[]),(42,[]),(43,[])] 0 [⟨[2],3,41,42⟩] [43,42,41,40,39,38,37,36,35,34,33,32,31,30,29,28,27,26,25,24,23,22,21,20,19,18,17,16,15,14,13,12,11,10,9,8,7,6,5,4,3,2,1,0] rfl kr (fun cx => ?_)
      exact AT.done [84,6,5,2] [2] _ kr kr rfl
     refine tt kr ?_
     refine tG tOk 1 16 0 kr kr ?_
     refine te ?_
     obtain rfl := si H
     have H := Ho8
     dsimp only at H
     obtain rfl := si H
     exact fO [(false,[cB false])] kr rfl rfl
    rintro _ H
    have H : (spec_VtabOk_J1 n x0) = some r := H
    unfold spec_VtabOk_J1 at H
    refine tS ?_
    refine tG tOk 1 260 4 kr kr ?_
    obtain ⟨o5,eo5,Ho5⟩ := bind_some H
    clear H
    refine Tr.mid (ι := Unit) (fun v => ⟨100,0,[],[]⟩) (fun v => spec_VtabOk_J2 n = some r) ?_ ?_
    ·refine tB ?_
     refine Tr.loop (ι := Nat × (Int)) (fun v => ⟨100,0,[sI 8 v.2,sA 2 2 2 0],[(2,(CV.frzRow (Vtab.row x0)))]⟩) (fun v => spec_VtabOk_L3 n v.1 x0 v.2 = some o5) (fun v => v.1) (n,0) eo5 (St.sub_of [8,2] [2] kr) ?_
     rintro ⟨mo5,y4⟩ H
     have H : spec_VtabOk_L3 n mo5 x0 y4 = some o5 := H
     obtain _ | mo5 := mo5
     ·cases (show (none : Option _) = some o5 from H)
     rw [spec_VtabOk_L3] at H
     refine tS ?_
     refine rU tOk 3 kr ?_
     refine lL tOk 22 3 3 87 88 none ⟨(.slot 87),[],0,false,1,(CV.frzEs (x0.Pvid.map intRow))⟩ (x0.Pvid).length _ kr kr kr kr kr (frz_len _ _) rfl ?_
     refine uD tOk 1 0x20000000000000000000104 4 kr kr ?_
     obtain ⟨h4,H⟩ | ⟨h4,H⟩ := bC H
     ·refine tF h4 kr ?_
      refine Tr.exit ?_
      refine And.intro (fun _ => ?_) (fun h => absurd rfl h)
      obtain rfl := si H
      have H := Ho5
      dsimp only at H
      exact jn () H (sB_ [] [] kr)
     refine tT h4 kr ?_
     refine tK ?_
     refine tS ?_
     refine tB ?_
     obtain ⟨v6,ev6,H⟩ := bind_some H
     obtain ⟨r7,er7,H⟩ := bind_some H
     refine Tr.draws mixed 8 kr ⟨100,0,[sB 99 (decide (r7 < 0)),sI 8 y4,sA 2 2 2 0],[(2,(CV.frzRow (Vtab.row x0)))]⟩ (fun cx => ?_) ?_
     ·refine aU tOk [(0,[6]),(1,[]),(2,[6]),(3,[])] 4 [⟨[6],22,93,94⟩,⟨[6],56,2,92⟩] [3,2,1,0] rfl kr (fun cx => ?_)
      refine aI tOk 4 22 0 94 95 96 none ⟨(.box 2),[(0,0)],1,false,1,(CV.frzEs (x0.Pvid.map intRow))⟩ y4 [cI v6] _ kr kr kr kr kr kr rfl (idx_isF ev6) rfl (fun cx => ?_)
      refine aU tOk [(5,[])] 2 [⟨[6],22,93,94⟩,⟨[6],56,2,92⟩] [5,4,3,2,1,0] rfl kr (fun cx => ?_)
      refine AT.big1 tOk 6 kr kr ?_
      refine lV tOk [.rd,.rd] [] (spec_RowAt n x0 v6 r7 er7) kr kr kr kr (.inl rfl) ?_
      refine lF kr kr kr ?_
      refine aU tOk [(7,[])] 0 [⟨[6],22,93,94⟩,⟨[6],56,2,92⟩] [7,6,5,4,3,2,1,0] rfl kr (fun cx => ?_)
      exact AT.done [99,8,2] [2] _ kr kr rfl
     refine tO ⟨100,0,[sB 99 (decide (r7 < 0)),sI 8 y4,sA 2 2 2 0],[(2,(CV.frzRow (Vtab.row x0)))]⟩ kr ?_
     cases h5 : (decide (r7 < 0))
     ·have H := bifF h5 H
      refine tf kr ?_
      refine tK ?_
      refine tE tOk 3 260 4 kr kr ?_
      exact jn (mo5,(IntKind.wrap .i64 (y4 + 1))) H (sM mo5 [8,2] [2] kr)
     have H := bifT h5 H
     refine tt kr ?_
     refine tG tOk 1 16 0 kr kr ?_
     refine te ?_
     obtain rfl := si H
     have H := Ho5
     dsimp only at H
     obtain rfl := si H
     exact fO [(false,[cB false])] kr rfl rfl
    rintro _ H
    have H : (spec_VtabOk_J2 n) = some r := H
    unfold spec_VtabOk_J2 at H
    refine tG tOk 1 16 0 kr kr ?_
    exact te (by obtain rfl := si H; exact fO [(false,[cB true])] kr rfl rfl)
   refine tT h3 kr ?_
   refine tG tOk 1 16 0 kr kr ?_
   exact te (by obtain rfl := si H; exact fO [(false,[cB false])] kr rfl rfl)
  have H := bifT h2 H
  refine uD tOk 5 16777222 4 kr kr ?_
  refine tt kr ?_
  refine tG tOk 1 16 0 kr kr ?_
  exact te (by obtain rfl := si H; exact fO [(false,[cB false])] kr rfl rfl)
 have H := bifT h1 H
 refine uD tOk 12 16777222 4 kr kr ?_
 refine tt kr ?_
 refine tG tOk 1 16 0 kr kr ?_
 exact te (by obtain rfl := si H; exact fO [(false,[cB false])] kr rfl rfl)
def spec_l11CountsF (n : Nat) (x0 : Bridge) : Option (Bool) :=
  ((spec_l1InF n x0.Ticks 0 1000000).bind fun r1 => (bif r1 then ((spec_l1InF n x0.Parse 0 1000000).bind fun r2 => (bif r2 then ((spec_l1InF n x0.Word 0 1000000).bind fun r3 => (bif r3 then ((spec_l1InF n x0.Drops 0 1000000).bind fun r4 => (bif r4 then ((spec_l1InF n x0.Vers 0 1000000).bind fun r5 => (some r5)) else (some false))) else (some false))) else (some false))) else (some false)))
noncomputable abbrev G241 (k : Nat) := Rg Tryz.f241 k
theorem spec_l11Counts (n : Nat) (x0 : Bridge) (r : Bool) (H : spec_l11CountsF n x0 = some r) : LCall Tryz.prog 241 [.val true (CV.frzRow (Bridge.row x0))] [.val false [.lit (.bool r)]] [] := by
 refine LCall.of_body tOk Tryz.func241 rfl (c := (.seq (G241 0) (.seq (G241 1) .ret))) kr (Nat.le_of_ble_eq_true kr) 0 (rs := [.tmp 2]) rfl [] .nil [(false,[.lit (.bool r)])] [] [] fun cx => ?_
 show Tr _ _ _ ⟨26,0,[sV 0 (CV.frzRow (Bridge.row x0))],[]⟩ _
 unfold spec_l11CountsF at H
 refine tG tOk 2 2 2 kr kr ?_
 refine rU tOk 2 kr ?_
 obtain ⟨r1,er1,H⟩ := bind_some H
 refine lV tOk [.rd,.rd,.rd] [] (spec_l1In n x0.Ticks 0 1000000 r1 er1) kr kr kr kr (.inl rfl) ?_
 refine lU tOk 1 kr ?_
 refine lT ⟨26,0,[sB 6 r1,sB 5 r1,sI 4 x0.Ticks,sA 3 1 11 6,sA 1 1 11 0],[(1,(CV.frzRow (Bridge.row x0)))]⟩ kr ?_
 cases h1 : r1
 ·have H := bifF h1 H
  refine uD tOk 20 4 0 kr kr ?_
  exact te (by obtain rfl := si H; exact fO [(false,[cB false])] kr rfl rfl)
 have H := bifT h1 H
 refine lU tOk 2 kr ?_
 obtain ⟨r2,er2,H⟩ := bind_some H
 refine lV tOk [.rd,.rd,.rd] [] (spec_l1In n x0.Parse 0 1000000 r2 er2) kr kr kr kr (.inl rfl) ?_
 refine lU tOk 2 kr ?_
 refine lT ⟨26,0,[sB 11 r2,sB 10 r2,sB 9 r2,sI 8 x0.Parse,sA 7 1 11 7,sB 6 true,sB 5 true,sI 4 x0.Ticks,sA 3 1 11 6,sA 1 1 11 0],[(1,(CV.frzRow (Bridge.row x0)))]⟩ kr ?_
 cases h2 : r2
 ·have H := bifF h2 H
  refine uD tOk 15 4 0 kr kr ?_
  exact te (by obtain rfl := si H; exact fO [(false,[cB false])] kr rfl rfl)
 have H := bifT h2 H
 refine lU tOk 2 kr ?_
 obtain ⟨r3,er3,H⟩ := bind_some H
 refine lV tOk [.rd,.rd,.rd] [] (spec_l1In n x0.Word 0 1000000 r3 er3) kr kr kr kr (.inl rfl) ?_
 refine lU tOk 2 kr ?_
 refine lT ⟨26,0,[sB 16 r3,sB 15 r3,sB 14 r3,sI 13 x0.Word,sA 12 1 11 8,sB 11 true,sB 10 true,sB 9 true,sI 8 x0.Parse,sA 7 1 11 7,sB 6 true,sB 5 true,sI 4 x0.Ticks,sA 3 1 11 6,sA 1 1 11 0],[(1,(CV.frzRow (Bridge.row x0)))]⟩ kr ?_
 cases h3 : r3
 ·have H := bifF h3 H
  refine uD tOk 10 4 0 kr kr ?_
  exact te (by obtain rfl := si H; exact fO [(false,[cB false])] kr rfl rfl)
 have H := bifT h3 H
 refine lU tOk 2 kr ?_
 obtain ⟨r4,er4,H⟩ := bind_some H
 refine lV tOk [.rd,.rd,.rd] [] (spec_l1In n x0.Drops 0 1000000 r4 er4) kr kr kr kr (.inl rfl) ?_
 refine lU tOk 2 kr ?_
 refine lT ⟨26,0,[sB 21 r4,sB 20 r4,sB 19 r4,sI 18 x0.Drops,sA 17 1 11 9,sB 16 true,sB 15 true,sB 14 true,sI 13 x0.Word,sA 12 1 11 8,sB 11 true,sB 10 true,sB 9 true,sI 8 x0.Parse,sA 7 1 11 7,sB 6 true,sB 5 true,sI 4 x0.Ticks,sA 3 1 11 6,sA 1 1 11 0],[(1,(CV.frzRow (Bridge.row x0)))]⟩ kr ?_
 cases h4 : r4
 ·have H := bifF h4 H
  refine uD tOk 5 4 0 kr kr ?_
  exact te (by obtain rfl := si H; exact fO [(false,[cB false])] kr rfl rfl)
 have H := bifT h4 H
 refine lU tOk 2 kr ?_
 obtain ⟨r5,er5,H⟩ := bind_some H
 refine lV tOk [.rd,.rd,.rd] [] (spec_l1In n x0.Vers 0 1000000 r5 er5) kr kr kr kr (.inl rfl) ?_
 refine uD tOk 2 4 0 kr kr ?_
 exact te (by obtain rfl := si H; exact fO [(false,[cB r5])] kr rfl rfl)
def spec_BridgeOk_J1 (n : Nat) (x0 : Bridge) : Option (Bool) :=
  ((spec_l1InF n x0.Id 1 99).bind fun r2 => (bif r2 then (bif (decide ((x0.Name.size : Int) ≤ 10)) then ((spec_l1InF n (x0.Ports.length : Int) 1 6).bind fun r3 => (bif r3 then ((spec_FdbOkF n x0.F).bind fun r4 => (bif r4 then ((spec_VtabOkF n x0.V (x0.Ports.length : Int)).bind fun r5 => (bif r5 then ((spec_l11CountsF n x0).bind fun r6 => (some r6)) else (some false))) else (some false))) else (some false))) else (some false)) else (some false)))
def spec_BridgeOk_L2 (n : Nat) : Nat → Bridge → Int → Option ((Unit) ⊕ (Bool))
  | 0,_,_ => none
  | mo7 + 1,x0,y1 => (bif (decide (y1 < (x0.Ports.length : Int))) then ((idx x0.Ports y1).bind fun v8 => ((spec_PtOkF n v8).bind fun r9 => (bif (!r9) then (some (Sum.inr false)) else (spec_BridgeOk_L2 n mo7 x0 (IntKind.wrap .i64 (y1 + 1)))))) else (some (Sum.inl ())))
def spec_BridgeOkF (n : Nat) (x0 : Bridge) : Option (Bool) :=
  ((spec_BridgeOk_L2 n n x0 0).bind fun o => match o with | .inl _ => (spec_BridgeOk_J1 n x0) | .inr r => some r)
noncomputable abbrev G193 (k : Nat) := Rg Tryz.f193 k
theorem spec_BridgeOk (n : Nat) (x0 : Bridge) (r : Bool) (H : spec_BridgeOkF n x0 = some r) : LCall Tryz.prog 193 [.val true (CV.frzRow (Bridge.row x0))] [.val false [.lit (.bool r)]] [] := by
 refine LCall.of_body tOk Tryz.func193 rfl (c := (.seq (G193 0) (.seq (.seq (G193 1) (.block 0 (.loop (.seq (.seq (G193 2) (.cond (.tmp 8) .skip (.exit 0))) (.seq (.block 1 (.seq (G193 4) (.cond (.tmp 17) (.seq (G193 5) .ret) .skip))) (G193 3)))))) (.seq (G193 6) .ret)))) kr (Nat.le_of_ble_eq_true kr) 0 (rs := [.tmp 2]) rfl [] .nil [(false,[.lit (.bool r)])] [] [] fun cx => ?_
 show Tr _ _ _ ⟨50,0,[sV 0 (CV.frzRow (Bridge.row x0))],[]⟩ _
 unfold spec_BridgeOkF at H
 refine tG tOk 2 2 2 kr kr ?_
 refine tS ?_
 refine tG tOk 1 10 2 kr kr ?_
 obtain ⟨o7,eo7,Ho7⟩ := bind_some H
 clear H
 refine Tr.mid (ι := Unit) (fun v => ⟨50,0,[sA 1 1 11 0],[(1,(CV.frzRow (Bridge.row x0)))]⟩) (fun v => spec_BridgeOk_J1 n x0 = some r) ?_ ?_
 ·refine tB ?_
  refine Tr.loop (ι := Nat × (Int)) (fun v => ⟨50,0,[sI 3 v.2,sA 1 1 11 0],[(1,(CV.frzRow (Bridge.row x0)))]⟩) (fun v => spec_BridgeOk_L2 n v.1 x0 v.2 = some o7) (fun v => v.1) (n,0) eo7 (St.sub_of [3,1] [1] kr) ?_
  rintro ⟨mo7,y1⟩ H
  have H : spec_BridgeOk_L2 n mo7 x0 y1 = some o7 := H
  obtain _ | mo7 := mo7
  ·cases (show (none : Option _) = some o7 from H)
  rw [spec_BridgeOk_L2] at H
  refine tS ?_
  refine rU tOk 3 kr ?_
  refine lL tOk 52 3 182 6 7 none ⟨(.slot 6),[],0,false,8,(CV.frzEs (x0.Ports.map Pt.row))⟩ (x0.Ports).length _ kr kr kr kr kr (frz_len _ _) rfl ?_
  refine uD tOk 1 266 2 kr kr ?_
  obtain ⟨h6,H⟩ | ⟨h6,H⟩ := bC H
  ·refine tF h6 kr ?_
   refine Tr.exit ?_
   refine And.intro (fun _ => ?_) (fun h => absurd rfl h)
   obtain rfl := si H
   have H := Ho7
   dsimp only at H
   exact jn () H (sB_ [1] [1] kr)
  refine tT h6 kr ?_
  refine tK ?_
  refine tS ?_
  refine tB ?_
  refine rU tOk 3 kr ?_
  obtain ⟨v8,ev8,H⟩ := bind_some H
  refine lI tOk 52 0 12 13 14 none ⟨(.slot 12),[],0,false,8,(CV.frzEs (x0.Ports.map Pt.row))⟩ y1 (Pt.row v8) _ kr kr kr kr rfl (idx_isF ev8) rfl ?_
  refine lU tOk 1 kr ?_
  obtain ⟨r9,er9,H⟩ := bind_some H
  refine lV tOk [.rd] [] (spec_PtOk n v8 r9 er9) kr kr kr kr (.inl rfl) ?_
  refine uD tOk 1 131082 2 kr kr ?_
  obtain ⟨h7,H⟩ | ⟨h7,H⟩ := bC H
  ·refine tF h7 kr ?_
   refine tK ?_
   refine tE tOk 3 10 2 kr kr ?_
   exact jn (mo7,(IntKind.wrap .i64 (y1 + 1))) H (sM mo7 [3,1] [1] kr)
  refine tT h7 kr ?_
  refine tG tOk 1 4 0 kr kr ?_
  refine te ?_
  obtain rfl := si H
  have H := Ho7
  dsimp only at H
  obtain rfl := si H
  exact fO [(false,[cB false])] kr rfl rfl
 rintro _ H
 have H : (spec_BridgeOk_J1 n x0) = some r := H
 unfold spec_BridgeOk_J1 at H
 refine rU tOk 2 kr ?_
 obtain ⟨r2,er2,H⟩ := bind_some H
 refine lV tOk [.rd,.rd,.rd] [] (spec_l1In n x0.Id 1 99 r2 er2) kr kr kr kr (.inl rfl) ?_
 refine lU tOk 1 kr ?_
 refine lT ⟨50,0,[sB 21 r2,sB 20 r2,sI 19 x0.Id,sA 18 1 11 0,sA 1 1 11 0],[(1,(CV.frzRow (Bridge.row x0)))]⟩ kr ?_
 cases h1 : r2
 ·have H := bifF h1 H
  refine uD tOk 29 4 0 kr kr ?_
  exact te (by obtain rfl := si H; exact fO [(false,[cB false])] kr rfl rfl)
 have H := bifT h1 H
 refine lU tOk 6 kr ?_
 refine lT ⟨50,0,[sB 27 (decide ((x0.Name.size : Int) ≤ 10)),sB 26 (decide ((x0.Name.size : Int) ≤ 10)),sB 25 (decide ((x0.Name.size : Int) ≤ 10)),sI 24 (x0.Name.size : Int),sC 23 (cS x0.Name),sA 22 1 11 1,sB 21 true,sB 20 true,sI 19 x0.Id,sA 18 1 11 0,sA 1 1 11 0],[(1,(CV.frzRow (Bridge.row x0)))]⟩ kr ?_
 cases h2 : (decide ((x0.Name.size : Int) ≤ 10))
 ·have H := bifF h2 H
  refine uD tOk 23 4 0 kr kr ?_
  exact te (by obtain rfl := si H; exact fO [(false,[cB false])] kr rfl rfl)
 have H := bifT h2 H
 refine lU tOk 2 kr ?_
 refine lL tOk 52 3 182 29 30 (some (9,true)) ⟨(.slot 29),[],0,false,8,(CV.frzEs (x0.Ports.map Pt.row))⟩ (x0.Ports).length _ kr kr kr kr kr (frz_len _ _) rfl ?_
 obtain ⟨r3,er3,H⟩ := bind_some H
 refine lV tOk [.rd,.rd,.rd] [] (spec_l1In n (x0.Ports.length : Int) 1 6 r3 er3) kr kr kr kr (.inl rfl) ?_
 refine lU tOk 2 kr ?_
 refine lT ⟨50,0,[sB 33 r3,sB 32 r3,sB 31 r3,sI 30 (x0.Ports.length : Int),sC 29 (cF 8 x0.Ports Pt.row),sA 28 1 11 2,sB 27 true,sB 26 true,sB 25 true,sI 24 (x0.Name.size : Int),sC 23 (cS x0.Name),sA 22 1 11 1,sB 21 true,sB 20 true,sI 19 x0.Id,sA 18 1 11 0,sA 1 1 11 0],[(1,(CV.frzRow (Bridge.row x0)))]⟩ kr ?_
 cases h3 : r3
 ·have H := bifF h3 H
  refine uD tOk 17 4 0 kr kr ?_
  exact te (by obtain rfl := si H; exact fO [(false,[cB false])] kr rfl rfl)
 have H := bifT h3 H
 refine lU tOk 2 kr ?_
 obtain ⟨r4,er4,H⟩ := bind_some H
 refine lV tOk [.rd] [] (spec_FdbOk n x0.F r4 er4) kr kr kr kr (.inl rfl) ?_
 refine lU tOk 2 kr ?_
 refine lT ⟨50,0,[sB 38 r4,sB 37 r4,sB 36 r4,sC 35 (cF 5 x0.F Fent.row),sA 34 1 11 3,sB 33 true,sB 32 true,sB 31 true,sI 30 (x0.Ports.length : Int),sC 29 (cF 8 x0.Ports Pt.row),sA 28 1 11 2,sB 27 true,sB 26 true,sB 25 true,sI 24 (x0.Name.size : Int),sC 23 (cS x0.Name),sA 22 1 11 1,sB 21 true,sB 20 true,sI 19 x0.Id,sA 18 1 11 0,sA 1 1 11 0],[(1,(CV.frzRow (Bridge.row x0)))]⟩ kr ?_
 cases h4 : r4
 ·have H := bifF h4 H
  refine uD tOk 12 4 0 kr kr ?_
  exact te (by obtain rfl := si H; exact fO [(false,[cB false])] kr rfl rfl)
 have H := bifT h4 H
 refine lU tOk 4 kr ?_
 refine lL tOk 52 3 182 42 43 (some (20,true)) ⟨(.slot 42),[],0,false,8,(CV.frzEs (x0.Ports.map Pt.row))⟩ (x0.Ports).length _ kr kr kr kr kr (frz_len _ _) rfl ?_
 obtain ⟨r5,er5,H⟩ := bind_some H
 refine lV tOk [.rd,.rd] [] (spec_VtabOk n x0.V (x0.Ports.length : Int) r5 er5) kr kr kr kr (.inl rfl) ?_
 refine lU tOk 2 kr ?_
 refine lT ⟨50,0,[sB 46 r5,sB 45 r5,sB 44 r5,sI 43 (x0.Ports.length : Int),sC 42 (cF 8 x0.Ports Pt.row),sA 41 1 11 2,sV 40 (((CV.frzRow (Bridge.row x0)).drop 4).take 2),sA 39 1 11 4,sB 38 true,sB 37 true,sB 36 true,sC 35 (cF 5 x0.F Fent.row),sA 34 1 11 3,sB 33 true,sB 32 true,sB 31 true,sI 30 (x0.Ports.length : Int),sC 29 (cF 8 x0.Ports Pt.row),sA 28 1 11 2,sB 27 true,sB 26 true,sB 25 true,sI 24 (x0.Name.size : Int),sC 23 (cS x0.Name),sA 22 1 11 1,sB 21 true,sB 20 true,sI 19 x0.Id,sA 18 1 11 0,sA 1 1 11 0],[(1,(CV.frzRow (Bridge.row x0)))]⟩ kr ?_
 cases h5 : r5
 ·have H := bifF h5 H
  refine uD tOk 4 4 0 kr kr ?_
  exact te (by obtain rfl := si H; exact fO [(false,[cB false])] kr rfl rfl)
 have H := bifT h5 H
 refine lU tOk 1 kr ?_
 obtain ⟨r6,er6,H⟩ := bind_some H
 refine lV tOk [.rd] [] (spec_l11Counts n x0 r6 er6) kr kr kr kr (.inl rfl) ?_
 refine uD tOk 2 4 0 kr kr ?_
 exact te (by obtain rfl := si H; exact fO [(false,[cB r6])] kr rfl rfl)
def spec_l13Used_J1 (n : Nat) (y3 : Int) : Option (Int) :=
  (some y3)
def spec_l13Used_J3 (n : Nat) (k : (Int × Int → Option ((Int) ⊕ (Int)))) (v5 : Link) (x1 : Int) (x2 : Int) (y1 : Int) (y6 : Int) : Option ((Int) ⊕ (Int)) :=
  (bif (v5.B == x1) then (bif (v5.Q == x2) then (k ((IntKind.wrap .i64 (y1 + 1)),(IntKind.wrap .i64 (y6 + 1)))) else (k ((IntKind.wrap .i64 (y1 + 1)),y6))) else (k ((IntKind.wrap .i64 (y1 + 1)),y6)))
def spec_l13Used_L2 (n : Nat) : Nat → Net → Int → Int → Int → Int → Option ((Int) ⊕ (Int))
  | 0,_,_,_,_,_ => none
  | mo4 + 1,x0,x1,x2,y1,y2 => (bif (decide (y1 < (x0.Links.length : Int))) then ((idx x0.Links y1).bind fun v5 => (bif (v5.A == x1) then (bif (v5.P == x2) then (spec_l13Used_J3 n (fun v => spec_l13Used_L2 n mo4 x0 x1 x2 v.1 v.2) v5 x1 x2 y1 (IntKind.wrap .i64 (y2 + 1))) else (spec_l13Used_J3 n (fun v => spec_l13Used_L2 n mo4 x0 x1 x2 v.1 v.2) v5 x1 x2 y1 y2)) else (spec_l13Used_J3 n (fun v => spec_l13Used_L2 n mo4 x0 x1 x2 v.1 v.2) v5 x1 x2 y1 y2))) else (some (Sum.inl y2)))
def spec_l13UsedF (n : Nat) (x0 : Net) (x1 : Int) (x2 : Int) : Option (Int) :=
  ((spec_l13Used_L2 n n x0 x1 x2 0 0).bind fun o => match o with | .inl y3 => (spec_l13Used_J1 n y3) | .inr r => some r)
noncomputable abbrev G233 (k : Nat) := Rg Tryz.f233 k
theorem spec_l13Used (n : Nat) (x0 : Net) (x1 : Int) (x2 : Int) (r : Int) (H : spec_l13UsedF n x0 x1 x2 = some r) : LCall Tryz.prog 233 [.val true (CV.frzRow (Net.row x0)),.val false [.lit (.int .i64 x1)],.val false [.lit (.int .i64 x2)]] [.val false [.lit (.int .i64 r)]] [] := by
 refine LCall.of_body tOk Tryz.func233 rfl (c := (.seq (G233 0) (.seq (G233 1) (.seq (.seq (G233 2) (.block 0 (.loop (.seq (.seq (G233 3) (.cond (.tmp 14) .skip (.exit 0))) (.seq (.block 1 (.seq (G233 5) (.seq (.seq (G233 6) (.cond (.tmp 31) (G233 7) .skip)) (.seq (G233 8) (.cond (.tmp 43) (G233 9) .skip))))) (G233 4)))))) (.seq (G233 10) .ret))))) kr (Nat.le_of_ble_eq_true kr) 0 (rs := [.tmp 6]) rfl [] .nil [(false,[.lit (.int .i64 r)])] [] [] fun cx => ?_
 show Tr _ _ _ ⟨47,0,[sV 0 (CV.frzRow (Net.row x0)),sI 1 x1,sI 2 x2],[]⟩ _
 unfold spec_l13UsedF at H
 refine tG tOk 2 14 8 kr kr ?_
 refine tG tOk 1 142 8 kr kr ?_
 refine tS ?_
 refine tG tOk 1 398 8 kr kr ?_
 obtain ⟨o4,eo4,Ho4⟩ := bind_some H
 clear H
 refine Tr.mid (ι := Int) (fun v => ⟨47,0,[sI 7 v],[]⟩) (fun v => spec_l13Used_J1 n v = some r) ?_ ?_
 ·refine tB ?_
  refine Tr.loop (ι := Nat × (Int × Int)) (fun v => ⟨47,0,[sI 8 v.2.1,sI 7 v.2.2,sA 3 3 3 0,sI 1 x1,sI 2 x2],[(3,(CV.frzRow (Net.row x0)))]⟩) (fun v => spec_l13Used_L2 n v.1 x0 x1 x2 v.2.1 v.2.2 = some o4) (fun v => v.1) (n,(0,0)) eo4 (St.sub_of [8,7,3,1,2] [3] kr) ?_
  rintro ⟨mo4,y1,y2⟩ H
  have H : spec_l13Used_L2 n mo4 x0 x1 x2 y1 y2 = some o4 := H
  obtain _ | mo4 := mo4
  ·cases (show (none : Option _) = some o4 from H)
  rw [spec_l13Used_L2] at H
  refine tS ?_
  refine rU tOk 3 kr ?_
  refine lL tOk 26 3 126 12 13 none ⟨(.slot 12),[],0,false,4,(CV.frzEs (x0.Links.map Link.row))⟩ (x0.Links).length _ kr kr kr kr kr (frz_len _ _) rfl ?_
  refine uD tOk 1 16782 8 kr kr ?_
  obtain ⟨h1,H⟩ | ⟨h1,H⟩ := bC H
  ·refine tF h1 kr ?_
   refine Tr.exit ?_
   refine And.intro (fun _ => ?_) (fun h => absurd rfl h)
   obtain rfl := si H
   have H := Ho4
   dsimp only at H
   exact jn y2 H (sB_ [7] [] kr)
  refine tT h1 kr ?_
  refine tK ?_
  refine tS ?_
  refine tB ?_
  refine rU tOk 3 kr ?_
  obtain ⟨v5,ev5,H⟩ := bind_some H
  refine lI tOk 26 0 18 19 20 none ⟨(.slot 18),[],0,false,4,(CV.frzEs (x0.Links.map Link.row))⟩ y1 (Link.row v5) _ kr kr kr kr rfl (idx_isF ev5) rfl ?_
  refine uD tOk 3 910 520 kr kr ?_
  refine tS ?_
  refine Tr.mid (ι := Int) (fun v => ⟨47,0,[sA 9 9 4 0,sI 8 y1,sI 7 v,sA 3 3 3 0,sI 1 x1,sI 2 x2],[(9,(Link.row v5)),(3,(CV.frzRow (Net.row x0)))]⟩) (fun v => spec_l13Used_J3 n (fun v => spec_l13Used_L2 n mo4 x0 x1 x2 v.1 v.2) v5 x1 x2 y1 v = some o4) ?_ ?_
  ·refine rU tOk 5 kr ?_
   refine lT ⟨47,0,[sB 26 (v5.A == x1),sB 25 (v5.A == x1),sI 24 x1,sI 23 v5.A,sA 22 9 4 0,sA 9 9 4 0,sI 8 y1,sI 7 y2,sA 3 3 3 0,sI 1 x1,sI 2 x2],[(9,(Link.row v5)),(3,(CV.frzRow (Net.row x0)))]⟩ kr ?_
   cases h4 : (v5.A == x1)
   ·have H := bifF h4 H
    refine uD tOk 5 2147484558 520 kr kr ?_
    refine tf kr ?_
    refine tK ?_
    exact jn y2 H (sB_ [9,8,7,3,1,2] [9,3] kr)
   have H := bifT h4 H
   refine uD tOk 5 2147484558 520 kr kr ?_
   obtain ⟨h5,H⟩ | ⟨h5,H⟩ := bC H
   ·refine tF h5 kr ?_
    refine tK ?_
    exact jn y2 H (sB_ [9,8,7,3,1,2] [9,3] kr)
   refine tT h5 kr ?_
   refine tE tOk 3 910 520 kr kr ?_
   exact jn (IntKind.wrap .i64 (y2 + 1)) H (sB_ [9,8,7,3,1,2] [9,3] kr)
  rintro y6 H
  have H : (spec_l13Used_J3 n (fun v => spec_l13Used_L2 n mo4 x0 x1 x2 v.1 v.2) v5 x1 x2 y1 y6) = some o4 := H
  unfold spec_l13Used_J3 at H
  refine rU tOk 5 kr ?_
  refine lT ⟨47,0,[sB 38 (v5.B == x1),sB 37 (v5.B == x1),sI 36 x1,sI 35 v5.B,sA 34 9 4 2,sA 9 9 4 0,sI 8 y1,sI 7 y6,sA 3 3 3 0,sI 1 x1,sI 2 x2],[(9,(Link.row v5)),(3,(CV.frzRow (Net.row x0)))]⟩ kr ?_
  cases h2 : (v5.B == x1)
  ·have H := bifF h2 H
   refine uD tOk 5 8796093022606 8 kr kr ?_
   refine tf kr ?_
   refine tK ?_
   refine tE tOk 3 398 8 kr kr ?_
   exact jn (mo4,((IntKind.wrap .i64 (y1 + 1)),y6)) H (sM mo4 [8,7,3,1,2] [3] kr)
  have H := bifT h2 H
  refine uD tOk 5 8796093022606 8 kr kr ?_
  obtain ⟨h3,H⟩ | ⟨h3,H⟩ := bC H
  ·refine tF h3 kr ?_
   refine tK ?_
   refine tE tOk 3 398 8 kr kr ?_
   exact jn (mo4,((IntKind.wrap .i64 (y1 + 1)),y6)) H (sM mo4 [8,7,3,1,2] [3] kr)
  refine tT h3 kr ?_
  refine tE tOk 3 398 8 kr kr ?_
  refine tE tOk 3 398 8 kr kr ?_
  exact jn (mo4,((IntKind.wrap .i64 (y1 + 1)),(IntKind.wrap .i64 (y6 + 1)))) H (sM mo4 [8,7,3,1,2] [3] kr)
 rintro y3 H
 have H : (spec_l13Used_J1 n y3) = some r := H
 unfold spec_l13Used_J1 at H
 refine tG tOk 2 64 0 kr kr ?_
 exact te (by obtain rfl := si H; exact fO [(false,[cI y3])] kr rfl rfl)
def spec_l13Bridges_J1 (n : Nat) (x0 : Net) : Option (Bool) :=
  ((spec_l1InF n (x0.Bridges.length : Int) 1 6).bind fun r2 => (some r2))
def spec_l13Bridges_J4 (n : Nat) (k : (Int → Option ((Unit) ⊕ (Bool)))) (y1 : Int) : Option ((Unit) ⊕ (Bool)) :=
  (k (IntKind.wrap .i64 (y1 + 1)))
def spec_l13Bridges_L5 (n : Nat) : Nat → Net → Int → Int → Option ((Unit) ⊕ (Bool))
  | 0,_,_,_ => none
  | mo8 + 1,x0,y1,y7 => ((idx x0.Bridges y1).bind fun v9 => (bif (decide (y7 < (v9.Ports.length : Int))) then ((idx x0.Bridges y1).bind fun v10 => ((idx v10.Ports y7).bind fun v11 => (bif v11.Has then ((spec_l13UsedF n x0 y1 y7).bind fun r12 => (bif (r12 == 0) then (some (Sum.inr false)) else (spec_l13Bridges_L5 n mo8 x0 y1 (IntKind.wrap .i64 (y7 + 1))))) else (spec_l13Bridges_L5 n mo8 x0 y1 (IntKind.wrap .i64 (y7 + 1)))))) else (some (Sum.inl ()))))
def spec_l13Bridges_J3 (n : Nat) (k : (Int → Option ((Unit) ⊕ (Bool)))) (x0 : Net) (y1 : Int) : Option ((Unit) ⊕ (Bool)) :=
  ((spec_l13Bridges_L5 n n x0 y1 0).bind fun o => match o with | .inl _ => (spec_l13Bridges_J4 n k y1) | .inr r => some (Sum.inr r))
def spec_l13Bridges_L6 (n : Nat) : Nat → Net → Int → Int → Option ((Unit) ⊕ (Bool))
  | 0,_,_,_ => none
  | mo13 + 1,x0,y1,y6 => (bif (decide (y6 < y1)) then ((idx x0.Bridges y6).bind fun v14 => ((idx x0.Bridges y1).bind fun v15 => (bif (v14.Id == v15.Id) then (some (Sum.inr false)) else (spec_l13Bridges_L6 n mo13 x0 y1 (IntKind.wrap .i64 (y6 + 1)))))) else (some (Sum.inl ())))
def spec_l13Bridges_L2 (n : Nat) : Nat → Net → Int → Option ((Unit) ⊕ (Bool))
  | 0,_,_ => none
  | mo3 + 1,x0,y1 => (bif (decide (y1 < (x0.Bridges.length : Int))) then ((idx x0.Bridges y1).bind fun v4 => ((spec_BridgeOkF n v4).bind fun r5 => (bif (!r5) then (some (Sum.inr false)) else ((spec_l13Bridges_L6 n n x0 y1 0).bind fun o => match o with | .inl _ => (spec_l13Bridges_J3 n (fun v => spec_l13Bridges_L2 n mo3 x0 v) x0 y1) | .inr r => some (Sum.inr r))))) else (some (Sum.inl ())))
def spec_l13BridgesF (n : Nat) (x0 : Net) : Option (Bool) :=
  ((spec_l13Bridges_L2 n n x0 0).bind fun o => match o with | .inl _ => (spec_l13Bridges_J1 n x0) | .inr r => some r)
noncomputable abbrev G175 (k : Nat) := Rg Tryz.f175 k
noncomputable abbrev D175 (k : Nat) := Rd Tryz.f175 k
theorem spec_l13Bridges (n : Nat) (x0 : Net) (r : Bool) (H : spec_l13BridgesF n x0 = some r) : LCall Tryz.prog 175 [.val true (CV.frzRow (Net.row x0))] [.val false [.lit (.bool r)]] [] := by
 refine LCall.of_body tOk Tryz.func175 rfl (c := (.seq (G175 0) (.seq (.seq (G175 1) (.block 0 (.loop (.seq (.seq (G175 2) (.cond (.tmp 10) .skip (.exit 0))) (.seq (.block 1 (.seq (.seq (G175 4) (.cond (.tmp 19) (.seq (G175 5) .ret) .skip)) (.seq (.seq (G175 6) (.block 2 (.loop (.seq (.seq (G175 7) (.cond (.tmp 22) .skip (.exit 2))) (.seq (.block 3 (.seq (D175 9) (.cond (.tmp 37) (.seq (G175 10) .ret) .skip))) (G175 8)))))) (.seq (G175 11) (.block 4 (.loop (.seq (.seq (G175 12) (.cond (.tmp 46) .skip (.exit 4))) (.seq (.block 5 (.seq (G175 14) (.cond (.tmp 65) (.seq (G175 15) .ret) .skip))) (G175 13))))))))) (G175 3)))))) (.seq (G175 16) .ret)))) kr (Nat.le_of_ble_eq_true kr) 0 (rs := [.tmp 2]) rfl [] .nil [(false,[.lit (.bool r)])] [] [] fun cx => ?_
 show Tr _ _ _ ⟨70,0,[sV 0 (CV.frzRow (Net.row x0))],[]⟩ _
 unfold spec_l13BridgesF at H
 refine tG tOk 2 2 2 kr kr ?_
 refine tS ?_
 refine tG tOk 1 10 2 kr kr ?_
 obtain ⟨o3,eo3,Ho3⟩ := bind_some H
 clear H
 refine Tr.mid (ι := Unit) (fun v => ⟨70,0,[sA 1 1 3 0],[(1,(CV.frzRow (Net.row x0)))]⟩) (fun v => spec_l13Bridges_J1 n x0 = some r) ?_ ?_
 ·refine tB ?_
  refine Tr.loop (ι := Nat × (Int)) (fun v => ⟨70,0,[sI 3 v.2,sA 1 1 3 0],[(1,(CV.frzRow (Net.row x0)))]⟩) (fun v => spec_l13Bridges_L2 n v.1 x0 v.2 = some o3) (fun v => v.1) (n,0) eo3 (St.sub_of [3,1] [1] kr) ?_
  rintro ⟨mo3,y1⟩ H
  have H : spec_l13Bridges_L2 n mo3 x0 y1 = some o3 := H
  obtain _ | mo3 := mo3
  ·cases (show (none : Option _) = some o3 from H)
  rw [spec_l13Bridges_L2] at H
  refine tS ?_
  refine rU tOk 3 kr ?_
  refine lL tOk 25 3 58 8 9 none ⟨(.slot 8),[],0,false,11,(CV.frzEs (x0.Bridges.map Bridge.row))⟩ (x0.Bridges).length _ kr kr kr kr kr (frz_len _ _) rfl ?_
  refine uD tOk 1 1034 2 kr kr ?_
  obtain ⟨h1,H⟩ | ⟨h1,H⟩ := bC H
  ·refine tF h1 kr ?_
   refine Tr.exit ?_
   refine And.intro (fun _ => ?_) (fun h => absurd rfl h)
   obtain rfl := si H
   have H := Ho3
   dsimp only at H
   exact jn () H (sB_ [1] [1] kr)
  refine tT h1 kr ?_
  refine tK ?_
  refine tS ?_
  refine tB ?_
  refine tS ?_
  refine rU tOk 3 kr ?_
  obtain ⟨v4,ev4,H⟩ := bind_some H
  refine lI tOk 25 0 14 15 16 none ⟨(.slot 14),[],0,false,11,(CV.frzEs (x0.Bridges.map Bridge.row))⟩ y1 (CV.frzRow (Bridge.row v4)) _ kr kr kr kr rfl (idx_isF ev4) rfl ?_
  refine lU tOk 1 kr ?_
  obtain ⟨r5,er5,H⟩ := bind_some H
  refine lV tOk [.rd] [] (spec_BridgeOk n v4 r5 er5) kr kr kr kr (.inl rfl) ?_
  refine uD tOk 1 524298 2 kr kr ?_
  obtain ⟨h2,H⟩ | ⟨h2,H⟩ := bC H
  ·refine tF h2 kr ?_
   refine tK ?_
   refine tS ?_
   refine tG tOk 1 26 2 kr kr ?_
   obtain ⟨o13,eo13,Ho13⟩ := bind_some H
   clear H
   refine Tr.mid (ι := Unit) (fun v => ⟨70,0,[sI 3 y1,sA 1 1 3 0],[(1,(CV.frzRow (Net.row x0)))]⟩) (fun v => spec_l13Bridges_J3 n (fun v => spec_l13Bridges_L2 n mo3 x0 v) x0 y1 = some o3) ?_ ?_
   ·refine tB ?_
    refine Tr.loop (ι := Nat × (Int)) (fun v => ⟨70,0,[sI 4 v.2,sI 3 y1,sA 1 1 3 0],[(1,(CV.frzRow (Net.row x0)))]⟩) (fun v => spec_l13Bridges_L6 n v.1 x0 y1 v.2 = some o13) (fun v => v.1) (n,0) eo13 (St.sub_of [4,3,1] [1] kr) ?_
    rintro ⟨mo13,y6⟩ H
    have H : spec_l13Bridges_L6 n mo13 x0 y1 y6 = some o13 := H
    obtain _ | mo13 := mo13
    ·cases (show (none : Option _) = some o13 from H)
    rw [spec_l13Bridges_L6] at H
    refine tS ?_
    refine tG tOk 3 4194330 2 kr kr ?_
    obtain ⟨h6,H⟩ | ⟨h6,H⟩ := bC H
    ·refine tF h6 kr ?_
     refine Tr.exit ?_
     refine And.intro (fun _ => ?_) (fun h => absurd rfl h)
     obtain rfl := si H
     have H := Ho13
     dsimp only at H
     exact jn () H (sB_ [3,1] [1] kr)
    refine tT h6 kr ?_
    refine tK ?_
    refine tS ?_
    refine tB ?_
    obtain ⟨v14,ev14,H⟩ := bind_some H
    obtain ⟨v15,ev15,H⟩ := bind_some H
    refine Tr.draws mixed 13 kr ⟨70,0,[sB 37 (v14.Id == v15.Id),sI 4 y6,sI 3 y1,sA 1 1 3 0],[(1,(CV.frzRow (Net.row x0)))]⟩ (fun cx => ?_) ?_
    ·refine aU tOk [(0,[]),(1,[]),(2,[])] 10 [⟨[],25,25,26⟩] [2,1,0] rfl kr (fun cx => ?_)
     refine aI tOk 3 25 0 26 27 28 none ⟨(.box 1),[(0,0)],0,false,11,(CV.frzEs (x0.Bridges.map Bridge.row))⟩ y6 (CV.frzRow (Bridge.row v14)) _ kr kr kr kr kr kr rfl (idx_isF ev14) rfl (fun cx => ?_)
     refine aU tOk [(4,[]),(5,[]),(6,[]),(7,[]),(8,[])] 4 [⟨[],25,31,32⟩,⟨[],25,25,26⟩] [8,7,6,5,4,3,2,1,0] rfl kr (fun cx => ?_)
     refine aI tOk 9 25 0 32 33 34 none ⟨(.box 1),[(0,0)],0,false,11,(CV.frzEs (x0.Bridges.map Bridge.row))⟩ y1 (CV.frzRow (Bridge.row v15)) _ kr kr kr kr kr kr rfl (idx_isF ev15) rfl (fun cx => ?_)
     refine aU tOk [(10,[]),(11,[]),(12,[])] 0 [⟨[],25,31,32⟩,⟨[],25,25,26⟩] [12,11,10,9,8,7,6,5,4,3,2,1,0] rfl kr (fun cx => ?_)
     exact AT.done [37,4,3,1] [1] _ kr kr rfl
    refine tO ⟨70,0,[sB 37 (v14.Id == v15.Id),sI 4 y6,sI 3 y1,sA 1 1 3 0],[(1,(CV.frzRow (Net.row x0)))]⟩ kr ?_
    cases h7 : (v14.Id == v15.Id)
    ·have H := bifF h7 H
     refine tf kr ?_
     refine tK ?_
     refine tE tOk 3 26 2 kr kr ?_
     exact jn (mo13,(IntKind.wrap .i64 (y6 + 1))) H (sM mo13 [4,3,1] [1] kr)
    have H := bifT h7 H
    refine tt kr ?_
    refine tG tOk 1 4 0 kr kr ?_
    refine te ?_
    obtain rfl := si H
    have H := Ho13
    dsimp only at H
    obtain rfl := si H
    have H := Ho3
    dsimp only at H
    obtain rfl := si H
    exact fO [(false,[cB false])] kr rfl rfl
   rintro _ H
   have H : (spec_l13Bridges_J3 n (fun v => spec_l13Bridges_L2 n mo3 x0 v) x0 y1) = some o3 := H
   unfold spec_l13Bridges_J3 at H
   refine tG tOk 1 42 2 kr kr ?_
   obtain ⟨o8,eo8,Ho8⟩ := bind_some H
   clear H
   refine Tr.mid (ι := Unit) (fun v => ⟨70,0,[sI 3 y1,sA 1 1 3 0],[(1,(CV.frzRow (Net.row x0)))]⟩) (fun v => spec_l13Bridges_J4 n (fun v => spec_l13Bridges_L2 n mo3 x0 v) y1 = some o3) ?_ ?_
   ·refine tB ?_
    refine Tr.loop (ι := Nat × (Int)) (fun v => ⟨70,0,[sI 5 v.2,sI 3 y1,sA 1 1 3 0],[(1,(CV.frzRow (Net.row x0)))]⟩) (fun v => spec_l13Bridges_L5 n v.1 x0 y1 v.2 = some o8) (fun v => v.1) (n,0) eo8 (St.sub_of [5,3,1] [1] kr) ?_
    rintro ⟨mo8,y7⟩ H
    have H : spec_l13Bridges_L5 n mo8 x0 y1 y7 = some o8 := H
    obtain _ | mo8 := mo8
    ·cases (show (none : Option _) = some o8 from H)
    rw [spec_l13Bridges_L5] at H
    refine tS ?_
    refine rU tOk 4 kr ?_
    obtain ⟨v9,ev9,H⟩ := bind_some H
    refine lI tOk 25 0 40 41 42 none ⟨(.slot 40),[],0,false,11,(CV.frzEs (x0.Bridges.map Bridge.row))⟩ y1 (CV.frzRow (Bridge.row v9)) _ kr kr kr kr rfl (idx_isF ev9) rfl ?_
    refine lU tOk 2 kr ?_
    refine lL tOk 52 3 182 44 45 none ⟨(.slot 44),[],0,false,8,(CV.frzEs (v9.Ports.map Pt.row))⟩ (v9.Ports).length _ kr kr kr kr kr (frz_len _ _) rfl ?_
    refine uD tOk 1 70368744177706 2 kr kr ?_
    obtain ⟨h3,H⟩ | ⟨h3,H⟩ := bC H
    ·refine tF h3 kr ?_
     refine Tr.exit ?_
     refine And.intro (fun _ => ?_) (fun h => absurd rfl h)
     obtain rfl := si H
     have H := Ho8
     dsimp only at H
     exact jn () H (sB_ [3,1] [1] kr)
    refine tT h3 kr ?_
    refine tK ?_
    refine tS ?_
    refine tB ?_
    refine rU tOk 3 kr ?_
    obtain ⟨v10,ev10,H⟩ := bind_some H
    refine lI tOk 25 0 50 51 52 none ⟨(.slot 50),[],0,false,11,(CV.frzEs (x0.Bridges.map Bridge.row))⟩ y1 (CV.frzRow (Bridge.row v10)) _ kr kr kr kr rfl (idx_isF ev10) rfl ?_
    refine lU tOk 3 kr ?_
    obtain ⟨v11,ev11,H⟩ := bind_some H
    refine lI tOk 52 0 54 55 56 none ⟨(.slot 54),[],0,false,8,(CV.frzEs (v10.Ports.map Pt.row))⟩ y7 (Pt.row v11) _ kr kr kr kr rfl (idx_isF ev11) rfl ?_
    refine lU tOk 3 kr ?_
    refine lT ⟨70,0,[sB 59 v11.Has,sB 58 v11.Has,(57,.fad (((Pt.row v11).drop 2))),(56,.fad ((Pt.row v11))),sI 55 y7,sC 54 (cF 8 v10.Ports Pt.row),(53,.fad (((CV.frzRow (Bridge.row v10)).drop 2))),(52,.fad ((CV.frzRow (Bridge.row v10)))),sI 51 y1,sC 50 (cF 11 x0.Bridges Bridge.row),sA 49 1 3 0,sB 46 (decide (y7 < (v9.Ports.length : Int))),sI 5 y7,sI 3 y1,sA 1 1 3 0],[(1,(CV.frzRow (Net.row x0)))]⟩ kr ?_
    cases h4 : v11.Has
    ·have H := bifF h4 H
     refine uD tOk 6 0x2000000000000002a 2 kr kr ?_
     refine tf kr ?_
     refine tK ?_
     refine tE tOk 3 42 2 kr kr ?_
     exact jn (mo8,(IntKind.wrap .i64 (y7 + 1))) H (sM mo8 [5,3,1] [1] kr)
    have H := bifT h4 H
    refine lU tOk 3 kr ?_
    obtain ⟨r12,er12,H⟩ := bind_some H
    refine lV tOk [.rd,.rd,.rd] [] (spec_l13Used n x0 y1 y7 r12 er12) kr kr kr kr (.inl rfl) ?_
    refine uD tOk 2 0x2000000000000002a 2 kr kr ?_
    obtain ⟨h5,H⟩ | ⟨h5,H⟩ := bC H
    ·refine tF h5 kr ?_
     refine tK ?_
     refine tE tOk 3 42 2 kr kr ?_
     exact jn (mo8,(IntKind.wrap .i64 (y7 + 1))) H (sM mo8 [5,3,1] [1] kr)
    refine tT h5 kr ?_
    refine tG tOk 1 4 0 kr kr ?_
    refine te ?_
    obtain rfl := si H
    have H := Ho8
    dsimp only at H
    obtain rfl := si H
    have H := Ho3
    dsimp only at H
    obtain rfl := si H
    exact fO [(false,[cB false])] kr rfl rfl
   rintro _ H
   have H : (spec_l13Bridges_J4 n (fun v => spec_l13Bridges_L2 n mo3 x0 v) y1) = some o3 := H
   unfold spec_l13Bridges_J4 at H
   refine tE tOk 3 10 2 kr kr ?_
   exact jn (mo3,(IntKind.wrap .i64 (y1 + 1))) H (sM mo3 [3,1] [1] kr)
  refine tT h2 kr ?_
  refine tG tOk 1 4 0 kr kr ?_
  refine te ?_
  obtain rfl := si H
  have H := Ho3
  dsimp only at H
  obtain rfl := si H
  exact fO [(false,[cB false])] kr rfl rfl
 rintro _ H
 have H : (spec_l13Bridges_J1 n x0) = some r := H
 unfold spec_l13Bridges_J1 at H
 refine rU tOk 2 kr ?_
 refine lL tOk 25 3 58 67 68 none ⟨(.slot 67),[],0,false,11,(CV.frzEs (x0.Bridges.map Bridge.row))⟩ (x0.Bridges).length _ kr kr kr kr kr (frz_len _ _) rfl ?_
 obtain ⟨r2,er2,H⟩ := bind_some H
 refine lV tOk [.rd,.rd,.rd] [] (spec_l1In n (x0.Bridges.length : Int) 1 6 r2 er2) kr kr kr kr (.inl rfl) ?_
 refine uD tOk 1 4 0 kr kr ?_
 exact te (by obtain rfl := si H; exact fO [(false,[cB r2])] kr rfl rfl)
def spec_l13EndF (n : Nat) (x0 : Net) (x1 : Int) (x2 : Int) : Option (Bool) :=
  ((spec_l1InF n x1 0 (IntKind.wrap .i64 ((x0.Bridges.length : Int) - 1))).bind fun r1 => (bif r1 then ((idx x0.Bridges x1).bind fun v2 => ((spec_l1InF n x2 0 (IntKind.wrap .i64 ((v2.Ports.length : Int) - 1))).bind fun r3 => (bif r3 then ((spec_l13UsedF n x0 x1 x2).bind fun r4 => (some (r4 == 1))) else (some false)))) else (some false)))
noncomputable abbrev G176 (k : Nat) := Rg Tryz.f176 k
theorem spec_l13End (n : Nat) (x0 : Net) (x1 : Int) (x2 : Int) (r : Bool) (H : spec_l13EndF n x0 x1 x2 = some r) : LCall Tryz.prog 176 [.val true (CV.frzRow (Net.row x0)),.val false [.lit (.int .i64 x1)],.val false [.lit (.int .i64 x2)]] [.val false [.lit (.bool r)]] [] := by
 refine LCall.of_body tOk Tryz.func176 rfl (c := (.seq (G176 0) (.seq (G176 1) .ret))) kr (Nat.le_of_ble_eq_true kr) 0 (rs := [.tmp 6]) rfl [] .nil [(false,[.lit (.bool r)])] [] [] fun cx => ?_
 show Tr _ _ _ ⟨32,0,[sV 0 (CV.frzRow (Net.row x0)),sI 1 x1,sI 2 x2],[]⟩ _
 unfold spec_l13EndF at H
 refine tG tOk 2 14 8 kr kr ?_
 refine rU tOk 3 kr ?_
 refine lL tOk 25 3 58 9 10 none ⟨(.slot 9),[],0,false,11,(CV.frzEs (x0.Bridges.map Bridge.row))⟩ (x0.Bridges).length _ kr kr kr kr kr (frz_len _ _) rfl ?_
 refine lU tOk 1 kr ?_
 obtain ⟨r1,er1,H⟩ := bind_some H
 refine lV tOk [.rd,.rd,.rd] [] (spec_l1In n x1 0 (IntKind.wrap .i64 ((x0.Bridges.length : Int) - 1)) r1 er1) kr kr kr kr (.inl rfl) ?_
 refine lU tOk 1 kr ?_
 refine lT ⟨32,0,[sB 13 r1,sB 12 r1,sI 11 (IntKind.wrap .i64 ((x0.Bridges.length : Int) - 1)),sI 10 (x0.Bridges.length : Int),sC 9 (cF 11 x0.Bridges Bridge.row),sA 8 3 3 0,sI 7 x1,sA 3 3 3 0,sI 1 x1,sI 2 x2],[(3,(CV.frzRow (Net.row x0)))]⟩ kr ?_
 cases h1 : r1
 ·have H := bifF h1 H
  refine uD tOk 19 64 0 kr kr ?_
  exact te (by obtain rfl := si H; exact fO [(false,[cB false])] kr rfl rfl)
 have H := bifT h1 H
 refine lU tOk 4 kr ?_
 obtain ⟨v2,ev2,H⟩ := bind_some H
 refine lI tOk 25 0 16 17 18 (some (6,true)) ⟨(.slot 16),[],0,false,11,(CV.frzEs (x0.Bridges.map Bridge.row))⟩ x1 (CV.frzRow (Bridge.row v2)) _ kr kr kr kr rfl (idx_isF ev2) rfl ?_
 refine lU tOk 2 kr ?_
 refine lL tOk 52 3 182 20 21 (some (6,true)) ⟨(.slot 20),[],0,false,8,(CV.frzEs (v2.Ports.map Pt.row))⟩ (v2.Ports).length _ kr kr kr kr kr (frz_len _ _) rfl ?_
 refine lU tOk 1 kr ?_
 obtain ⟨r3,er3,H⟩ := bind_some H
 refine lV tOk [.rd,.rd,.rd] [] (spec_l1In n x2 0 (IntKind.wrap .i64 ((v2.Ports.length : Int) - 1)) r3 er3) kr kr kr kr (.inl rfl) ?_
 refine lU tOk 2 kr ?_
 refine lT ⟨32,0,[sB 25 r3,sB 24 r3,sB 23 r3,sI 22 (IntKind.wrap .i64 ((v2.Ports.length : Int) - 1)),sI 21 (v2.Ports.length : Int),sC 20 (cF 8 v2.Ports Pt.row),(19,.fad (((CV.frzRow (Bridge.row v2)).drop 2))),(18,.fad ((CV.frzRow (Bridge.row v2)))),sI 17 x1,sC 16 (cF 11 x0.Bridges Bridge.row),sA 15 3 3 0,sI 14 x2,sB 13 true,sB 12 true,sI 11 (IntKind.wrap .i64 ((x0.Bridges.length : Int) - 1)),sI 10 (x0.Bridges.length : Int),sC 9 (cF 11 x0.Bridges Bridge.row),sA 8 3 3 0,sI 7 x1,sA 3 3 3 0,sI 1 x1,sI 2 x2],[(3,(CV.frzRow (Net.row x0)))]⟩ kr ?_
 cases h2 : r3
 ·have H := bifF h2 H
  refine uD tOk 7 64 0 kr kr ?_
  exact te (by obtain rfl := si H; exact fO [(false,[cB false])] kr rfl rfl)
 have H := bifT h2 H
 refine lU tOk 3 kr ?_
 obtain ⟨r4,er4,H⟩ := bind_some H
 refine lV tOk [.rd,.rd,.rd] [] (spec_l13Used n x0 x1 x2 r4 er4) kr kr kr kr (.inl rfl) ?_
 refine uD tOk 3 64 0 kr kr ?_
 exact te (by obtain rfl := si H; exact fO [(false,[cB (r4 == 1)])] kr rfl rfl)
def spec_NetOk_J2 (n : Nat) : Option (Bool) :=
  (some true)
def spec_NetOk_L3 (n : Nat) : Nat → Net → Int → Option ((Unit) ⊕ (Bool))
  | 0,_,_ => none
  | mo4 + 1,x0,y3 => (bif (decide (y3 < (x0.Said.length : Int))) then ((idx x0.Said y3).bind fun v5 => ((spec_l1InF n v5.Link 0 (IntKind.wrap .i64 ((x0.Links.length : Int) - 1))).bind fun r6 => (bif (!r6) then (some (Sum.inr false)) else ((idx x0.Said y3).bind fun v7 => ((spec_VecOkF n v7.V).bind fun r8 => (bif (!r8) then (some (Sum.inr false)) else (spec_NetOk_L3 n mo4 x0 (IntKind.wrap .i64 (y3 + 1))))))))) else (some (Sum.inl ())))
def spec_NetOk_J1 (n : Nat) (x0 : Net) : Option (Bool) :=
  ((spec_NetOk_L3 n n x0 0).bind fun o => match o with | .inl _ => (spec_NetOk_J2 n) | .inr r => some r)
def spec_NetOk_L4 (n : Nat) : Nat → Net → Int → Option ((Unit) ⊕ (Bool))
  | 0,_,_ => none
  | mo9 + 1,x0,y2 => (bif (decide (y2 < (x0.Links.length : Int))) then ((idx x0.Links y2).bind fun v10 => (bif (v10.A == v10.B) then (some (Sum.inr false)) else ((spec_l13EndF n x0 v10.A v10.P).bind fun r11 => (bif (!r11) then (some (Sum.inr false)) else ((spec_l13EndF n x0 v10.B v10.Q).bind fun r12 => (bif (!r12) then (some (Sum.inr false)) else ((idx x0.Bridges v10.A).bind fun v13 => ((idx v13.Ports v10.P).bind fun v14 => ((idx x0.Bridges v10.B).bind fun v15 => ((idx v15.Ports v10.Q).bind fun v16 => (bif (!(v14.Up == v16.Up)) then (some (Sum.inr false)) else (spec_NetOk_L4 n mo9 x0 (IntKind.wrap .i64 (y2 + 1)))))))))))))) else (some (Sum.inl ())))
def spec_NetOkF (n : Nat) (x0 : Net) : Option (Bool) :=
  ((spec_l13BridgesF n x0).bind fun r1 => (bif (!r1) then (some false) else (bif (decide ((x0.Links.length : Int) > 9)) then (some false) else (bif (decide ((x0.Said.length : Int) > 40)) then (some false) else ((spec_NetOk_L4 n n x0 0).bind fun o => match o with | .inl _ => (spec_NetOk_J1 n x0) | .inr r => some r)))))
noncomputable abbrev G75 (k : Nat) := Rg Tryz.f75 k
noncomputable abbrev D75 (k : Nat) := Rd Tryz.f75 k
theorem spec_NetOk (n : Nat) (x0 : Net) (r : Bool) (H : spec_NetOkF n x0 = some r) : LCall Tryz.prog 75 [.val true (CV.frzRow (Net.row x0))] [.val false [.lit (.bool r)]] [] := by
 refine LCall.of_body tOk Tryz.func75 rfl (c := (.seq (G75 0) (.seq (.seq (G75 1) (.cond (.tmp 20) (.seq (G75 2) .ret) .skip)) (.seq (.seq (G75 3) (.block 0 (.loop (.seq (.seq (G75 4) (.cond (.tmp 25) .skip (.exit 0))) (.seq (.block 1 (.seq (G75 6) (.seq (D75 7) (.cond (.tmp 82) (.seq (G75 8) .ret) .skip)))) (G75 5)))))) (.seq (.seq (G75 9) (.block 2 (.loop (.seq (.seq (G75 10) (.cond (.tmp 87) .skip (.exit 2))) (.seq (.block 3 (.seq (D75 12) (.cond (.tmp 111) (.seq (G75 13) .ret) .skip))) (G75 11)))))) (.seq (G75 14) .ret)))))) kr (Nat.le_of_ble_eq_true kr) 0 (rs := [.tmp 2]) rfl [] .nil [(false,[.lit (.bool r)])] [] [] fun cx => ?_
 show Tr _ _ _ ⟨112,0,[sV 0 (CV.frzRow (Net.row x0))],[]⟩ _
 unfold spec_NetOkF at H
 refine tG tOk 2 2 2 kr kr ?_
 refine tS ?_
 refine rU tOk 1 kr ?_
 obtain ⟨r1,er1,H⟩ := bind_some H
 refine lV tOk [.rd] [] (spec_l13Bridges n x0 r1 er1) kr kr kr kr (.inl rfl) ?_
 refine lU tOk 2 kr ?_
 refine lT ⟨112,0,[sB 9 (!r1),sB 8 (!r1),sB 7 r1,sV 6 (CV.frzRow (Net.row x0)),sA 1 1 3 0],[(1,(CV.frzRow (Net.row x0)))]⟩ kr ?_
 cases h1 : (!r1)
 ·have H := bifF h1 H
  refine lU tOk 2 kr ?_
  refine lL tOk 26 3 126 11 12 (some (3,false)) ⟨(.slot 11),[],0,false,4,(CV.frzEs (x0.Links.map Link.row))⟩ (x0.Links).length _ kr kr kr kr kr (frz_len _ _) rfl ?_
  refine lU tOk 3 kr ?_
  refine lT ⟨112,0,[sB 15 (decide ((x0.Links.length : Int) > 9)),sB 14 (decide ((x0.Links.length : Int) > 9)),sB 13 (decide ((x0.Links.length : Int) > 9)),sI 12 (x0.Links.length : Int),sC 11 (cF 4 x0.Links Link.row),sA 10 1 3 1,sB 9 false,sB 8 false,sB 7 r1,sV 6 (CV.frzRow (Net.row x0)),sA 1 1 3 0],[(1,(CV.frzRow (Net.row x0)))]⟩ kr ?_
  cases h2 : (decide ((x0.Links.length : Int) > 9))
  ·have H := bifF h2 H
   refine lU tOk 2 kr ?_
   refine lL tOk 27 3 195 17 18 (some (9,false)) ⟨(.slot 17),[],0,false,7,(CV.frzEs (x0.Said.map Say.row))⟩ (x0.Said).length _ kr kr kr kr kr (frz_len _ _) rfl ?_
   refine uD tOk 2 1048578 2 kr kr ?_
   obtain ⟨h3,H⟩ | ⟨h3,H⟩ := bC H
   ·refine tF h3 kr ?_
    refine tK ?_
    refine tS ?_
    refine tG tOk 1 10 2 kr kr ?_
    obtain ⟨o9,eo9,Ho9⟩ := bind_some H
    clear H
    refine Tr.mid (ι := Unit) (fun v => ⟨112,0,[sA 1 1 3 0],[(1,(CV.frzRow (Net.row x0)))]⟩) (fun v => spec_NetOk_J1 n x0 = some r) ?_ ?_
    ·refine tB ?_
     refine Tr.loop (ι := Nat × (Int)) (fun v => ⟨112,0,[sI 3 v.2,sA 1 1 3 0],[(1,(CV.frzRow (Net.row x0)))]⟩) (fun v => spec_NetOk_L4 n v.1 x0 v.2 = some o9) (fun v => v.1) (n,0) eo9 (St.sub_of [3,1] [1] kr) ?_
     rintro ⟨mo9,y2⟩ H
     have H : spec_NetOk_L4 n mo9 x0 y2 = some o9 := H
     obtain _ | mo9 := mo9
     ·cases (show (none : Option _) = some o9 from H)
     rw [spec_NetOk_L4] at H
     refine tS ?_
     refine rU tOk 3 kr ?_
     refine lL tOk 26 3 126 23 24 none ⟨(.slot 23),[],0,false,4,(CV.frzEs (x0.Links.map Link.row))⟩ (x0.Links).length _ kr kr kr kr kr (frz_len _ _) rfl ?_
     refine uD tOk 1 33554442 2 kr kr ?_
     obtain ⟨h7,H⟩ | ⟨h7,H⟩ := bC H
     ·refine tF h7 kr ?_
      refine Tr.exit ?_
      refine And.intro (fun _ => ?_) (fun h => absurd rfl h)
      obtain rfl := si H
      have H := Ho9
      dsimp only at H
      exact jn () H (sB_ [1] [1] kr)
     refine tT h7 kr ?_
     refine tK ?_
     refine tS ?_
     refine tB ?_
     refine rU tOk 3 kr ?_
     obtain ⟨v10,ev10,H⟩ := bind_some H
     refine lI tOk 26 0 29 30 31 none ⟨(.slot 29),[],0,false,4,(CV.frzEs (x0.Links.map Link.row))⟩ y2 (Link.row v10) _ kr kr kr kr rfl (idx_isF ev10) rfl ?_
     refine uD tOk 3 26 18 kr kr ?_
     refine tO ⟨112,0,[sA 4 4 4 0,sI 3 y2,sA 1 1 3 0],[(4,(Link.row v10)),(1,(CV.frzRow (Net.row x0)))]⟩ kr ?_
     cases h8 : (v10.A == v10.B)
     ·have H := bifF h8 H
      obtain ⟨r11,er11,H⟩ := bind_some H
      refine tO ⟨112,0,[sA 4 4 4 0,sI 3 y2,sA 1 1 3 0],[(4,(Link.row v10)),(1,(CV.frzRow (Net.row x0)))]⟩ kr ?_
      cases h9 : (!r11)
      ·have H := bifF h9 H
       obtain ⟨r12,er12,H⟩ := bind_some H
       refine tO ⟨112,0,[sA 4 4 4 0,sI 3 y2,sA 1 1 3 0],[(4,(Link.row v10)),(1,(CV.frzRow (Net.row x0)))]⟩ kr ?_
       cases h10 : (!r12)
       ·have H := bifF h10 H
        obtain ⟨v13,ev13,H⟩ := bind_some H
        obtain ⟨v14,ev14,H⟩ := bind_some H
        obtain ⟨v15,ev15,H⟩ := bind_some H
        obtain ⟨v16,ev16,H⟩ := bind_some H
        refine Tr.draws mixed 50 kr ⟨112,0,[sB 82 (!(v14.Up == v16.Up)),sI 3 y2,sA 1 1 3 0],[(1,(CV.frzRow (Net.row x0)))]⟩ (fun cx => ?_) ?_
        ·refine aU tOk [(0,[]),(1,[11,20]),(2,[]),(3,[11,20]),(4,[]),(5,[])] 44 [⟨[11,20],3,35,36⟩,⟨[11,20],3,33,34⟩] [5,4,3,2,1,0] rfl kr (fun cx => ?_)
         refine aT ⟨112,0,[sB 38 (v10.A == v10.B),sB 37 (v10.A == v10.B),sI 36 v10.B,sA 35 4 4 2,sI 34 v10.A,sA 33 4 4 0,sA 4 4 4 0,sI 3 y2,sA 1 1 3 0],[(4,(Link.row v10)),(1,(CV.frzRow (Net.row x0)))]⟩ kr ?_
         rw [h8]
         refine aU tOk [(6,[11,20]),(7,[]),(8,[11,20]),(9,[]),(10,[11,20])] 39 [⟨[11,20],3,42,43⟩,⟨[11,20],3,40,41⟩,⟨[11,20],29,1,39⟩,⟨[11,20],3,35,36⟩,⟨[11,20],3,33,34⟩] [10,9,8,7,6,5,4,3,2,1,0] rfl kr (fun cx => ?_)
         refine AT.big1 tOk 11 kr kr ?_
         refine lV tOk [.rd,.rd,.rd] [] (spec_l13End n x0 v10.A v10.P r11 er11) kr kr kr kr (.inl rfl) ?_
         refine lF kr kr kr ?_
         refine aU tOk [(12,[]),(13,[]),(14,[])] 35 [⟨[11,20],3,42,43⟩,⟨[11,20],3,40,41⟩,⟨[11,20],29,1,39⟩,⟨[11,20],3,35,36⟩,⟨[11,20],3,33,34⟩] [14,13,12,11,10,9,8,7,6,5,4,3,2,1,0] rfl kr (fun cx => ?_)
         refine aT ⟨112,0,[sB 47 (!r11),sB 46 (!r11),sB 45 (!r11),sB 44 r11,sI 43 v10.P,sA 42 4 4 1,sI 41 v10.A,sA 40 4 4 0,sR 39 1 3 0 3 true,sB 38 false,sB 37 false,sI 36 v10.B,sA 35 4 4 2,sI 34 v10.A,sA 33 4 4 0,sA 4 4 4 0,sI 3 y2,sA 1 1 3 0],[(4,(Link.row v10)),(1,(CV.frzRow (Net.row x0)))]⟩ kr ?_
         rw [h9]
         refine aU tOk [(15,[20]),(16,[]),(17,[20]),(18,[]),(19,[20])] 30 [⟨[20],3,51,52⟩,⟨[20],3,49,50⟩,⟨[20],29,1,48⟩,⟨[11,20],3,42,43⟩,⟨[11,20],3,40,41⟩,⟨[11,20],29,1,39⟩,⟨[11,20],3,35,36⟩,⟨[11,20],3,33,34⟩] [19,18,17,16,15,14,13,12,11,10,9,8,7,6,5,4,3,2,1,0] rfl kr (fun cx => ?_)
         refine AT.big1 tOk 20 kr kr ?_
         refine lV tOk [.rd,.rd,.rd] [] (spec_l13End n x0 v10.B v10.Q r12 er12) kr kr kr kr (.inl rfl) ?_
         refine lF kr kr kr ?_
         refine aU tOk [(21,[]),(22,[]),(23,[])] 26 [⟨[20],3,51,52⟩,⟨[20],3,49,50⟩,⟨[20],29,1,48⟩,⟨[11,20],3,42,43⟩,⟨[11,20],3,40,41⟩,⟨[11,20],29,1,39⟩,⟨[11,20],3,35,36⟩,⟨[11,20],3,33,34⟩] [23,22,21,20,19,18,17,16,15,14,13,12,11,10,9,8,7,6,5,4,3,2,1,0] rfl kr (fun cx => ?_)
         refine aT ⟨112,0,[sB 56 (!r12),sB 55 (!r12),sB 54 (!r12),sB 53 r12,sI 52 v10.Q,sA 51 4 4 3,sI 50 v10.B,sA 49 4 4 2,sR 48 1 3 0 3 true,sB 47 false,sB 46 false,sB 45 false,sB 44 r11,sI 43 v10.P,sA 42 4 4 1,sI 41 v10.A,sA 40 4 4 0,sR 39 1 3 0 3 true,sB 38 false,sB 37 false,sI 36 v10.B,sA 35 4 4 2,sI 34 v10.A,sA 33 4 4 0,sA 4 4 4 0,sI 3 y2,sA 1 1 3 0],[(4,(Link.row v10)),(1,(CV.frzRow (Net.row x0)))]⟩ kr ?_
         rw [h10]
         refine aU tOk [(24,[]),(25,[]),(26,[]),(27,[])] 22 [⟨[],3,59,60⟩,⟨[],25,57,58⟩,⟨[20],3,51,52⟩,⟨[20],3,49,50⟩,⟨[20],29,1,48⟩,⟨[11,20],3,42,43⟩,⟨[11,20],3,40,41⟩,⟨[11,20],29,1,39⟩,⟨[11,20],3,35,36⟩,⟨[11,20],3,33,34⟩] [27,26,25,24,23,22,21,20,19,18,17,16,15,14,13,12,11,10,9,8,7,6,5,4,3,2,1,0] rfl kr (fun cx => ?_)
         refine aI tOk 28 25 0 58 60 61 (some (23,false)) ⟨(.box 1),[(0,0)],0,false,11,(CV.frzEs (x0.Bridges.map Bridge.row))⟩ v10.A (CV.frzRow (Bridge.row v13)) _ kr kr kr kr kr kr rfl (idx_isF ev13) rfl (fun cx => ?_)
         refine aU tOk [(29,[]),(30,[]),(31,[]),(32,[])] 17 [⟨[],3,64,65⟩,⟨[],3,59,60⟩,⟨[],25,57,58⟩,⟨[20],3,51,52⟩,⟨[20],3,49,50⟩,⟨[20],29,1,48⟩,⟨[11,20],3,42,43⟩,⟨[11,20],3,40,41⟩,⟨[11,20],29,1,39⟩,⟨[11,20],3,35,36⟩,⟨[11,20],3,33,34⟩] [32,31,30,29,28,27,26,25,24,23,22,21,20,19,18,17,16,15,14,13,12,11,10,9,8,7,6,5,4,3,2,1,0] rfl kr (fun cx => ?_)
         refine aI tOk 33 52 0 63 65 66 (some (23,false)) ⟨(.slot 63),[],0,false,8,(CV.frzEs (v13.Ports.map Pt.row))⟩ v10.P (Pt.row v14) _ kr kr kr kr kr kr rfl (idx_isF ev14) rfl (fun cx => ?_)
         refine aU tOk [(34,[]),(35,[]),(36,[]),(37,[]),(38,[]),(39,[])] 10 [⟨[],3,71,72⟩,⟨[],25,69,70⟩,⟨[],3,64,65⟩,⟨[],3,59,60⟩,⟨[],25,57,58⟩,⟨[20],3,51,52⟩,⟨[20],3,49,50⟩,⟨[20],29,1,48⟩,⟨[11,20],3,42,43⟩,⟨[11,20],3,40,41⟩,⟨[11,20],29,1,39⟩,⟨[11,20],3,35,36⟩,⟨[11,20],3,33,34⟩] [39,38,37,36,35,34,33,32,31,30,29,28,27,26,25,24,23,22,21,20,19,18,17,16,15,14,13,12,11,10,9,8,7,6,5,4,3,2,1,0] rfl kr (fun cx => ?_)
         refine aI tOk 40 25 0 70 72 73 (some (23,false)) ⟨(.box 1),[(0,0)],0,false,11,(CV.frzEs (x0.Bridges.map Bridge.row))⟩ v10.B (CV.frzRow (Bridge.row v15)) _ kr kr kr kr kr kr rfl (idx_isF ev15) rfl (fun cx => ?_)
         refine aU tOk [(41,[]),(42,[]),(43,[]),(44,[])] 5 [⟨[],3,76,77⟩,⟨[],3,71,72⟩,⟨[],25,69,70⟩,⟨[],3,64,65⟩,⟨[],3,59,60⟩,⟨[],25,57,58⟩,⟨[20],3,51,52⟩,⟨[20],3,49,50⟩,⟨[20],29,1,48⟩,⟨[11,20],3,42,43⟩,⟨[11,20],3,40,41⟩,⟨[11,20],29,1,39⟩,⟨[11,20],3,35,36⟩,⟨[11,20],3,33,34⟩] [44,43,42,41,40,39,38,37,36,35,34,33,32,31,30,29,28,27,26,25,24,23,22,21,20,19,18,17,16,15,14,13,12,11,10,9,8,7,6,5,4,3,2,1,0] rfl kr (fun cx => ?_)
         refine aI tOk 45 52 0 75 77 78 (some (23,false)) ⟨(.slot 75),[],0,false,8,(CV.frzEs (v15.Ports.map Pt.row))⟩ v10.Q (Pt.row v16) _ kr kr kr kr kr kr rfl (idx_isF ev16) rfl (fun cx => ?_)
         refine aU tOk [(46,[]),(47,[]),(48,[]),(49,[])] 0 [⟨[],3,76,77⟩,⟨[],3,71,72⟩,⟨[],25,69,70⟩,⟨[],3,64,65⟩,⟨[],3,59,60⟩,⟨[],25,57,58⟩,⟨[20],3,51,52⟩,⟨[20],3,49,50⟩,⟨[20],29,1,48⟩,⟨[11,20],3,42,43⟩,⟨[11,20],3,40,41⟩,⟨[11,20],29,1,39⟩,⟨[11,20],3,35,36⟩,⟨[11,20],3,33,34⟩] [49,48,47,46,45,44,43,42,41,40,39,38,37,36,35,34,33,32,31,30,29,28,27,26,25,24,23,22,21,20,19,18,17,16,15,14,13,12,11,10,9,8,7,6,5,4,3,2,1,0] rfl kr (fun cx => ?_)
         exact AT.done [82,3,1] [1] _ kr kr rfl
        refine tO ⟨112,0,[sB 82 (!(v14.Up == v16.Up)),sI 3 y2,sA 1 1 3 0],[(1,(CV.frzRow (Net.row x0)))]⟩ kr ?_
        cases h11 : (!(v14.Up == v16.Up))
        ·have H := bifF h11 H
         refine tf kr ?_
         refine tK ?_
         refine tE tOk 3 10 2 kr kr ?_
         exact jn (mo9,(IntKind.wrap .i64 (y2 + 1))) H (sM mo9 [3,1] [1] kr)
        have H := bifT h11 H
        refine tt kr ?_
        refine tG tOk 1 4 0 kr kr ?_
        refine te ?_
        obtain rfl := si H
        have H := Ho9
        dsimp only at H
        obtain rfl := si H
        exact fO [(false,[cB false])] kr rfl rfl
       have H := bifT h10 H
       refine Tr.draws mixed 50 kr ⟨112,0,[sB 82 true,sI 3 y2,sA 1 1 3 0],[(1,(CV.frzRow (Net.row x0)))]⟩ (fun cx => ?_) ?_
       ·refine aU tOk [(0,[]),(1,[11,20]),(2,[]),(3,[11,20]),(4,[]),(5,[])] 44 [⟨[11,20],3,35,36⟩,⟨[11,20],3,33,34⟩] [5,4,3,2,1,0] rfl kr (fun cx => ?_)
        refine aT ⟨112,0,[sB 38 (v10.A == v10.B),sB 37 (v10.A == v10.B),sI 36 v10.B,sA 35 4 4 2,sI 34 v10.A,sA 33 4 4 0,sA 4 4 4 0,sI 3 y2,sA 1 1 3 0],[(4,(Link.row v10)),(1,(CV.frzRow (Net.row x0)))]⟩ kr ?_
        rw [h8]
        refine aU tOk [(6,[11,20]),(7,[]),(8,[11,20]),(9,[]),(10,[11,20])] 39 [⟨[11,20],3,42,43⟩,⟨[11,20],3,40,41⟩,⟨[11,20],29,1,39⟩,⟨[11,20],3,35,36⟩,⟨[11,20],3,33,34⟩] [10,9,8,7,6,5,4,3,2,1,0] rfl kr (fun cx => ?_)
        refine AT.big1 tOk 11 kr kr ?_
        refine lV tOk [.rd,.rd,.rd] [] (spec_l13End n x0 v10.A v10.P r11 er11) kr kr kr kr (.inl rfl) ?_
        refine lF kr kr kr ?_
        refine aU tOk [(12,[]),(13,[]),(14,[])] 35 [⟨[11,20],3,42,43⟩,⟨[11,20],3,40,41⟩,⟨[11,20],29,1,39⟩,⟨[11,20],3,35,36⟩,⟨[11,20],3,33,34⟩] [14,13,12,11,10,9,8,7,6,5,4,3,2,1,0] rfl kr (fun cx => ?_)
        refine aT ⟨112,0,[sB 47 (!r11),sB 46 (!r11),sB 45 (!r11),sB 44 r11,sI 43 v10.P,sA 42 4 4 1,sI 41 v10.A,sA 40 4 4 0,sR 39 1 3 0 3 true,sB 38 false,sB 37 false,sI 36 v10.B,sA 35 4 4 2,sI 34 v10.A,sA 33 4 4 0,sA 4 4 4 0,sI 3 y2,sA 1 1 3 0],[(4,(Link.row v10)),(1,(CV.frzRow (Net.row x0)))]⟩ kr ?_
        rw [h9]
        refine aU tOk [(15,[20]),(16,[]),(17,[20]),(18,[]),(19,[20])] 30 [⟨[20],3,51,52⟩,⟨[20],3,49,50⟩,⟨[20],29,1,48⟩,⟨[11,20],3,42,43⟩,⟨[11,20],3,40,41⟩,⟨[11,20],29,1,39⟩,⟨[11,20],3,35,36⟩,⟨[11,20],3,33,34⟩] [19,18,17,16,15,14,13,12,11,10,9,8,7,6,5,4,3,2,1,0] rfl kr (fun cx => ?_)
        refine AT.big1 tOk 20 kr kr ?_
        refine lV tOk [.rd,.rd,.rd] [] (spec_l13End n x0 v10.B v10.Q r12 er12) kr kr kr kr (.inl rfl) ?_
        refine lF kr kr kr ?_
        refine aU tOk [(21,[]),(22,[]),(23,[])] 26 [⟨[20],3,51,52⟩,⟨[20],3,49,50⟩,⟨[20],29,1,48⟩,⟨[11,20],3,42,43⟩,⟨[11,20],3,40,41⟩,⟨[11,20],29,1,39⟩,⟨[11,20],3,35,36⟩,⟨[11,20],3,33,34⟩] [23,22,21,20,19,18,17,16,15,14,13,12,11,10,9,8,7,6,5,4,3,2,1,0] rfl kr (fun cx => ?_)
        refine aT ⟨112,0,[sB 56 (!r12),sB 55 (!r12),sB 54 (!r12),sB 53 r12,sI 52 v10.Q,sA 51 4 4 3,sI 50 v10.B,sA 49 4 4 2,sR 48 1 3 0 3 true,sB 47 false,sB 46 false,sB 45 false,sB 44 r11,sI 43 v10.P,sA 42 4 4 1,sI 41 v10.A,sA 40 4 4 0,sR 39 1 3 0 3 true,sB 38 false,sB 37 false,sI 36 v10.B,sA 35 4 4 2,sI 34 v10.A,sA 33 4 4 0,sA 4 4 4 0,sI 3 y2,sA 1 1 3 0],[(4,(Link.row v10)),(1,(CV.frzRow (Net.row x0)))]⟩ kr ?_
        rw [h10]
        refine aU tOk [(24,[]),(25,[]),(26,[]),(27,[]),(28,[]),(29,[]),(30,[]),(31,[]),(32,[]),(33,[]),(34,[]),(35,[]),(36,[]),(37,[]),(38,[]),(39,[]),(40,[]),(41,[]),(42,[]),(43,[]),(44,[]),(45,[]),(46,[]),(47,[]),(48,[]),(49,[])] 0 [⟨[20],3,51,52⟩,⟨[20],3,49,50⟩,⟨[20],29,1,48⟩,⟨[11,20],3,42,43⟩,⟨[11,20],3,40,41⟩,⟨[11,20],29,1,39⟩,⟨[11,20],3,35,36⟩,⟨[11,20],3,33,34⟩] [49,48,47,46,45,44,43,42,41,40,39,38,37,36,35,34,33,32,31,30,29,28,27,26,25,24,23,22,21,20,19,18,17,16,15,14,13,12,11,10,9,8,7,6,5,4,3,2,1,0] rfl kr (fun cx => ?_)
        exact AT.done [82,3,1] [1] _ kr kr rfl
       refine tt kr ?_
       refine tG tOk 1 4 0 kr kr ?_
       refine te ?_
       obtain rfl := si H
       have H := Ho9
       dsimp only at H
       obtain rfl := si H
       exact fO [(false,[cB false])] kr rfl rfl
      have H := bifT h9 H
      refine Tr.draws mixed 50 kr ⟨112,0,[sB 82 true,sI 3 y2,sA 1 1 3 0],[(1,(CV.frzRow (Net.row x0)))]⟩ (fun cx => ?_) ?_
      ·refine aU tOk [(0,[]),(1,[11]),(2,[]),(3,[11]),(4,[]),(5,[])] 44 [⟨[11],3,35,36⟩,⟨[11],3,33,34⟩] [5,4,3,2,1,0] rfl kr (fun cx => ?_)
       refine aT ⟨112,0,[sB 38 (v10.A == v10.B),sB 37 (v10.A == v10.B),sI 36 v10.B,sA 35 4 4 2,sI 34 v10.A,sA 33 4 4 0,sA 4 4 4 0,sI 3 y2,sA 1 1 3 0],[(4,(Link.row v10)),(1,(CV.frzRow (Net.row x0)))]⟩ kr ?_
       rw [h8]
       refine aU tOk [(6,[11]),(7,[]),(8,[11]),(9,[]),(10,[11])] 39 [⟨[11],3,42,43⟩,⟨[11],3,40,41⟩,⟨[11],29,1,39⟩,⟨[11],3,35,36⟩,⟨[11],3,33,34⟩] [10,9,8,7,6,5,4,3,2,1,0] rfl kr (fun cx => ?_)
       refine AT.big1 tOk 11 kr kr ?_
       refine lV tOk [.rd,.rd,.rd] [] (spec_l13End n x0 v10.A v10.P r11 er11) kr kr kr kr (.inl rfl) ?_
       refine lF kr kr kr ?_
       refine aU tOk [(12,[]),(13,[]),(14,[])] 35 [⟨[11],3,42,43⟩,⟨[11],3,40,41⟩,⟨[11],29,1,39⟩,⟨[11],3,35,36⟩,⟨[11],3,33,34⟩] [14,13,12,11,10,9,8,7,6,5,4,3,2,1,0] rfl kr (fun cx => ?_)
       refine aT ⟨112,0,[sB 47 (!r11),sB 46 (!r11),sB 45 (!r11),sB 44 r11,sI 43 v10.P,sA 42 4 4 1,sI 41 v10.A,sA 40 4 4 0,sR 39 1 3 0 3 true,sB 38 false,sB 37 false,sI 36 v10.B,sA 35 4 4 2,sI 34 v10.A,sA 33 4 4 0,sA 4 4 4 0,sI 3 y2,sA 1 1 3 0],[(4,(Link.row v10)),(1,(CV.frzRow (Net.row x0)))]⟩ kr ?_
       rw [h9]
       refine aU tOk [(15,[]),(16,[]),(17,[]),(18,[]),(19,[]),(20,[]),(21,[]),(22,[]),(23,[]),(24,[]),(25,[]),(26,[]),(27,[]),(28,[]),(29,[]),(30,[]),(31,[]),(32,[]),(33,[]),(34,[]),(35,[]),(36,[]),(37,[]),(38,[]),(39,[]),(40,[]),(41,[]),(42,[]),(43,[]),(44,[]),(45,[]),(46,[]),(47,[]),(48,[]),(49,[])] 0 [⟨[11],3,42,43⟩,⟨[11],3,40,41⟩,⟨[11],29,1,39⟩,⟨[11],3,35,36⟩,⟨[11],3,33,34⟩] [49,48,47,46,45,44,43,42,41,40,39,38,37,36,35,34,33,32,31,30,29,28,27,26,25,24,23,22,21,20,19,18,17,16,15,14,13,12,11,10,9,8,7,6,5,4,3,2,1,0] rfl kr (fun cx => ?_)
       exact AT.done [82,3,1] [1] _ kr kr rfl
      refine tt kr ?_
      refine tG tOk 1 4 0 kr kr ?_
      refine te ?_
      obtain rfl := si H
      have H := Ho9
      dsimp only at H
      obtain rfl := si H
      exact fO [(false,[cB false])] kr rfl rfl
     have H := bifT h8 H
     refine Tr.draws mixed 50 kr ⟨112,0,[sB 82 true,sI 3 y2,sA 1 1 3 0],[(1,(CV.frzRow (Net.row x0)))]⟩ (fun cx => ?_) ?_
     ·refine aU tOk [(0,[]),(1,[]),(2,[]),(3,[]),(4,[]),(5,[])] 44 [⟨[],3,35,36⟩,⟨[],3,33,34⟩] [5,4,3,2,1,0] rfl kr (fun cx => ?_)
      refine aT ⟨112,0,[sB 38 (v10.A == v10.B),sB 37 (v10.A == v10.B),sI 36 v10.B,sA 35 4 4 2,sI 34 v10.A,sA 33 4 4 0,sA 4 4 4 0,sI 3 y2,sA 1 1 3 0],[(4,(Link.row v10)),(1,(CV.frzRow (Net.row x0)))]⟩ kr ?_
      rw [h8]
      refine aU tOk [(6,[]),(7,[]),(8,[]),(9,[]),(10,[]),(11,[]),(12,[]),(13,[]),(14,[]),(15,[]),(16,[]),(17,[]),(18,[]),(19,[]),(20,[]),(21,[]),(22,[]),(23,[]),(24,[]),(25,[]),(26,[]),(27,[]),(28,[]),(29,[]),(30,[]),(31,[]),(32,[]),(33,[]),(34,[]),(35,[]),(36,[]),(37,[]),(38,[]),(39,[]),(40,[]),(41,[]),(42,[]),(43,[]),(44,[]),(45,[]),(46,[]),(47,[]),(48,[]),(49,[])] 0 [⟨[],3,35,36⟩,⟨[],3,33,34⟩] [49,48,47,46,45,44,43,42,41,40,39,38,37,36,35,34,33,32,31,30,29,28,27,26,25,24,23,22,21,20,19,18,17,16,15,14,13,12,11,10,9,8,7,6,5,4,3,2,1,0] rfl kr (fun cx => ?_)
      exact AT.done [82,3,1] [1] _ kr kr rfl
     refine tt kr ?_
     refine tG tOk 1 4 0 kr kr ?_
     refine te ?_
     obtain rfl := si H
     have H := Ho9
     dsimp only at H
     obtain rfl := si H
     exact fO [(false,[cB false])] kr rfl rfl
    rintro _ H
    have H : (spec_NetOk_J1 n x0) = some r := H
    unfold spec_NetOk_J1 at H
    refine tS ?_
    refine tG tOk 1 34 2 kr kr ?_
    obtain ⟨o4,eo4,Ho4⟩ := bind_some H
    clear H
    refine Tr.mid (ι := Unit) (fun v => ⟨112,0,[],[]⟩) (fun v => spec_NetOk_J2 n = some r) ?_ ?_
    ·refine tB ?_
     refine Tr.loop (ι := Nat × (Int)) (fun v => ⟨112,0,[sI 5 v.2,sA 1 1 3 0],[(1,(CV.frzRow (Net.row x0)))]⟩) (fun v => spec_NetOk_L3 n v.1 x0 v.2 = some o4) (fun v => v.1) (n,0) eo4 (St.sub_of [5,1] [1] kr) ?_
     rintro ⟨mo4,y3⟩ H
     have H : spec_NetOk_L3 n mo4 x0 y3 = some o4 := H
     obtain _ | mo4 := mo4
     ·cases (show (none : Option _) = some o4 from H)
     rw [spec_NetOk_L3] at H
     refine tS ?_
     refine rU tOk 3 kr ?_
     refine lL tOk 27 3 195 85 86 none ⟨(.slot 85),[],0,false,7,(CV.frzEs (x0.Said.map Say.row))⟩ (x0.Said).length _ kr kr kr kr kr (frz_len _ _) rfl ?_
     refine uD tOk 1 0x8000000000000000000022 2 kr kr ?_
     obtain ⟨h4,H⟩ | ⟨h4,H⟩ := bC H
     ·refine tF h4 kr ?_
      refine Tr.exit ?_
      refine And.intro (fun _ => ?_) (fun h => absurd rfl h)
      obtain rfl := si H
      have H := Ho4
      dsimp only at H
      exact jn () H (sB_ [] [] kr)
     refine tT h4 kr ?_
     refine tK ?_
     refine tS ?_
     refine tB ?_
     obtain ⟨v5,ev5,H⟩ := bind_some H
     obtain ⟨r6,er6,H⟩ := bind_some H
     refine tO ⟨112,0,[sB 87 (decide (y3 < (x0.Said.length : Int))),sI 5 y3,sA 1 1 3 0],[(1,(CV.frzRow (Net.row x0)))]⟩ kr ?_
     cases h5 : (!r6)
     ·have H := bifF h5 H
      obtain ⟨v7,ev7,H⟩ := bind_some H
      obtain ⟨r8,er8,H⟩ := bind_some H
      refine Tr.draws mixed 22 kr ⟨112,0,[sB 111 (!r8),sI 5 y3,sA 1 1 3 0],[(1,(CV.frzRow (Net.row x0)))]⟩ (fun cx => ?_) ?_
      ·refine aU tOk [(0,[]),(1,[10,19]),(2,[])] 19 [⟨[10,19],27,90,91⟩] [2,1,0] rfl kr (fun cx => ?_)
       refine aI tOk 3 27 0 91 92 93 none ⟨(.box 1),[(0,0)],2,false,7,(CV.frzEs (x0.Said.map Say.row))⟩ y3 (Say.row v5) _ kr kr kr kr kr kr rfl (idx_isF ev5) rfl (fun cx => ?_)
       refine aU tOk [(4,[]),(5,[]),(6,[]),(7,[10,19])] 14 [⟨[10,19],26,96,97⟩,⟨[10,19],27,90,91⟩] [7,6,5,4,3,2,1,0] rfl kr (fun cx => ?_)
       refine aL tOk 8 26 3 126 97 98 none ⟨(.box 1),[(0,0)],1,false,4,(CV.frzEs (x0.Links.map Link.row))⟩ (x0.Links).length _ kr kr kr kr kr kr kr (frz_len _ _) rfl (fun cx => ?_)
       refine aU tOk [(9,[])] 12 [⟨[10,19],26,96,97⟩,⟨[10,19],27,90,91⟩] [9,8,7,6,5,4,3,2,1,0] rfl kr (fun cx => ?_)
       refine AT.big1 tOk 10 kr kr ?_
       refine lV tOk [.rd,.rd,.rd] [] (spec_l1In n v5.Link 0 (IntKind.wrap .i64 ((x0.Links.length : Int) - 1)) r6 er6) kr kr kr kr (.inl rfl) ?_
       refine lF kr kr kr ?_
       refine aU tOk [(11,[]),(12,[])] 9 [⟨[10,19],26,96,97⟩,⟨[10,19],27,90,91⟩] [12,11,10,9,8,7,6,5,4,3,2,1,0] rfl kr (fun cx => ?_)
       refine aT ⟨112,0,[sB 102 (!r6),sB 101 (!r6),sB 100 r6,sI 99 (IntKind.wrap .i64 ((x0.Links.length : Int) - 1)),sI 98 (x0.Links.length : Int),sR 97 1 3 1 1 false,sA 96 1 3 1,sI 95 v5.Link,(94,.fad ((Say.row v5))),(93,.fad ((Say.row v5))),sI 92 y3,sR 91 1 3 2 1 false,sA 90 1 3 2,sB 87 (decide (y3 < (x0.Said.length : Int))),sI 5 y3,sA 1 1 3 0],[(1,(CV.frzRow (Net.row x0)))]⟩ kr ?_
       rw [h5]
       refine aU tOk [(13,[]),(14,[19]),(15,[])] 6 [⟨[19],27,103,104⟩,⟨[10,19],26,96,97⟩,⟨[10,19],27,90,91⟩] [15,14,13,12,11,10,9,8,7,6,5,4,3,2,1,0] rfl kr (fun cx => ?_)
       refine aI tOk 16 27 0 104 105 106 (some (12,false)) ⟨(.box 1),[(0,0)],2,false,7,(CV.frzEs (x0.Said.map Say.row))⟩ y3 (Say.row v7) _ kr kr kr kr kr kr rfl (idx_isF ev7) rfl (fun cx => ?_)
       refine aU tOk [(17,[]),(18,[])] 3 [⟨[19],27,103,104⟩,⟨[10,19],26,96,97⟩,⟨[10,19],27,90,91⟩] [18,17,16,15,14,13,12,11,10,9,8,7,6,5,4,3,2,1,0] rfl kr (fun cx => ?_)
       refine AT.big1 tOk 19 kr kr ?_
       refine lV tOk [.rd] [] (spec_VecOk n v7.V r8 er8) kr kr kr kr (.inl rfl) ?_
       refine lF kr kr kr ?_
       refine aU tOk [(20,[]),(21,[])] 0 [⟨[19],27,103,104⟩,⟨[10,19],26,96,97⟩,⟨[10,19],27,90,91⟩] [21,20,19,18,17,16,15,14,13,12,11,10,9,8,7,6,5,4,3,2,1,0] rfl kr (fun cx => ?_)
       exact AT.done [111,5,1] [1] _ kr kr rfl
      refine tO ⟨112,0,[sB 111 (!r8),sI 5 y3,sA 1 1 3 0],[(1,(CV.frzRow (Net.row x0)))]⟩ kr ?_
      cases h6 : (!r8)
      ·have H := bifF h6 H
       refine tf kr ?_
       refine tK ?_
       refine tE tOk 3 34 2 kr kr ?_
       exact jn (mo4,(IntKind.wrap .i64 (y3 + 1))) H (sM mo4 [5,1] [1] kr)
      have H := bifT h6 H
      refine tt kr ?_
      refine tG tOk 1 4 0 kr kr ?_
      refine te ?_
      obtain rfl := si H
      have H := Ho4
      dsimp only at H
      obtain rfl := si H
      exact fO [(false,[cB false])] kr rfl rfl
     have H := bifT h5 H
     refine Tr.draws mixed 22 kr ⟨112,0,[sB 111 true,sI 5 y3,sA 1 1 3 0],[(1,(CV.frzRow (Net.row x0)))]⟩ (fun cx => ?_) ?_
     ·refine aU tOk [(0,[]),(1,[10]),(2,[])] 19 [⟨[10],27,90,91⟩] [2,1,0] rfl kr (fun cx => ?_)
      refine aI tOk 3 27 0 91 92 93 none ⟨(.box 1),[(0,0)],2,false,7,(CV.frzEs (x0.Said.map Say.row))⟩ y3 (Say.row v5) _ kr kr kr kr kr kr rfl (idx_isF ev5) rfl (fun cx => ?_)
      refine aU tOk [(4,[]),(5,[]),(6,[]),(7,[10])] 14 [⟨[10],26,96,97⟩,⟨[10],27,90,91⟩] [7,6,5,4,3,2,1,0] rfl kr (fun cx => ?_)
      refine aL tOk 8 26 3 126 97 98 none ⟨(.box 1),[(0,0)],1,false,4,(CV.frzEs (x0.Links.map Link.row))⟩ (x0.Links).length _ kr kr kr kr kr kr kr (frz_len _ _) rfl (fun cx => ?_)
      refine aU tOk [(9,[])] 12 [⟨[10],26,96,97⟩,⟨[10],27,90,91⟩] [9,8,7,6,5,4,3,2,1,0] rfl kr (fun cx => ?_)
      refine AT.big1 tOk 10 kr kr ?_
      refine lV tOk [.rd,.rd,.rd] [] (spec_l1In n v5.Link 0 (IntKind.wrap .i64 ((x0.Links.length : Int) - 1)) r6 er6) kr kr kr kr (.inl rfl) ?_
      refine lF kr kr kr ?_
      refine aU tOk [(11,[]),(12,[])] 9 [⟨[10],26,96,97⟩,⟨[10],27,90,91⟩] [12,11,10,9,8,7,6,5,4,3,2,1,0] rfl kr (fun cx => ?_)
      refine aT ⟨112,0,[sB 102 (!r6),sB 101 (!r6),sB 100 r6,sI 99 (IntKind.wrap .i64 ((x0.Links.length : Int) - 1)),sI 98 (x0.Links.length : Int),sR 97 1 3 1 1 false,sA 96 1 3 1,sI 95 v5.Link,(94,.fad ((Say.row v5))),(93,.fad ((Say.row v5))),sI 92 y3,sR 91 1 3 2 1 false,sA 90 1 3 2,sB 87 (decide (y3 < (x0.Said.length : Int))),sI 5 y3,sA 1 1 3 0],[(1,(CV.frzRow (Net.row x0)))]⟩ kr ?_
      rw [h5]
      refine aU tOk [(13,[]),(14,[]),(15,[]),(16,[]),(17,[]),(18,[]),(19,[]),(20,[]),(21,[])] 0 [⟨[10],26,96,97⟩,⟨[10],27,90,91⟩] [21,20,19,18,17,16,15,14,13,12,11,10,9,8,7,6,5,4,3,2,1,0] rfl kr (fun cx => ?_)
      exact AT.done [111,5,1] [1] _ kr kr rfl
     refine tt kr ?_
     refine tG tOk 1 4 0 kr kr ?_
     refine te ?_
     obtain rfl := si H
     have H := Ho4
     dsimp only at H
     obtain rfl := si H
     exact fO [(false,[cB false])] kr rfl rfl
    rintro _ H
    have H : (spec_NetOk_J2 n) = some r := H
    unfold spec_NetOk_J2 at H
    refine tG tOk 1 4 0 kr kr ?_
    exact te (by obtain rfl := si H; exact fO [(false,[cB true])] kr rfl rfl)
   refine tT h3 kr ?_
   refine tG tOk 1 4 0 kr kr ?_
   exact te (by obtain rfl := si H; exact fO [(false,[cB false])] kr rfl rfl)
  have H := bifT h2 H
  refine uD tOk 5 1048578 2 kr kr ?_
  refine tt kr ?_
  refine tG tOk 1 4 0 kr kr ?_
  exact te (by obtain rfl := si H; exact fO [(false,[cB false])] kr rfl rfl)
 have H := bifT h1 H
 refine uD tOk 11 1048578 2 kr kr ?_
 refine tt kr ?_
 refine tG tOk 1 4 0 kr kr ?_
 exact te (by obtain rfl := si H; exact fO [(false,[cB false])] kr rfl rfl)
def spec_l8CopyF (n : Nat) (x0 : (List Fent)) : Option ((List Fent)) :=
  (bif (decide (([] : List Fent).length + x0.length ≤ 268435456)) then (some (([] : List Fent) ++ x0)) else none)
noncomputable abbrev G191 (k : Nat) := Rg Tryz.f191 k
theorem spec_l8Copy (n : Nat) (x0 : (List Fent)) (r : (List Fent)) (H : spec_l8CopyF n x0 = some r) : LCall Tryz.prog 191 [.val false [.sl false 5 (CV.frzEs (x0.map Fent.row))]] [.val false [.sl true 5 (r.map Fent.row)]] [] := by
 refine LCall.of_body tOk Tryz.func191 rfl (c := (.seq (G191 0) (.seq (G191 1) .ret))) kr (Nat.le_of_ble_eq_true kr) 0 (rs := [.tmp 2]) rfl [] .nil [(false,[.sl true 5 (r.map Fent.row)])] [] [] fun cx => ?_
 show Tr _ _ _ ⟨6,0,[sC 0 (cF 5 x0 Fent.row)],[]⟩ _
 unfold spec_l8CopyF at H
 refine tG tOk 1 1 0 kr kr ?_
 refine rU tOk 2 kr ?_
 obtain ⟨hg1,H⟩ := guard_some H
 refine LAt.appCU tOk (t := 53) (ty := 53) (e := 184) (x := (.tmp 3)) (y := (.tmp 4)) (d := 5) (g := none) (tI 184) Fent.row ([] : List Fent) x0 ⟨(.slot 4),[],0,false,5,(CV.frzEs (x0.map Fent.row))⟩ kr kr kr kr kr kr kr kr kr kr kr (.inr rfl) (fun _ => rfl) (fun _ => rfl) hg1 ?_
 refine LAt.moveU (T := lk tab) (ty := 53) (x := (.tmp 5)) (d := 2) (g := none) false [cL 5 (([] : List Fent) ++ x0) Fent.row] kr kr kr kr kr ?_
 refine lD 4 0 kr ?_
 exact te (by obtain rfl := si H; exact fO [(false,[cL 5 (([] : List Fent) ++ x0) Fent.row])] kr rfl rfl)
def spec_l9CopyF (n : Nat) (x0 : Vtab) : Option (Vtab) :=
  (bif (decide (([] : List Vrow).length + x0.Rows.length ≤ 268435456)) then (bif (decide (([] : List Int).length + x0.Pvid.length ≤ 268435456)) then (some (⟨(([] : List Vrow) ++ x0.Rows),(([] : List Int) ++ x0.Pvid)⟩ : Vtab)) else none) else none)
noncomputable abbrev G192 (k : Nat) := Rg Tryz.f192 k
noncomputable abbrev D192 (k : Nat) := Rd Tryz.f192 k
theorem spec_l9Copy (n : Nat) (x0 : Vtab) (r : Vtab) (H : spec_l9CopyF n x0 = some r) : LCall Tryz.prog 192 [.val true (CV.frzRow (Vtab.row x0))] [.val true (Vtab.row r)] [] := by
 refine LCall.of_body tOk Tryz.func192 rfl (c := (.seq (G192 0) (.seq (D192 1) .ret))) kr (Nat.le_of_ble_eq_true kr) 0 (rs := [.cell 2 56]) rfl [] .nil [(true,(Vtab.row r))] [] [] fun cx => ?_
 show Tr _ _ _ ⟨12,0,[sV 0 (CV.frzRow (Vtab.row x0))],[]⟩ _
 unfold spec_l9CopyF at H
 refine tG tOk 2 6 6 kr kr ?_
 obtain ⟨hg1,H⟩ := guard_some H
 obtain ⟨hg2,H⟩ := guard_some H
 refine Tr.draws mixed 10 kr ⟨12,0,[sA 2 2 2 0],[(2,[cL 3 (([] : List Vrow) ++ x0.Rows) Vrow.row,cL 1 (([] : List Int) ++ x0.Pvid) intRow])]⟩ (fun cx => ?_) ?_
 ·refine aU tOk [(1,[]),(2,[3,7,8,9]),(5,[]),(6,[7,8,9])] 6 [⟨[7,8,9],22,8,9⟩,⟨[3,7,8,9],54,4,5⟩] [6,5,2,1] rfl kr (fun cx => ?_)
  refine AT.big2 tOk 0 4 kr (And.intro kr ?_) (And.intro kr ?_)
  ·refine lU tOk 1 kr ?_
   refine lF kr kr kr ?_
   refine AT.big2 tOk 3 4 kr (And.intro kr ?_) (And.intro kr ?_)
   ·refine LAt.appCU tOk (t := 54) (ty := 54) (e := 190) (x := (.tmp 3)) (y := (.tmp 5)) (d := 6) (g := none) (tI 190) Vrow.row ([] : List Vrow) x0.Rows ⟨(.box 1),[(0,0)],0,false,3,(CV.frzEs (x0.Rows.map Vrow.row))⟩ kr kr kr kr kr kr kr kr kr kr kr (.inr rfl) (fun _ => rfl) (fun _ => rfl) hg1 ?_
    refine lF kr kr kr ?_
    refine AT.big1 tOk 4 kr kr ?_
    refine lU tOk 1 kr ?_
    refine lF kr kr kr ?_
    refine AT.big1 tOk 7 kr kr ?_
    refine LAt.appCU tOk (t := 22) (ty := 22) (e := 3) (x := (.tmp 7)) (y := (.tmp 9)) (d := 10) (g := none) (tI 3) intRow ([] : List Int) x0.Pvid ⟨(.box 1),[(0,0)],1,false,1,(CV.frzEs (x0.Pvid.map intRow))⟩ kr kr kr kr kr kr kr kr kr kr kr (.inr rfl) (fun _ => rfl) (fun _ => rfl) hg2 ?_
    refine lF kr kr kr ?_
    refine AT.big1 tOk 8 kr kr ?_
    refine lU tOk 1 kr ?_
    refine lF kr kr kr ?_
    refine AT.big1 tOk 9 kr kr ?_
    refine lU tOk 1 kr ?_
    refine lF kr kr kr ?_
    exact AT.done [2] [2] _ kr kr rfl
   ·refine lU tOk 1 kr ?_
    refine lF kr kr kr ?_
    refine AT.big1 tOk 3 kr kr ?_
    refine LAt.appCU tOk (t := 54) (ty := 54) (e := 190) (x := (.tmp 3)) (y := (.tmp 5)) (d := 6) (g := none) (tI 190) Vrow.row ([] : List Vrow) x0.Rows ⟨(.box 1),[(0,0)],0,false,3,(CV.frzEs (x0.Rows.map Vrow.row))⟩ kr kr kr kr kr kr kr kr kr kr kr (.inr rfl) (fun _ => rfl) (fun _ => rfl) hg1 ?_
    refine lF kr kr kr ?_
    refine AT.big1 tOk 7 kr kr ?_
    refine LAt.appCU tOk (t := 22) (ty := 22) (e := 3) (x := (.tmp 7)) (y := (.tmp 9)) (d := 10) (g := none) (tI 3) intRow ([] : List Int) x0.Pvid ⟨(.box 1),[(0,0)],1,false,1,(CV.frzEs (x0.Pvid.map intRow))⟩ kr kr kr kr kr kr kr kr kr kr kr (.inr rfl) (fun _ => rfl) (fun _ => rfl) hg2 ?_
    refine lF kr kr kr ?_
    refine AT.big1 tOk 8 kr kr ?_
    refine lU tOk 1 kr ?_
    refine lF kr kr kr ?_
    refine AT.big1 tOk 9 kr kr ?_
    refine lU tOk 1 kr ?_
    refine lF kr kr kr ?_
    exact AT.done [2] [2] _ kr kr rfl
  ·refine lU tOk 1 kr ?_
   refine lF kr kr kr ?_
   refine AT.big1 tOk 0 kr kr ?_
   refine lU tOk 1 kr ?_
   refine lF kr kr kr ?_
   refine AT.big1 tOk 3 kr kr ?_
   refine LAt.appCU tOk (t := 54) (ty := 54) (e := 190) (x := (.tmp 3)) (y := (.tmp 5)) (d := 6) (g := none) (tI 190) Vrow.row ([] : List Vrow) x0.Rows ⟨(.box 1),[(0,0)],0,false,3,(CV.frzEs (x0.Rows.map Vrow.row))⟩ kr kr kr kr kr kr kr kr kr kr kr (.inr rfl) (fun _ => rfl) (fun _ => rfl) hg1 ?_
   refine lF kr kr kr ?_
   refine AT.big1 tOk 7 kr kr ?_
   refine LAt.appCU tOk (t := 22) (ty := 22) (e := 3) (x := (.tmp 7)) (y := (.tmp 9)) (d := 10) (g := none) (tI 3) intRow ([] : List Int) x0.Pvid ⟨(.box 1),[(0,0)],1,false,1,(CV.frzEs (x0.Pvid.map intRow))⟩ kr kr kr kr kr kr kr kr kr kr kr (.inr rfl) (fun _ => rfl) (fun _ => rfl) hg2 ?_
   refine lF kr kr kr ?_
   refine AT.big1 tOk 8 kr kr ?_
   refine lU tOk 1 kr ?_
   refine lF kr kr kr ?_
   refine AT.big1 tOk 9 kr kr ?_
   refine lU tOk 1 kr ?_
   refine lF kr kr kr ?_
   exact AT.done [2] [2] _ kr kr rfl
 exact te (by obtain rfl := si H; exact fO [(true,[cL 3 (([] : List Vrow) ++ x0.Rows) Vrow.row,cL 1 (([] : List Int) ++ x0.Pvid) intRow])] kr rfl rfl)
def spec_l11CopyF (n : Nat) (x0 : Bridge) : Option (Bridge) :=
  (bif (decide (([] : List Pt).length + x0.Ports.length ≤ 268435456)) then ((spec_l8CopyF n x0.F).bind fun r2 => ((spec_l9CopyF n x0.V).bind fun r3 => (some (⟨x0.Id,x0.Name,(([] : List Pt) ++ x0.Ports),r2,r3,x0.Ticks,x0.Parse,x0.Word,x0.Drops,x0.Vers⟩ : Bridge)))) else none)
noncomputable abbrev G95 (k : Nat) := Rg Tryz.f95 k
theorem spec_l11Copy (n : Nat) (x0 : Bridge) (r : Bridge) (H : spec_l11CopyF n x0 = some r) : LCall Tryz.prog 95 [.val true (CV.frzRow (Bridge.row x0))] [.val true (Bridge.row r)] [] := by
 refine LCall.of_body tOk Tryz.func95 rfl (c := (.seq (G95 0) (.seq (G95 1) (.seq (G95 2) (.seq (G95 3) (.seq (G95 4) (.seq (G95 5) .ret))))))) kr (Nat.le_of_ble_eq_true kr) 0 (rs := [.cell 2 58]) rfl [] .nil [(true,(Bridge.row r))] [] [] fun cx => ?_
 show Tr _ _ _ ⟨19,0,[sV 0 (CV.frzRow (Bridge.row x0))],[]⟩ _
 unfold spec_l11CopyF at H
 refine tG tOk 2 6 6 kr kr ?_
 refine tG tOk 3 14 14 kr kr ?_
 refine rU tOk 3 kr ?_
 obtain ⟨hg1,H⟩ := guard_some H
 refine LAt.appCU tOk (t := 52) (ty := 52) (e := 182) (x := (.tmp 5)) (y := (.tmp 7)) (d := 8) (g := none) (tI 182) Pt.row ([] : List Pt) x0.Ports ⟨(.slot 7),[],0,false,8,(CV.frzEs (x0.Ports.map Pt.row))⟩ kr kr kr kr kr kr kr kr kr kr kr (.inr rfl) (fun _ => rfl) (fun _ => rfl) hg1 ?_
 refine uD tOk 2 14 14 kr kr ?_
 refine rU tOk 2 kr ?_
 obtain ⟨r2,er2,H⟩ := bind_some H
 refine lV tOk [.rd] [] (spec_l8Copy n x0.F r2 er2) kr kr kr kr (.inl rfl) ?_
 refine uD tOk 2 14 14 kr kr ?_
 refine rU tOk 2 kr ?_
 obtain ⟨r3,er3,H⟩ := bind_some H
 refine lV tOk [.rd] [] (spec_l9Copy n x0.V r3 er3) kr kr kr kr (.inl rfl) ?_
 refine uD tOk 2 12 12 kr kr ?_
 refine tG tOk 2 4 4 kr kr ?_
 exact te (by obtain rfl := si H; exact fO [(true,[cI x0.Id,cS x0.Name,cL 8 (([] : List Pt) ++ x0.Ports) Pt.row,cL 5 r2 Fent.row,cL 3 r3.Rows Vrow.row,cL 1 r3.Pvid intRow,cI x0.Ticks,cI x0.Parse,cI x0.Word,cI x0.Drops,cI x0.Vers])] kr rfl rfl)
def spec_l11ThereF (n : Nat) (x0 : Bridge) (x1 : Int) : Option (Bool) :=
  ((spec_BridgeOkF n x0).bind fun r1 => (bif r1 then ((spec_l1InF n x1 0 (IntKind.wrap .i64 ((x0.Ports.length : Int) - 1))).bind fun r2 => (some r2)) else (some false)))
noncomputable abbrev G96 (k : Nat) := Rg Tryz.f96 k
theorem spec_l11There (n : Nat) (x0 : Bridge) (x1 : Int) (r : Bool) (H : spec_l11ThereF n x0 x1 = some r) : LCall Tryz.prog 96 [.val true (CV.frzRow (Bridge.row x0)),.val false [.lit (.int .i64 x1)]] [.val false [.lit (.bool r)]] [] := by
 refine LCall.of_body tOk Tryz.func96 rfl (c := (.seq (G96 0) (.seq (G96 1) .ret))) kr (Nat.le_of_ble_eq_true kr) 0 (rs := [.tmp 4]) rfl [] .nil [(false,[.lit (.bool r)])] [] [] fun cx => ?_
 show Tr _ _ _ ⟨15,0,[sV 0 (CV.frzRow (Bridge.row x0)),sI 1 x1],[]⟩ _
 unfold spec_l11ThereF at H
 refine tG tOk 2 6 4 kr kr ?_
 refine rU tOk 1 kr ?_
 obtain ⟨r1,er1,H⟩ := bind_some H
 refine lV tOk [.rd] [] (spec_BridgeOk n x0 r1 er1) kr kr kr kr (.inl rfl) ?_
 refine lU tOk 1 kr ?_
 refine lT ⟨15,0,[sB 7 r1,sB 6 r1,sV 5 (CV.frzRow (Bridge.row x0)),sA 2 2 11 0,sI 1 x1],[(2,(CV.frzRow (Bridge.row x0)))]⟩ kr ?_
 cases h1 : r1
 ·have H := bifF h1 H
  refine uD tOk 8 16 0 kr kr ?_
  exact te (by obtain rfl := si H; exact fO [(false,[cB false])] kr rfl rfl)
 have H := bifT h1 H
 refine lU tOk 3 kr ?_
 refine lL tOk 52 3 182 10 11 (some (2,true)) ⟨(.slot 10),[],0,false,8,(CV.frzEs (x0.Ports.map Pt.row))⟩ (x0.Ports).length _ kr kr kr kr kr (frz_len _ _) rfl ?_
 refine lU tOk 1 kr ?_
 obtain ⟨r2,er2,H⟩ := bind_some H
 refine lV tOk [.rd,.rd,.rd] [] (spec_l1In n x1 0 (IntKind.wrap .i64 ((x0.Ports.length : Int) - 1)) r2 er2) kr kr kr kr (.inl rfl) ?_
 refine uD tOk 2 16 0 kr kr ?_
 exact te (by obtain rfl := si H; exact fO [(false,[cB r2])] kr rfl rfl)
def spec_l11OneF (n : Nat) (x0 : Int) : Option (Int) :=
  (bif (decide (x0 ≥ 1000000)) then (some x0) else (some (IntKind.wrap .i64 (x0 + 1))))
noncomputable abbrev G101 (k : Nat) := Rg Tryz.f101 k
theorem spec_l11One (n : Nat) (x0 : Int) (r : Int) (H : spec_l11OneF n x0 = some r) : LCall Tryz.prog 101 [.val false [.lit (.int .i64 x0)]] [.val false [.lit (.int .i64 r)]] [] := by
 refine LCall.of_body tOk Tryz.func101 rfl (c := (.seq (G101 0) (.seq (.seq (G101 1) (.cond (.tmp 4) (.seq (G101 2) .ret) .skip)) (.seq (G101 3) .ret)))) kr (Nat.le_of_ble_eq_true kr) 0 (rs := [.tmp 2]) rfl [] .nil [(false,[.lit (.int .i64 r)])] [] [] fun cx => ?_
 show Tr _ _ _ ⟨8,0,[sI 0 x0],[]⟩ _
 unfold spec_l11OneF at H
 refine tG tOk 1 1 0 kr kr ?_
 refine tS ?_
 refine tG tOk 2 17 0 kr kr ?_
 obtain ⟨h1,H⟩ | ⟨h1,H⟩ := bC H
 ·refine tF h1 kr ?_
  refine tK ?_
  refine tG tOk 3 4 0 kr kr ?_
  exact te (by obtain rfl := si H; exact fO [(false,[cI (IntKind.wrap .i64 (x0 + 1))])] kr rfl rfl)
 refine tT h1 kr ?_
 refine tG tOk 2 4 0 kr kr ?_
 exact te (by obtain rfl := si H; exact fO [(false,[cI x0])] kr rfl rfl)
def spec_StepVecF (n : Nat) (x0 : Vec) (x1 : Int) : Option (Vec × Bool) :=
  ((spec_VecOkF n x0).bind fun r1 => (bif (!r1) then (some (x0,false)) else ((spec_l1InF n x1 1 1000).bind fun r2 => (bif (!r2) then (some (x0,false)) else ((spec_VecOkF n (⟨x0.Root,(IntKind.wrap .i64 (x0.Cost + x1)),(IntKind.wrap .i64 (x0.Hops + 1)),x0.Bridge,x0.Port⟩ : Vec)).bind fun r3 => (bif (!r3) then (some (x0,false)) else (some ((⟨x0.Root,(IntKind.wrap .i64 (x0.Cost + x1)),(IntKind.wrap .i64 (x0.Hops + 1)),x0.Bridge,x0.Port⟩ : Vec),true))))))))
noncomputable abbrev G260 (k : Nat) := Rg Tryz.f260 k
theorem spec_StepVec (n : Nat) (x0 : Vec) (x1 : Int) (r : Vec × Bool) (H : spec_StepVecF n x0 x1 = some r) : LCall Tryz.prog 260 [.val true (CV.frzRow (Vec.row x0)),.val false [.lit (.int .i64 x1)]] [.val true (Vec.row r.1),.val false [.lit (.bool r.2)]] [] := by
 refine LCall.of_body tOk Tryz.func260 rfl (c := (.seq (G260 0) (.seq (.seq (G260 1) (.cond (.tmp 14) (.seq (G260 2) .ret) .skip)) (.seq (G260 3) (.seq (G260 4) (.seq (G260 5) (.seq (.seq (G260 6) (.cond (.tmp 28) (.seq (G260 7) .ret) .skip)) (.seq (G260 8) .ret)))))))) kr (Nat.le_of_ble_eq_true kr) 0 (rs := [.cell 4 162,.tmp 5]) rfl [] .nil [(true,(Vec.row r.1)),(false,[.lit (.bool r.2)])] [] [] fun cx => ?_
 show Tr _ _ _ ⟨31,0,[sV 0 (Vec.row x0),sI 1 x1],[]⟩ _
 unfold spec_StepVecF at H
 refine tG tOk 3 22 20 kr kr ?_
 refine tS ?_
 refine rU tOk 1 kr ?_
 obtain ⟨r1,er1,H⟩ := bind_some H
 refine lV tOk [.rd] [] (spec_VecOk n x0 r1 er1) kr kr kr kr (.inl rfl) ?_
 refine lU tOk 2 kr ?_
 refine lT ⟨31,0,[sB 10 (!r1),sB 9 (!r1),sB 8 r1,sV 7 (Vec.row x0),sA 4 4 5 0,sA 2 2 5 0,sI 1 x1],[(4,[cI 0,cI 0,cI 0,cI 0,cI 0]),(2,(Vec.row x0))]⟩ kr ?_
 cases h1 : (!r1)
 ·have H := bifF h1 H
  refine lU tOk 1 kr ?_
  obtain ⟨r2,er2,H⟩ := bind_some H
  refine lV tOk [.rd,.rd,.rd] [] (spec_l1In n x1 1 1000 r2 er2) kr kr kr kr (.inl rfl) ?_
  refine uD tOk 2 16406 20 kr kr ?_
  obtain ⟨h2,H⟩ | ⟨h2,H⟩ := bC H
  ·refine tF h2 kr ?_
   refine tK ?_
   refine tG tOk 3 86 84 kr kr ?_
   refine tG tOk 6 84 84 kr kr ?_
   refine tG tOk 5 84 84 kr kr ?_
   refine tS ?_
   refine rU tOk 1 kr ?_
   obtain ⟨r3,er3,H⟩ := bind_some H
   refine lV tOk [.rd] [] (spec_VecOk n (⟨x0.Root,(IntKind.wrap .i64 (x0.Cost + x1)),(IntKind.wrap .i64 (x0.Hops + 1)),x0.Bridge,x0.Port⟩ : Vec) r3 er3) kr kr kr kr (.inl rfl) ?_
   refine uD tOk 1 268435540 84 kr kr ?_
   obtain ⟨h3,H⟩ | ⟨h3,H⟩ := bC H
   ·refine tF h3 kr ?_
    refine tK ?_
    refine tG tOk 3 48 16 kr kr ?_
    exact te (by obtain rfl := si H; exact fO [(true,[cI x0.Root,cI (IntKind.wrap .i64 (x0.Cost + x1)),cI (IntKind.wrap .i64 (x0.Hops + 1)),cI x0.Bridge,cI x0.Port]),(false,[cB true])] kr rfl rfl)
   refine tT h3 kr ?_
   refine tG tOk 3 48 16 kr kr ?_
   exact te (by obtain rfl := si H; exact fO [(true,(Vec.row x0)),(false,[cB false])] kr rfl rfl)
  refine tT h2 kr ?_
  refine tG tOk 3 48 16 kr kr ?_
  exact te (by obtain rfl := si H; exact fO [(true,(Vec.row x0)),(false,[cB false])] kr rfl rfl)
 have H := bifT h1 H
 refine uD tOk 4 16406 20 kr kr ?_
 refine tt kr ?_
 refine tG tOk 3 48 16 kr kr ?_
 exact te (by obtain rfl := si H; exact fO [(true,(Vec.row x0)),(false,[cB false])] kr rfl rfl)
def spec_LessVecF (n : Nat) (x0 : Vec) (x1 : Vec) : Option (Bool) :=
  (bif (x0.Root != x1.Root) then (some (decide (x0.Root < x1.Root))) else (bif (x0.Cost != x1.Cost) then (some (decide (x0.Cost < x1.Cost))) else (bif (x0.Bridge != x1.Bridge) then (some (decide (x0.Bridge < x1.Bridge))) else (some (decide (x0.Port < x1.Port))))))
noncomputable abbrev G243 (k : Nat) := Rg Tryz.f243 k
theorem spec_LessVec (n : Nat) (x0 : Vec) (x1 : Vec) (r : Bool) (H : spec_LessVecF n x0 x1 = some r) : LCall Tryz.prog 243 [.val true (CV.frzRow (Vec.row x0)),.val true (CV.frzRow (Vec.row x1))] [.val false [.lit (.bool r)]] [] := by
 refine LCall.of_body tOk Tryz.func243 rfl (c := (.seq (G243 0) (.seq (.block 0 (.seq (G243 1) (.cond (.tmp 5) (.seq (G243 2) .ret) (.seq (G243 3) (.cond (.tmp 16) (.seq (G243 4) .ret) (.seq (G243 5) (.cond (.tmp 27) (.seq (G243 6) .ret) .skip))))))) (.seq (G243 7) .ret)))) kr (Nat.le_of_ble_eq_true kr) 0 (rs := [.tmp 4]) rfl [] .nil [(false,[.lit (.bool r)])] [] [] fun cx => ?_
 show Tr _ _ _ ⟨43,0,[sV 0 (Vec.row x0),sV 1 (Vec.row x1)],[]⟩ _
 unfold spec_LessVecF at H
 refine tG tOk 3 12 12 kr kr ?_
 refine tS ?_
 refine tB ?_
 refine tG tOk 6 44 12 kr kr ?_
 obtain ⟨h1,H⟩ | ⟨h1,H⟩ := bC H
 ·refine tF h1 kr ?_
  refine tG tOk 6 65548 12 kr kr ?_
  obtain ⟨h2,H⟩ | ⟨h2,H⟩ := bC H
  ·refine tF h2 kr ?_
   refine tG tOk 6 134217740 12 kr kr ?_
   obtain ⟨h3,H⟩ | ⟨h3,H⟩ := bC H
   ·refine tF h3 kr ?_
    refine tK ?_
    refine tG tOk 6 16 0 kr kr ?_
    exact te (by obtain rfl := si H; exact fO [(false,[cB (decide (x0.Port < x1.Port))])] kr rfl rfl)
   refine tT h3 kr ?_
   refine tG tOk 6 16 0 kr kr ?_
   exact te (by obtain rfl := si H; exact fO [(false,[cB (decide (x0.Bridge < x1.Bridge))])] kr rfl rfl)
  refine tT h2 kr ?_
  refine tG tOk 6 16 0 kr kr ?_
  exact te (by obtain rfl := si H; exact fO [(false,[cB (decide (x0.Cost < x1.Cost))])] kr rfl rfl)
 refine tT h1 kr ?_
 refine tG tOk 6 16 0 kr kr ?_
 exact te (by obtain rfl := si H; exact fO [(false,[cB (decide (x0.Root < x1.Root))])] kr rfl rfl)
def spec_BestVec_J1 (n : Nat) (x0 : Int) (y11 : Int) (y12 : Int) (y13 : Int) (y14 : Int) : Option (Vec × Int) :=
  (some ((⟨y12,y13,y14,x0,0⟩ : Vec),y11))
def spec_BestVec_J3 (n : Nat) (k : (Int × Int × Int × Int × Int × Int × Int × Int × Int × Int → Option ((Int × Int × Int × Int) ⊕ (Vec × Int)))) (r20 : Vec × Bool) (y1 : Int) (y10 : Int) (y2 : Int) (y3 : Int) (y4 : Int) (y5 : Int) (y6 : Int) (y7 : Int) (y8 : Int) (y9 : Int) (y21 : Bool) (y22 : Bool) (y23 : Bool) (y24 : Bool) (y25 : Bool) (y26 : Bool) (y27 : Bool) : Option ((Int × Int × Int × Int) ⊕ (Vec × Int)) :=
  (bif y21 then (k ((IntKind.wrap .i64 (y1 + 1)),y1,r20.1.Root,r20.1.Cost,r20.1.Hops,r20.1.Bridge,r20.1.Port,r20.1.Root,r20.1.Cost,r20.1.Hops)) else (k ((IntKind.wrap .i64 (y1 + 1)),y2,y3,y4,y5,y6,y7,y8,y9,y10)))
def spec_BestVec_L2 (n : Nat) : Nat → Int → (List Pt) → Int → Int → Int → Int → Int → Int → Int → Int → Int → Int → Option ((Int × Int × Int × Int) ⊕ (Vec × Int))
  | 0,_,_,_,_,_,_,_,_,_,_,_,_ => none
  | mo15 + 1,x0,x1,y1,y2,y3,y4,y5,y6,y7,y8,y9,y10 => (bif (decide (y1 < (x1.length : Int))) then ((idx x1 y1).bind fun v16 => (bif (!v16.Up) then (spec_BestVec_L2 n mo15 x0 x1 (IntKind.wrap .i64 (y1 + 1)) y2 y3 y4 y5 y6 y7 y8 y9 y10) else ((idx x1 y1).bind fun v17 => (bif (!v17.Has) then (spec_BestVec_L2 n mo15 x0 x1 (IntKind.wrap .i64 (y1 + 1)) y2 y3 y4 y5 y6 y7 y8 y9 y10) else ((idx x1 y1).bind fun v18 => ((idx x1 y1).bind fun v19 => ((spec_StepVecF n v18.Heard v19.Cost).bind fun r20 => (bif r20.2 then (bif (decide (r20.1.Root < x0)) then (bif (decide (y2 < 0)) then (spec_BestVec_J3 n (fun v => spec_BestVec_L2 n mo15 x0 x1 v.1 v.2.1 v.2.2.1 v.2.2.2.1 v.2.2.2.2.1 v.2.2.2.2.2.1 v.2.2.2.2.2.2.1 v.2.2.2.2.2.2.2.1 v.2.2.2.2.2.2.2.2.1 v.2.2.2.2.2.2.2.2.2) r20 y1 y10 y2 y3 y4 y5 y6 y7 y8 y9 true true true true true true true) else ((spec_LessVecF n r20.1 (⟨y3,y4,y5,y6,y7⟩ : Vec)).bind fun r28 => (spec_BestVec_J3 n (fun v => spec_BestVec_L2 n mo15 x0 x1 v.1 v.2.1 v.2.2.1 v.2.2.2.1 v.2.2.2.2.1 v.2.2.2.2.2.1 v.2.2.2.2.2.2.1 v.2.2.2.2.2.2.2.1 v.2.2.2.2.2.2.2.2.1 v.2.2.2.2.2.2.2.2.2) r20 y1 y10 y2 y3 y4 y5 y6 y7 y8 y9 r28 true true true true true true))) else (spec_BestVec_J3 n (fun v => spec_BestVec_L2 n mo15 x0 x1 v.1 v.2.1 v.2.2.1 v.2.2.2.1 v.2.2.2.2.1 v.2.2.2.2.2.1 v.2.2.2.2.2.2.1 v.2.2.2.2.2.2.2.1 v.2.2.2.2.2.2.2.2.1 v.2.2.2.2.2.2.2.2.2) r20 y1 y10 y2 y3 y4 y5 y6 y7 y8 y9 false false false true true true true)) else (spec_BestVec_J3 n (fun v => spec_BestVec_L2 n mo15 x0 x1 v.1 v.2.1 v.2.2.1 v.2.2.2.1 v.2.2.2.2.1 v.2.2.2.2.2.1 v.2.2.2.2.2.2.1 v.2.2.2.2.2.2.2.1 v.2.2.2.2.2.2.2.2.1 v.2.2.2.2.2.2.2.2.2) r20 y1 y10 y2 y3 y4 y5 y6 y7 y8 y9 false false false false false false false))))))))) else (some (Sum.inl (y2,y8,y9,y10))))
def spec_BestVecF (n : Nat) (x0 : Int) (x1 : (List Pt)) : Option (Vec × Int) :=
  ((spec_BestVec_L2 n n x0 x1 0 (-1) 0 0 0 0 0 x0 0 0).bind fun o => match o with | .inl (y11,y12,y13,y14) => (spec_BestVec_J1 n x0 y11 y12 y13 y14) | .inr r => some r)
noncomputable abbrev G242 (k : Nat) := Rg Tryz.f242 k
noncomputable abbrev D242 (k : Nat) := Rd Tryz.f242 k
theorem spec_BestVec (n : Nat) (x0 : Int) (x1 : (List Pt)) (r : Vec × Int) (H : spec_BestVecF n x0 x1 = some r) : LCall Tryz.prog 242 [.val false [.lit (.int .i64 x0)],.val false [.sl false 8 (CV.frzEs (x1.map Pt.row))]] [.val true (Vec.row r.1),.val false [.lit (.int .i64 r.2)]] [] := by
 refine LCall.of_body tOk Tryz.func242 rfl (c := (.seq (G242 0) (.seq (G242 1) (.seq (G242 2) (.seq (G242 3) (.seq (.seq (G242 4) (.block 0 (.loop (.seq (.seq (G242 5) (.cond (.tmp 19) .skip (.exit 0))) (.seq (.block 1 (.seq (.seq (G242 7) (.cond (.tmp 35) (.exit 1) .skip)) (.seq (D242 8) (.seq (G242 9) (.cond (.tmp 65) (.seq (G242 10) (.seq (G242 11) (G242 12))) .skip))))) (G242 6)))))) (.seq (G242 13) .ret))))))) kr (Nat.le_of_ble_eq_true kr) 0 (rs := [.cell 4 162,.tmp 5]) rfl [] .nil [(true,(Vec.row r.1)),(false,[.lit (.int .i64 r.2)])] [] [] fun cx => ?_
 show Tr _ _ _ ⟨78,0,[sI 0 x0,sC 1 (cF 8 x1 Pt.row)],[]⟩ _
 unfold spec_BestVecF at H
 refine tG tOk 2 51 16 kr kr ?_
 refine tG tOk 5 115 80 kr kr ?_
 refine tG tOk 3 243 208 kr kr ?_
 refine tG tOk 1 499 208 kr kr ?_
 refine tS ?_
 refine tG tOk 1 1011 208 kr kr ?_
 obtain ⟨o15,eo15,Ho15⟩ := bind_some H
 clear H
 refine Tr.mid (ι := Int × Int × Int × Int) (fun v => ⟨78,0,[sI 8 v.1,sA 6 6 5 0,sI 5 0,sA 4 4 5 0],[(6,[cI v.2.1,cI v.2.2.1,cI v.2.2.2,cI x0,cI 0]),(4,[cI 0,cI 0,cI 0,cI 0,cI 0])]⟩) (fun v => spec_BestVec_J1 n x0 v.1 v.2.1 v.2.2.1 v.2.2.2 = some r) ?_ ?_
 ·refine tB ?_
  refine Tr.loop (ι := Nat × (Int × Int × Int × Int × Int × Int × Int × Int × Int × Int)) (fun v => ⟨78,0,[sI 9 v.2.1,sI 8 v.2.2.1,sA 7 7 5 0,sA 6 6 5 0,sI 5 0,sA 4 4 5 0,sI 0 x0,sC 1 (cF 8 x1 Pt.row)],[(7,[cI v.2.2.2.1,cI v.2.2.2.2.1,cI v.2.2.2.2.2.1,cI v.2.2.2.2.2.2.1,cI v.2.2.2.2.2.2.2.1]),(6,[cI v.2.2.2.2.2.2.2.2.1,cI v.2.2.2.2.2.2.2.2.2.1,cI v.2.2.2.2.2.2.2.2.2.2,cI x0,cI 0]),(4,[cI 0,cI 0,cI 0,cI 0,cI 0])]⟩) (fun v => spec_BestVec_L2 n v.1 x0 x1 v.2.1 v.2.2.1 v.2.2.2.1 v.2.2.2.2.1 v.2.2.2.2.2.1 v.2.2.2.2.2.2.1 v.2.2.2.2.2.2.2.1 v.2.2.2.2.2.2.2.2.1 v.2.2.2.2.2.2.2.2.2.1 v.2.2.2.2.2.2.2.2.2.2 = some o15) (fun v => v.1) (n,(0,(-1),0,0,0,0,0,x0,0,0)) eo15 (St.sub_of [9,8,7,6,5,4,0,1] [7,6,4] kr) ?_
  rintro ⟨mo15,y1,y2,y3,y4,y5,y6,y7,y8,y9,y10⟩ H
  have H : spec_BestVec_L2 n mo15 x0 x1 y1 y2 y3 y4 y5 y6 y7 y8 y9 y10 = some o15 := H
  obtain _ | mo15 := mo15
  ·cases (show (none : Option _) = some o15 from H)
  rw [spec_BestVec_L2] at H
  refine tS ?_
  refine rU tOk 2 kr ?_
  refine lL tOk 52 3 182 17 18 none ⟨(.slot 17),[],0,false,8,(CV.frzEs (x1.map Pt.row))⟩ (x1).length _ kr kr kr kr kr (frz_len _ _) rfl ?_
  refine uD tOk 1 984051 208 kr kr ?_
  obtain ⟨h1,H⟩ | ⟨h1,H⟩ := bC H
  ·refine tF h1 kr ?_
   refine Tr.exit ?_
   refine And.intro (fun _ => ?_) (fun h => absurd rfl h)
   obtain rfl := si H
   have H := Ho15
   dsimp only at H
   exact jn (y2,y8,y9,y10) H (sB_ [8,6,5,4] [6,4] kr)
  refine tT h1 kr ?_
  refine tK ?_
  refine tS ?_
  refine tB ?_
  refine tS ?_
  refine rU tOk 2 kr ?_
  obtain ⟨v16,ev16,H⟩ := bind_some H
  refine lI tOk 52 0 22 23 24 none ⟨(.slot 22),[],0,false,8,(CV.frzEs (x1.map Pt.row))⟩ y1 (Pt.row v16) _ kr kr kr kr rfl (idx_isF ev16) rfl ?_
  refine lU tOk 4 kr ?_
  refine lT ⟨78,0,[sB 28 (!v16.Up),sB 27 (!v16.Up),sB 26 v16.Up,(25,.fad ((Pt.row v16))),(24,.fad ((Pt.row v16))),sI 23 y1,sC 22 (cF 8 x1 Pt.row),sB 19 (decide (y1 < (x1.length : Int))),sI 18 (x1.length : Int),sC 17 (cF 8 x1 Pt.row),sI 16 y1,sI 9 y1,sI 8 y2,sA 7 7 5 0,sA 6 6 5 0,sI 5 0,sA 4 4 5 0,sI 0 x0,sC 1 (cF 8 x1 Pt.row)],[(7,[cI y3,cI y4,cI y5,cI y6,cI y7]),(6,[cI y8,cI y9,cI y10,cI x0,cI 0]),(4,[cI 0,cI 0,cI 0,cI 0,cI 0])]⟩ kr ?_
  cases h2 : (!v16.Up)
  ·have H := bifF h2 H
   refine lU tOk 2 kr ?_
   obtain ⟨v17,ev17,H⟩ := bind_some H
   refine lI tOk 52 0 29 30 31 (some (6,false)) ⟨(.slot 29),[],0,false,8,(CV.frzEs (x1.map Pt.row))⟩ y1 (Pt.row v17) _ kr kr kr kr rfl (idx_isF ev17) rfl ?_
   refine uD tOk 4 68716266483 208 kr kr ?_
   obtain ⟨h3,H⟩ | ⟨h3,H⟩ := bC H
   ·refine tF h3 kr ?_
    refine tK ?_
    obtain ⟨v18,ev18,H⟩ := bind_some H
    obtain ⟨v19,ev19,H⟩ := bind_some H
    obtain ⟨r20,er20,H⟩ := bind_some H
    refine Tr.draws mixed 17 kr ⟨78,0,[sB 11 r20.2,sA 10 10 5 0,sB 49 r20.2,(36,.tup [(true,[.dead,.dead,.dead,.dead,.dead]),(false,[.dead])]),sV 48 (Vec.row r20.1),sI 46 v19.Cost,(45,.fad (((Pt.row v19).drop 1))),(44,.fad ((Pt.row v19))),sI 43 y1,sC 42 (cF 8 x1 Pt.row),sV 41 ((Pt.row v18).drop 3),(40,.fad (((Pt.row v18).drop 3))),(39,.fad ((Pt.row v18))),sI 38 y1,sC 37 (cF 8 x1 Pt.row),sB 35 (!v17.Has),sB 34 (!v17.Has),sB 33 v17.Has,(32,.fad (((Pt.row v17).drop 2))),(31,.fad ((Pt.row v17))),sI 30 y1,sC 29 (cF 8 x1 Pt.row),sB 28 false,sB 27 false,sB 26 v16.Up,(25,.fad ((Pt.row v16))),(24,.fad ((Pt.row v16))),sI 23 y1,sC 22 (cF 8 x1 Pt.row),sB 19 (decide (y1 < (x1.length : Int))),sI 18 (x1.length : Int),sC 17 (cF 8 x1 Pt.row),sI 16 y1,sI 9 y1,sI 8 y2,sA 7 7 5 0,sA 6 6 5 0,sI 5 0,sA 4 4 5 0,sI 0 x0,sC 1 (cF 8 x1 Pt.row)],[(10,(Vec.row r20.1)),(7,[cI y3,cI y4,cI y5,cI y6,cI y7]),(6,[cI y8,cI y9,cI y10,cI x0,cI 0]),(4,[cI 0,cI 0,cI 0,cI 0,cI 0])]⟩ (fun cx => ?_) ?_
    ·refine aU tOk [(0,[]),(1,[])] 15 [] [1,0] rfl kr (fun cx => ?_)
     refine aI tOk 2 52 0 37 38 39 none ⟨(.slot 37),[],0,false,8,(CV.frzEs (x1.map Pt.row))⟩ y1 (Pt.row v18) _ kr kr kr kr kr kr rfl (idx_isF ev18) rfl (fun cx => ?_)
     refine aU tOk [(3,[]),(4,[]),(5,[]),(6,[])] 10 [] [6,5,4,3,2,1,0] rfl kr (fun cx => ?_)
     refine aI tOk 7 52 0 42 43 44 none ⟨(.slot 42),[],0,false,8,(CV.frzEs (x1.map Pt.row))⟩ y1 (Pt.row v19) _ kr kr kr kr kr kr rfl (idx_isF ev19) rfl (fun cx => ?_)
     refine aU tOk [(8,[]),(9,[])] 7 [] [9,8,7,6,5,4,3,2,1,0] rfl kr (fun cx => ?_)
     refine AT.big2 tOk 10 14 kr (And.intro kr ?_) (And.intro kr ?_)
     ·refine lV tOk [.rd,.rd] [] (spec_StepVec n v18.Heard v19.Cost r20 er20) kr kr kr kr (.inl rfl) ?_
      refine lF kr kr kr ?_
      refine AT.movT tOk 11 (ty := 259) (t := 47) (d := 36) (g := none) [(true,(Vec.row r20.1)),(false,[cB r20.2])] _ kr kr kr (.inl rfl) kr kr kr kr rfl (fun cx => ?_)
      refine aU tOk [(12,[]),(13,[])] 3 [] [13,12,11,10,9,8,7,6,5,4,3,2,1,0] rfl kr (fun cx => ?_)
      refine AT.big1 tOk 14 kr kr ?_
      refine lU tOk 1 kr ?_
      refine lF kr kr kr ?_
      refine AT.big1 tOk 15 kr kr ?_
      refine lU tOk 1 kr ?_
      refine lF kr kr kr ?_
      refine aU tOk [(16,[])] 0 [] [16,15,14,13,12,11,10,9,8,7,6,5,4,3,2,1,0] rfl kr (fun cx => ?_)
      exact AT.done [11,10,49,36,48,46,45,44,43,42,41,40,39,38,37,35,34,33,32,31,30,29,28,27,26,25,24,23,22,19,18,17,16,9,8,7,6,5,4,0,1] [10,7,6,4] _ kr kr rfl
     ·refine lU tOk 1 kr ?_
      refine lF kr kr kr ?_
      refine AT.big1 tOk 10 kr kr ?_
      refine lV tOk [.rd,.rd] [] (spec_StepVec n v18.Heard v19.Cost r20 er20) kr kr kr kr (.inl rfl) ?_
      refine lF kr kr kr ?_
      refine AT.movT tOk 11 (ty := 259) (t := 47) (d := 36) (g := none) [(true,(Vec.row r20.1)),(false,[cB r20.2])] _ kr kr kr (.inl rfl) kr kr kr kr rfl (fun cx => ?_)
      refine aU tOk [(12,[]),(13,[])] 2 [] [13,12,11,10,14,9,8,7,6,5,4,3,2,1,0] rfl kr (fun cx => ?_)
      refine AT.big1 tOk 15 kr kr ?_
      refine lU tOk 1 kr ?_
      refine lF kr kr kr ?_
      refine aU tOk [(16,[])] 0 [] [16,15,13,12,11,10,14,9,8,7,6,5,4,3,2,1,0] rfl kr (fun cx => ?_)
      exact AT.done [11,10,49,36,48,46,45,44,43,42,41,40,39,38,37,35,34,33,32,31,30,29,28,27,26,25,24,23,22,19,18,17,16,9,8,7,6,5,4,0,1] [10,7,6,4] _ kr kr rfl
    refine tS ?_
    refine Tr.mid (ι := Bool × Bool × Bool × Bool × Bool × Bool × Bool) (fun v => ⟨78,0,[sB 65 v.1,sB 57 v.2.1,sB 56 v.2.2.1,sB 51 v.2.2.2.1,sB 50 v.2.2.2.2.1,sB 11 v.2.2.2.2.2.1,sA 10 10 5 0,sB 49 v.2.2.2.2.2.2,(36,.tup [(true,[.dead,.dead,.dead,.dead,.dead]),(false,[.dead])]),sV 48 (Vec.row r20.1),sI 46 v19.Cost,(45,.fad (((Pt.row v19).drop 1))),(44,.fad ((Pt.row v19))),sI 43 y1,sC 42 (cF 8 x1 Pt.row),sV 41 ((Pt.row v18).drop 3),(40,.fad (((Pt.row v18).drop 3))),(39,.fad ((Pt.row v18))),sI 38 y1,sC 37 (cF 8 x1 Pt.row),sB 35 false,sB 34 false,sB 33 v17.Has,(32,.fad (((Pt.row v17).drop 2))),(31,.fad ((Pt.row v17))),sI 30 y1,sC 29 (cF 8 x1 Pt.row),sB 28 false,sB 27 false,sB 26 v16.Up,(25,.fad ((Pt.row v16))),(24,.fad ((Pt.row v16))),sI 23 y1,sC 22 (cF 8 x1 Pt.row),sB 19 true,sI 18 (x1.length : Int),sC 17 (cF 8 x1 Pt.row),sI 16 y1,sI 9 y1,sI 8 y2,sA 7 7 5 0,sA 6 6 5 0,sI 5 0,sA 4 4 5 0,sI 0 x0,sC 1 (cF 8 x1 Pt.row)],[(10,(Vec.row r20.1)),(7,[cI y3,cI y4,cI y5,cI y6,cI y7]),(6,[cI y8,cI y9,cI y10,cI x0,cI 0]),(4,[cI 0,cI 0,cI 0,cI 0,cI 0])]⟩) (fun v => spec_BestVec_J3 n (fun v => spec_BestVec_L2 n mo15 x0 x1 v.1 v.2.1 v.2.2.1 v.2.2.2.1 v.2.2.2.2.1 v.2.2.2.2.2.1 v.2.2.2.2.2.2.1 v.2.2.2.2.2.2.2.1 v.2.2.2.2.2.2.2.2.1 v.2.2.2.2.2.2.2.2.2) r20 y1 y10 y2 y3 y4 y5 y6 y7 y8 y9 v.1 v.2.1 v.2.2.1 v.2.2.2.1 v.2.2.2.2.1 v.2.2.2.2.2.1 v.2.2.2.2.2.2 = some o15) ?_ ?_
    ·refine Tr.at ?_
     refine lU tOk 2 kr ?_
     refine lT ⟨78,0,[sB 51 r20.2,sB 50 r20.2,sB 11 r20.2,sA 10 10 5 0,sB 49 r20.2,(36,.tup [(true,[.dead,.dead,.dead,.dead,.dead]),(false,[.dead])]),sV 48 (Vec.row r20.1),sI 46 v19.Cost,(45,.fad (((Pt.row v19).drop 1))),(44,.fad ((Pt.row v19))),sI 43 y1,sC 42 (cF 8 x1 Pt.row),sV 41 ((Pt.row v18).drop 3),(40,.fad (((Pt.row v18).drop 3))),(39,.fad ((Pt.row v18))),sI 38 y1,sC 37 (cF 8 x1 Pt.row),sB 35 (!v17.Has),sB 34 (!v17.Has),sB 33 v17.Has,(32,.fad (((Pt.row v17).drop 2))),(31,.fad ((Pt.row v17))),sI 30 y1,sC 29 (cF 8 x1 Pt.row),sB 28 false,sB 27 false,sB 26 v16.Up,(25,.fad ((Pt.row v16))),(24,.fad ((Pt.row v16))),sI 23 y1,sC 22 (cF 8 x1 Pt.row),sB 19 (decide (y1 < (x1.length : Int))),sI 18 (x1.length : Int),sC 17 (cF 8 x1 Pt.row),sI 16 y1,sI 9 y1,sI 8 y2,sA 7 7 5 0,sA 6 6 5 0,sI 5 0,sA 4 4 5 0,sI 0 x0,sC 1 (cF 8 x1 Pt.row)],[(10,(Vec.row r20.1)),(7,[cI y3,cI y4,cI y5,cI y6,cI y7]),(6,[cI y8,cI y9,cI y10,cI x0,cI 0]),(4,[cI 0,cI 0,cI 0,cI 0,cI 0])]⟩ kr ?_
     cases h5 : r20.2
     ·have H := bifF h5 H
      refine uD tOk 14 0x3ffff7fffffcf0ff3 1232 kr kr ?_
      refine Sb.to ⟨78,0,[sB 65 false,(64,.tup []),(63,.tup []),(62,.tup []),(61,.tup []),(60,.tup []),(59,.tup []),(58,.tup []),sB 57 false,sB 56 false,(55,.tup []),(54,.tup []),(53,.tup []),(52,.tup []),sB 51 false,sB 50 false,sB 11 false,sA 10 10 5 0,sB 49 false,(36,.tup [(true,[.dead,.dead,.dead,.dead,.dead]),(false,[.dead])]),sV 48 (Vec.row r20.1),sI 46 v19.Cost,(45,.fad (((Pt.row v19).drop 1))),(44,.fad ((Pt.row v19))),sI 43 y1,sC 42 (cF 8 x1 Pt.row),sV 41 ((Pt.row v18).drop 3),(40,.fad (((Pt.row v18).drop 3))),(39,.fad ((Pt.row v18))),sI 38 y1,sC 37 (cF 8 x1 Pt.row),sB 35 (!v17.Has),sB 34 (!v17.Has),sB 33 v17.Has,(32,.fad (((Pt.row v17).drop 2))),(31,.fad ((Pt.row v17))),sI 30 y1,sC 29 (cF 8 x1 Pt.row),sB 28 false,sB 27 false,sB 26 v16.Up,(25,.fad ((Pt.row v16))),(24,.fad ((Pt.row v16))),sI 23 y1,sC 22 (cF 8 x1 Pt.row),sB 19 (decide (y1 < (x1.length : Int))),sI 18 (x1.length : Int),sC 17 (cF 8 x1 Pt.row),sI 16 y1,sI 9 y1,sI 8 y2,sA 7 7 5 0,sA 6 6 5 0,sI 5 0,sA 4 4 5 0,sI 0 x0,sC 1 (cF 8 x1 Pt.row)],[(10,(Vec.row r20.1)),(7,[cI y3,cI y4,cI y5,cI y6,cI y7]),(6,[cI y8,cI y9,cI y10,cI x0,cI 0]),(4,[cI 0,cI 0,cI 0,cI 0,cI 0])]⟩ kr ?_
      rw [h1]
      rw [h3]
      exact jn (false,false,false,false,false,false,false) H (sB_ [65,57,56,51,50,11,10,49,36,48,46,45,44,43,42,41,40,39,38,37,35,34,33,32,31,30,29,28,27,26,25,24,23,22,19,18,17,16,9,8,7,6,5,4,0,1] [10,7,6,4] kr)
     have H := bifT h5 H
     refine lU tOk 6 kr ?_
     refine lT ⟨78,0,[sB 57 (decide (r20.1.Root < x0)),sB 56 (decide (r20.1.Root < x0)),sB 55 (decide (r20.1.Root < x0)),sI 54 x0,sI 53 r20.1.Root,sA 52 10 5 0,sB 51 true,sB 50 true,sB 11 true,sA 10 10 5 0,sB 49 true,(36,.tup [(true,[.dead,.dead,.dead,.dead,.dead]),(false,[.dead])]),sV 48 (Vec.row r20.1),sI 46 v19.Cost,(45,.fad (((Pt.row v19).drop 1))),(44,.fad ((Pt.row v19))),sI 43 y1,sC 42 (cF 8 x1 Pt.row),sV 41 ((Pt.row v18).drop 3),(40,.fad (((Pt.row v18).drop 3))),(39,.fad ((Pt.row v18))),sI 38 y1,sC 37 (cF 8 x1 Pt.row),sB 35 (!v17.Has),sB 34 (!v17.Has),sB 33 v17.Has,(32,.fad (((Pt.row v17).drop 2))),(31,.fad ((Pt.row v17))),sI 30 y1,sC 29 (cF 8 x1 Pt.row),sB 28 false,sB 27 false,sB 26 v16.Up,(25,.fad ((Pt.row v16))),(24,.fad ((Pt.row v16))),sI 23 y1,sC 22 (cF 8 x1 Pt.row),sB 19 (decide (y1 < (x1.length : Int))),sI 18 (x1.length : Int),sC 17 (cF 8 x1 Pt.row),sI 16 y1,sI 9 y1,sI 8 y2,sA 7 7 5 0,sA 6 6 5 0,sI 5 0,sA 4 4 5 0,sI 0 x0,sC 1 (cF 8 x1 Pt.row)],[(10,(Vec.row r20.1)),(7,[cI y3,cI y4,cI y5,cI y6,cI y7]),(6,[cI y8,cI y9,cI y10,cI x0,cI 0]),(4,[cI 0,cI 0,cI 0,cI 0,cI 0])]⟩ kr ?_
     cases h6 : (decide (r20.1.Root < x0))
     ·have H := bifF h6 H
      refine uD tOk 8 0x3ffff7fffffcf0ff3 1232 kr kr ?_
      refine Sb.to ⟨78,0,[sB 65 false,(64,.tup []),(63,.tup []),(62,.tup []),(61,.tup []),(60,.tup []),(59,.tup []),(58,.tup []),sB 57 false,sB 56 false,sB 55 false,sI 54 x0,sI 53 r20.1.Root,sA 52 10 5 0,sB 51 true,sB 50 true,sB 11 true,sA 10 10 5 0,sB 49 true,(36,.tup [(true,[.dead,.dead,.dead,.dead,.dead]),(false,[.dead])]),sV 48 (Vec.row r20.1),sI 46 v19.Cost,(45,.fad (((Pt.row v19).drop 1))),(44,.fad ((Pt.row v19))),sI 43 y1,sC 42 (cF 8 x1 Pt.row),sV 41 ((Pt.row v18).drop 3),(40,.fad (((Pt.row v18).drop 3))),(39,.fad ((Pt.row v18))),sI 38 y1,sC 37 (cF 8 x1 Pt.row),sB 35 (!v17.Has),sB 34 (!v17.Has),sB 33 v17.Has,(32,.fad (((Pt.row v17).drop 2))),(31,.fad ((Pt.row v17))),sI 30 y1,sC 29 (cF 8 x1 Pt.row),sB 28 false,sB 27 false,sB 26 v16.Up,(25,.fad ((Pt.row v16))),(24,.fad ((Pt.row v16))),sI 23 y1,sC 22 (cF 8 x1 Pt.row),sB 19 (decide (y1 < (x1.length : Int))),sI 18 (x1.length : Int),sC 17 (cF 8 x1 Pt.row),sI 16 y1,sI 9 y1,sI 8 y2,sA 7 7 5 0,sA 6 6 5 0,sI 5 0,sA 4 4 5 0,sI 0 x0,sC 1 (cF 8 x1 Pt.row)],[(10,(Vec.row r20.1)),(7,[cI y3,cI y4,cI y5,cI y6,cI y7]),(6,[cI y8,cI y9,cI y10,cI x0,cI 0]),(4,[cI 0,cI 0,cI 0,cI 0,cI 0])]⟩ kr ?_
      rw [h1]
      rw [h3]
      exact jn (false,false,false,true,true,true,true) H (sB_ [65,57,56,51,50,11,10,49,36,48,46,45,44,43,42,41,40,39,38,37,35,34,33,32,31,30,29,28,27,26,25,24,23,22,19,18,17,16,9,8,7,6,5,4,0,1] [10,7,6,4] kr)
     have H := bifT h6 H
     refine lU tOk 3 kr ?_
     refine lT ⟨78,0,[sB 60 (decide (y2 < 0)),sB 59 (decide (y2 < 0)),sI 58 y2,sB 57 true,sB 56 true,sB 55 true,sI 54 x0,sI 53 r20.1.Root,sA 52 10 5 0,sB 51 true,sB 50 true,sB 11 true,sA 10 10 5 0,sB 49 true,(36,.tup [(true,[.dead,.dead,.dead,.dead,.dead]),(false,[.dead])]),sV 48 (Vec.row r20.1),sI 46 v19.Cost,(45,.fad (((Pt.row v19).drop 1))),(44,.fad ((Pt.row v19))),sI 43 y1,sC 42 (cF 8 x1 Pt.row),sV 41 ((Pt.row v18).drop 3),(40,.fad (((Pt.row v18).drop 3))),(39,.fad ((Pt.row v18))),sI 38 y1,sC 37 (cF 8 x1 Pt.row),sB 35 (!v17.Has),sB 34 (!v17.Has),sB 33 v17.Has,(32,.fad (((Pt.row v17).drop 2))),(31,.fad ((Pt.row v17))),sI 30 y1,sC 29 (cF 8 x1 Pt.row),sB 28 false,sB 27 false,sB 26 v16.Up,(25,.fad ((Pt.row v16))),(24,.fad ((Pt.row v16))),sI 23 y1,sC 22 (cF 8 x1 Pt.row),sB 19 (decide (y1 < (x1.length : Int))),sI 18 (x1.length : Int),sC 17 (cF 8 x1 Pt.row),sI 16 y1,sI 9 y1,sI 8 y2,sA 7 7 5 0,sA 6 6 5 0,sI 5 0,sA 4 4 5 0,sI 0 x0,sC 1 (cF 8 x1 Pt.row)],[(10,(Vec.row r20.1)),(7,[cI y3,cI y4,cI y5,cI y6,cI y7]),(6,[cI y8,cI y9,cI y10,cI x0,cI 0]),(4,[cI 0,cI 0,cI 0,cI 0,cI 0])]⟩ kr ?_
     cases h7 : (decide (y2 < 0))
     ·have H := bifF h7 H
      refine lU tOk 2 kr ?_
      obtain ⟨r28,er28,H⟩ := bind_some H
      refine lV tOk [.rd,.rd] [] (spec_LessVec n r20.1 (⟨y3,y4,y5,y6,y7⟩ : Vec) r28 er28) kr kr kr kr (.inl rfl) ?_
      refine uD tOk 2 0x3ffff7fffffcf0ff3 1232 kr kr ?_
      refine Sb.to ⟨78,0,[sB 65 r28,sB 64 r28,sB 63 r28,sV 62 [cI y3,cI y4,cI y5,cI y6,cI y7],sV 61 (Vec.row r20.1),sB 60 false,sB 59 false,sI 58 y2,sB 57 true,sB 56 true,sB 55 true,sI 54 x0,sI 53 r20.1.Root,sA 52 10 5 0,sB 51 true,sB 50 true,sB 11 true,sA 10 10 5 0,sB 49 true,(36,.tup [(true,[.dead,.dead,.dead,.dead,.dead]),(false,[.dead])]),sV 48 (Vec.row r20.1),sI 46 v19.Cost,(45,.fad (((Pt.row v19).drop 1))),(44,.fad ((Pt.row v19))),sI 43 y1,sC 42 (cF 8 x1 Pt.row),sV 41 ((Pt.row v18).drop 3),(40,.fad (((Pt.row v18).drop 3))),(39,.fad ((Pt.row v18))),sI 38 y1,sC 37 (cF 8 x1 Pt.row),sB 35 (!v17.Has),sB 34 (!v17.Has),sB 33 v17.Has,(32,.fad (((Pt.row v17).drop 2))),(31,.fad ((Pt.row v17))),sI 30 y1,sC 29 (cF 8 x1 Pt.row),sB 28 false,sB 27 false,sB 26 v16.Up,(25,.fad ((Pt.row v16))),(24,.fad ((Pt.row v16))),sI 23 y1,sC 22 (cF 8 x1 Pt.row),sB 19 (decide (y1 < (x1.length : Int))),sI 18 (x1.length : Int),sC 17 (cF 8 x1 Pt.row),sI 16 y1,sI 9 y1,sI 8 y2,sA 7 7 5 0,sA 6 6 5 0,sI 5 0,sA 4 4 5 0,sI 0 x0,sC 1 (cF 8 x1 Pt.row)],[(10,(Vec.row r20.1)),(7,[cI y3,cI y4,cI y5,cI y6,cI y7]),(6,[cI y8,cI y9,cI y10,cI x0,cI 0]),(4,[cI 0,cI 0,cI 0,cI 0,cI 0])]⟩ kr ?_
      rw [h1]
      rw [h3]
      exact jn (r28,true,true,true,true,true,true) H (sB_ [65,57,56,51,50,11,10,49,36,48,46,45,44,43,42,41,40,39,38,37,35,34,33,32,31,30,29,28,27,26,25,24,23,22,19,18,17,16,9,8,7,6,5,4,0,1] [10,7,6,4] kr)
     have H := bifT h7 H
     refine uD tOk 5 0x3ffff7fffffcf0ff3 1232 kr kr ?_
     refine Sb.to ⟨78,0,[sB 65 true,sB 64 true,(63,.tup []),(62,.tup []),(61,.tup []),sB 60 true,sB 59 true,sI 58 y2,sB 57 true,sB 56 true,sB 55 true,sI 54 x0,sI 53 r20.1.Root,sA 52 10 5 0,sB 51 true,sB 50 true,sB 11 true,sA 10 10 5 0,sB 49 true,(36,.tup [(true,[.dead,.dead,.dead,.dead,.dead]),(false,[.dead])]),sV 48 (Vec.row r20.1),sI 46 v19.Cost,(45,.fad (((Pt.row v19).drop 1))),(44,.fad ((Pt.row v19))),sI 43 y1,sC 42 (cF 8 x1 Pt.row),sV 41 ((Pt.row v18).drop 3),(40,.fad (((Pt.row v18).drop 3))),(39,.fad ((Pt.row v18))),sI 38 y1,sC 37 (cF 8 x1 Pt.row),sB 35 (!v17.Has),sB 34 (!v17.Has),sB 33 v17.Has,(32,.fad (((Pt.row v17).drop 2))),(31,.fad ((Pt.row v17))),sI 30 y1,sC 29 (cF 8 x1 Pt.row),sB 28 false,sB 27 false,sB 26 v16.Up,(25,.fad ((Pt.row v16))),(24,.fad ((Pt.row v16))),sI 23 y1,sC 22 (cF 8 x1 Pt.row),sB 19 (decide (y1 < (x1.length : Int))),sI 18 (x1.length : Int),sC 17 (cF 8 x1 Pt.row),sI 16 y1,sI 9 y1,sI 8 y2,sA 7 7 5 0,sA 6 6 5 0,sI 5 0,sA 4 4 5 0,sI 0 x0,sC 1 (cF 8 x1 Pt.row)],[(10,(Vec.row r20.1)),(7,[cI y3,cI y4,cI y5,cI y6,cI y7]),(6,[cI y8,cI y9,cI y10,cI x0,cI 0]),(4,[cI 0,cI 0,cI 0,cI 0,cI 0])]⟩ kr ?_
     rw [h1]
     rw [h3]
     exact jn (true,true,true,true,true,true,true) H (sB_ [65,57,56,51,50,11,10,49,36,48,46,45,44,43,42,41,40,39,38,37,35,34,33,32,31,30,29,28,27,26,25,24,23,22,19,18,17,16,9,8,7,6,5,4,0,1] [10,7,6,4] kr)
    rintro ⟨y21,y22,y23,y24,y25,y26,y27⟩ H
    have H : (spec_BestVec_J3 n (fun v => spec_BestVec_L2 n mo15 x0 x1 v.1 v.2.1 v.2.2.1 v.2.2.2.1 v.2.2.2.2.1 v.2.2.2.2.2.1 v.2.2.2.2.2.2.1 v.2.2.2.2.2.2.2.1 v.2.2.2.2.2.2.2.2.1 v.2.2.2.2.2.2.2.2.2) r20 y1 y10 y2 y3 y4 y5 y6 y7 y8 y9 y21 y22 y23 y24 y25 y26 y27) = some o15 := H
    unfold spec_BestVec_J3 at H
    cases h4 : y21
    ·have H := bifF h4 H
     refine tf kr ?_
     refine tK ?_
     refine tE tOk 3 0x2030f7fffffff0ff3 1232 kr kr ?_
     exact jn (mo15,((IntKind.wrap .i64 (y1 + 1)),y2,y3,y4,y5,y6,y7,y8,y9,y10)) H (sM mo15 [9,8,7,6,5,4,0,1] [7,6,4] kr)
    have H := bifT h4 H
    refine tt kr ?_
    refine tG tOk 2 0x6030f7fffffcf0ff3 1232 kr kr ?_
    refine tG tOk 2 0xe030f7fffffcf0ff3 1232 kr kr ?_
    refine tE tOk 9 0xffe030f7fffffcf0ff3 1232 kr kr ?_
    refine tE tOk 3 0xffe030f7fffffff0ff3 1232 kr kr ?_
    exact jn (mo15,((IntKind.wrap .i64 (y1 + 1)),y1,r20.1.Root,r20.1.Cost,r20.1.Hops,r20.1.Bridge,r20.1.Port,r20.1.Root,r20.1.Cost,r20.1.Hops)) H (sM mo15 [9,8,7,6,5,4,0,1] [7,6,4] kr)
   refine tT h3 kr ?_
   refine Tr.exit ?_
   refine And.intro (fun _ => ?_) (fun h => absurd rfl h)
   refine tE tOk 3 68719412211 208 kr kr ?_
   exact jn (mo15,((IntKind.wrap .i64 (y1 + 1)),y2,y3,y4,y5,y6,y7,y8,y9,y10)) H (sM mo15 [9,8,7,6,5,4,0,1] [7,6,4] kr)
  have H := bifT h2 H
  refine uD tOk 7 68716266483 208 kr kr ?_
  refine tt kr ?_
  refine Tr.exit ?_
  refine And.intro (fun _ => ?_) (fun h => absurd rfl h)
  refine tE tOk 3 68719412211 208 kr kr ?_
  exact jn (mo15,((IntKind.wrap .i64 (y1 + 1)),y2,y3,y4,y5,y6,y7,y8,y9,y10)) H (sM mo15 [9,8,7,6,5,4,0,1] [7,6,4] kr)
 rintro ⟨y11,y12,y13,y14⟩ H
 have H : (spec_BestVec_J1 n x0 y11 y12 y13 y14) = some r := H
 unfold spec_BestVec_J1 at H
 refine tG tOk 4 48 16 kr kr ?_
 exact te (by obtain rfl := si H; exact fO [(true,[cI y12,cI y13,cI y14,cI x0,cI 0]),(false,[cI y11])] kr rfl rfl)
def spec_SayVecF (n : Nat) (x0 : Int) (x1 : (List Pt)) (x2 : Int) : Option (Vec) :=
  ((spec_BestVecF n x0 x1).bind fun r1 => (some (⟨r1.1.Root,r1.1.Cost,r1.1.Hops,r1.1.Bridge,x2⟩ : Vec)))
noncomputable abbrev G214 (k : Nat) := Rg Tryz.f214 k
theorem spec_SayVec (n : Nat) (x0 : Int) (x1 : (List Pt)) (x2 : Int) (r : Vec) (H : spec_SayVecF n x0 x1 x2 = some r) : LCall Tryz.prog 214 [.val false [.lit (.int .i64 x0)],.val false [.sl false 8 (CV.frzEs (x1.map Pt.row))],.val false [.lit (.int .i64 x2)]] [.val true (Vec.row r)] [] := by
 refine LCall.of_body tOk Tryz.func214 rfl (c := (.seq (G214 0) (.seq (G214 1) (.seq (G214 2) (.seq (G214 3) .ret))))) kr (Nat.le_of_ble_eq_true kr) 0 (rs := [.cell 6 162]) rfl [] .nil [(true,(Vec.row r))] [] [] fun cx => ?_
 show Tr _ _ _ ⟨18,0,[sI 0 x0,sC 1 (cF 8 x1 Pt.row),sI 2 x2],[]⟩ _
 unfold spec_SayVecF at H
 refine tG tOk 1 71 64 kr kr ?_
 refine rU tOk 2 kr ?_
 obtain ⟨r1,er1,H⟩ := bind_some H
 refine lV tOk [.rd,.rd] [] (spec_BestVec n x0 x1 r1 er1) kr kr kr kr (.inl rfl) ?_
 refine LAt.movT tOk (ty := 240) (t := 12) (d := 9) (g := none) [(true,(Vec.row r1.1)),(false,[cI r1.2])] _ kr (.inl rfl) kr kr kr kr rfl ?_
 refine uD tOk 5 196 192 kr kr ?_
 refine tG tOk 3 192 192 kr kr ?_
 refine tG tOk 2 64 64 kr kr ?_
 exact te (by obtain rfl := si H; exact fO [(true,[cI r1.1.Root,cI r1.1.Cost,cI r1.1.Hops,cI r1.1.Bridge,cI x2])] kr rfl rfl)
def spec_RoleOfF (n : Nat) (x0 : Int) (x1 : (List Pt)) (x2 : Int) : Option (Int) :=
  ((spec_l1InF n x2 0 (IntKind.wrap .i64 ((x1.length : Int) - 1))).bind fun r1 => (bif (!r1) then (some 4) else ((idx x1 x2).bind fun v2 => (bif (!v2.Up) then (some 4) else ((spec_BestVecF n x0 x1).bind fun r3 => (bif (r3.2 == x2) then (some 1) else ((idx x1 x2).bind fun v4 => (bif (!v4.Has) then (some 2) else ((spec_SayVecF n x0 x1 x2).bind fun r5 => ((idx x1 x2).bind fun v6 => ((spec_LessVecF n r5 v6.Heard).bind fun r7 => (bif r7 then (some 2) else (some 3)))))))))))))
noncomputable abbrev G194 (k : Nat) := Rg Tryz.f194 k
noncomputable abbrev D194 (k : Nat) := Rd Tryz.f194 k
theorem spec_RoleOf (n : Nat) (x0 : Int) (x1 : (List Pt)) (x2 : Int) (r : Int) (H : spec_RoleOfF n x0 x1 x2 = some r) : LCall Tryz.prog 194 [.val false [.lit (.int .i64 x0)],.val false [.sl false 8 (CV.frzEs (x1.map Pt.row))],.val false [.lit (.int .i64 x2)]] [.val false [.lit (.int .i64 r)]] [] := by
 refine LCall.of_body tOk Tryz.func194 rfl (c := (.seq (G194 0) (.seq (.seq (G194 1) (.cond (.tmp 22) (.seq (G194 2) .ret) .skip)) (.seq (G194 3) (.seq (.block 0 (.seq (G194 4) (.cond (.tmp 29) (.seq (G194 5) .ret) (.seq (D194 6) (.cond (.tmp 33) (.seq (G194 7) .ret) .skip))))) (.seq (G194 8) .ret)))))) kr (Nat.le_of_ble_eq_true kr) 0 (rs := [.tmp 6]) rfl [] .nil [(false,[.lit (.int .i64 r)])] [] [] fun cx => ?_
 show Tr _ _ _ ⟨52,0,[sI 0 x0,sC 1 (cF 8 x1 Pt.row),sI 2 x2],[]⟩ _
 unfold spec_RoleOfF at H
 refine tG tOk 1 7 0 kr kr ?_
 refine tS ?_
 refine rU tOk 2 kr ?_
 refine lL tOk 52 3 182 10 11 none ⟨(.slot 10),[],0,false,8,(CV.frzEs (x1.map Pt.row))⟩ (x1).length _ kr kr kr kr kr (frz_len _ _) rfl ?_
 refine lU tOk 1 kr ?_
 obtain ⟨r1,er1,H⟩ := bind_some H
 refine lV tOk [.rd,.rd,.rd] [] (spec_l1In n x2 0 (IntKind.wrap .i64 ((x1.length : Int) - 1)) r1 er1) kr kr kr kr (.inl rfl) ?_
 refine lU tOk 2 kr ?_
 refine lT ⟨52,0,[sB 15 (!r1),sB 14 (!r1),sB 13 r1,sI 12 (IntKind.wrap .i64 ((x1.length : Int) - 1)),sI 11 (x1.length : Int),sC 10 (cF 8 x1 Pt.row),sI 9 x2,sI 0 x0,sC 1 (cF 8 x1 Pt.row),sI 2 x2],[]⟩ kr ?_
 cases h1 : (!r1)
 ·have H := bifF h1 H
  refine lU tOk 2 kr ?_
  obtain ⟨v2,ev2,H⟩ := bind_some H
  refine lI tOk 52 0 16 17 18 (some (6,false)) ⟨(.slot 16),[],0,false,8,(CV.frzEs (x1.map Pt.row))⟩ x2 (Pt.row v2) _ kr kr kr kr rfl (idx_isF ev2) rfl ?_
  refine uD tOk 4 4194311 0 kr kr ?_
  obtain ⟨h2,H⟩ | ⟨h2,H⟩ := bC H
  ·refine tF h2 kr ?_
   refine tK ?_
   refine rU tOk 2 kr ?_
   obtain ⟨r3,er3,H⟩ := bind_some H
   refine lV tOk [.rd,.rd] [] (spec_BestVec n x0 x1 r3 er3) kr kr kr kr (.inl rfl) ?_
   refine LAt.movT tOk (ty := 240) (t := 26) (d := 23) (g := none) [(true,(Vec.row r3.1)),(false,[cI r3.2])] _ kr (.inl rfl) kr kr kr kr rfl ?_
   refine uD tOk 5 263 0 kr kr ?_
   refine tS ?_
   refine tB ?_
   refine tG tOk 4 536870919 0 kr kr ?_
   obtain ⟨h3,H⟩ | ⟨h3,H⟩ := bC H
   ·refine tF h3 kr ?_
    obtain ⟨v4,ev4,H⟩ := bind_some H
    refine tO ⟨52,0,[sB 29 (r3.2 == x2),sI 0 x0,sC 1 (cF 8 x1 Pt.row),sI 2 x2],[]⟩ kr ?_
    cases h4 : (!v4.Has)
    ·have H := bifF h4 H
     obtain ⟨r5,er5,H⟩ := bind_some H
     obtain ⟨v6,ev6,H⟩ := bind_some H
     obtain ⟨r7,er7,H⟩ := bind_some H
     refine Tr.draws mixed 19 kr ⟨52,0,[sB 33 r7],[]⟩ (fun cx => ?_) ?_
     ·refine aU tOk [(0,[]),(1,[])] 17 [] [1,0] rfl kr (fun cx => ?_)
      refine aI tOk 2 52 0 34 35 36 none ⟨(.slot 34),[],0,false,8,(CV.frzEs (x1.map Pt.row))⟩ x2 (Pt.row v4) _ kr kr kr kr kr kr rfl (idx_isF ev4) rfl (fun cx => ?_)
      refine aU tOk [(3,[]),(4,[]),(5,[]),(6,[])] 12 [] [6,5,4,3,2,1,0] rfl kr (fun cx => ?_)
      refine aT ⟨52,0,[sB 40 (!v4.Has),sB 39 (!v4.Has),sB 38 v4.Has,(37,.fad (((Pt.row v4).drop 2))),(36,.fad ((Pt.row v4))),sI 35 x2,sC 34 (cF 8 x1 Pt.row),sB 29 (r3.2 == x2),sI 0 x0,sC 1 (cF 8 x1 Pt.row),sI 2 x2],[]⟩ kr ?_
      rw [h4]
      refine aU tOk [(7,[]),(8,[]),(9,[]),(11,[]),(12,[])] 7 [] [12,11,9,8,7,6,5,4,3,2,1,0] rfl kr (fun cx => ?_)
      refine aI tOk 13 52 0 45 46 47 (some (6,false)) ⟨(.slot 45),[],0,false,8,(CV.frzEs (x1.map Pt.row))⟩ x2 (Pt.row v6) _ kr kr kr kr kr kr rfl (idx_isF ev6) rfl (fun cx => ?_)
      refine aU tOk [(14,[]),(15,[])] 4 [] [15,14,13,12,11,9,8,7,6,5,4,3,2,1,0] rfl kr (fun cx => ?_)
      refine AT.big1 tOk 10 kr kr ?_
      refine lV tOk [.rd,.rd,.rd] [] (spec_SayVec n x0 x1 x2 r5 er5) kr kr kr kr (.inl rfl) ?_
      refine lF kr kr kr ?_
      refine AT.big1 tOk 16 kr kr ?_
      refine lV tOk [.rd,.rd] [] (spec_LessVec n r5 v6.Heard r7 er7) kr kr kr kr (.inl rfl) ?_
      refine lF kr kr kr ?_
      refine aU tOk [(17,[]),(18,[])] 0 [] [18,17,16,10,15,14,13,12,11,9,8,7,6,5,4,3,2,1,0] rfl kr (fun cx => ?_)
      exact AT.done [33] [] _ kr kr rfl
     cases h5 : r7
     ·have H := bifF h5 H
      refine tf kr ?_
      refine tK ?_
      refine tG tOk 1 64 0 kr kr ?_
      exact te (by obtain rfl := si H; exact fO [(false,[cI 3])] kr rfl rfl)
     have H := bifT h5 H
     refine tt kr ?_
     refine tG tOk 1 64 0 kr kr ?_
     exact te (by obtain rfl := si H; exact fO [(false,[cI 2])] kr rfl rfl)
    have H := bifT h4 H
    refine Tr.draws mixed 19 kr ⟨52,0,[sB 33 true],[]⟩ (fun cx => ?_) ?_
    ·refine aU tOk [(0,[]),(1,[])] 17 [] [1,0] rfl kr (fun cx => ?_)
     refine aI tOk 2 52 0 34 35 36 none ⟨(.slot 34),[],0,false,8,(CV.frzEs (x1.map Pt.row))⟩ x2 (Pt.row v4) _ kr kr kr kr kr kr rfl (idx_isF ev4) rfl (fun cx => ?_)
     refine aU tOk [(3,[]),(4,[]),(5,[]),(6,[])] 12 [] [6,5,4,3,2,1,0] rfl kr (fun cx => ?_)
     refine aT ⟨52,0,[sB 40 (!v4.Has),sB 39 (!v4.Has),sB 38 v4.Has,(37,.fad (((Pt.row v4).drop 2))),(36,.fad ((Pt.row v4))),sI 35 x2,sC 34 (cF 8 x1 Pt.row),sB 29 (r3.2 == x2),sI 0 x0,sC 1 (cF 8 x1 Pt.row),sI 2 x2],[]⟩ kr ?_
     rw [h4]
     refine aU tOk [(7,[]),(8,[]),(9,[]),(10,[]),(11,[]),(12,[]),(13,[]),(14,[]),(15,[]),(16,[]),(17,[]),(18,[])] 0 [] [18,17,16,15,14,13,12,11,10,9,8,7,6,5,4,3,2,1,0] rfl kr (fun cx => ?_)
     exact AT.done [33] [] _ kr kr rfl
    refine tt kr ?_
    refine tG tOk 1 64 0 kr kr ?_
    exact te (by obtain rfl := si H; exact fO [(false,[cI 2])] kr rfl rfl)
   refine tT h3 kr ?_
   refine tG tOk 1 64 0 kr kr ?_
   exact te (by obtain rfl := si H; exact fO [(false,[cI 1])] kr rfl rfl)
  refine tT h2 kr ?_
  refine tG tOk 1 64 0 kr kr ?_
  exact te (by obtain rfl := si H; exact fO [(false,[cI 4])] kr rfl rfl)
 have H := bifT h1 H
 refine uD tOk 7 4194311 0 kr kr ?_
 refine tt kr ?_
 refine tG tOk 1 64 0 kr kr ?_
 exact te (by obtain rfl := si H; exact fO [(false,[cI 4])] kr rfl rfl)
def spec_Sends_J1 (n : Nat) (y3 : Int) : Option (Int) :=
  (some y3)
def spec_Sends_L2 (n : Nat) : Nat → Int → (List Pt) → Int → Int → Option ((Int) ⊕ (Int))
  | 0,_,_,_,_ => none
  | mo4 + 1,x0,x1,y1,y2 => (bif (decide (y1 < (x1.length : Int))) then (bif (decide (y1 < 6)) then ((spec_RoleOfF n x0 x1 y1).bind fun r5 => (bif (decide (r5 ≤ 2)) then (bif (decide ((0 : Int) ≤ (IntKind.wrap .u64 y1))) then (spec_Sends_L2 n mo4 x0 x1 (IntKind.wrap .i64 (y1 + 1)) (IntKind.wrap .i64 (BitVec.ofInt (IntKind.bits .i64) y2 ||| BitVec.ofInt (IntKind.bits .i64) (IntKind.wrap .i64 (1 * 2 ^ min (((IntKind.wrap .u64 y1) : Int)).toNat (IntKind.bits .i64)))).toNat)) else none) else (spec_Sends_L2 n mo4 x0 x1 (IntKind.wrap .i64 (y1 + 1)) y2))) else (some (Sum.inl y2))) else (some (Sum.inl y2)))
def spec_SendsF (n : Nat) (x0 : Int) (x1 : (List Pt)) : Option (Int) :=
  ((spec_Sends_L2 n n x0 x1 0 0).bind fun o => match o with | .inl y3 => (spec_Sends_J1 n y3) | .inr r => some r)
noncomputable abbrev G98 (k : Nat) := Rg Tryz.f98 k
theorem spec_Sends (n : Nat) (x0 : Int) (x1 : (List Pt)) (r : Int) (H : spec_SendsF n x0 x1 = some r) : LCall Tryz.prog 98 [.val false [.lit (.int .i64 x0)],.val false [.sl false 8 (CV.frzEs (x1.map Pt.row))]] [.val false [.lit (.int .i64 r)]] [] := by
 refine LCall.of_body tOk Tryz.func98 rfl (c := (.seq (G98 0) (.seq (G98 1) (.seq (.seq (G98 2) (.block 0 (.loop (.seq (.seq (G98 3) (.cond (.tmp 14) .skip (.exit 0))) (.seq (.block 1 (.seq (G98 5) (.cond (.tmp 21) (G98 6) .skip))) (G98 4)))))) (.seq (G98 7) .ret))))) kr (Nat.le_of_ble_eq_true kr) 0 (rs := [.tmp 4]) rfl [] .nil [(false,[.lit (.int .i64 r)])] [] [] fun cx => ?_
 show Tr _ _ _ ⟨28,0,[sI 0 x0,sC 1 (cF 8 x1 Pt.row)],[]⟩ _
 unfold spec_SendsF at H
 refine tG tOk 1 3 0 kr kr ?_
 refine tG tOk 1 35 0 kr kr ?_
 refine tS ?_
 refine tG tOk 1 99 0 kr kr ?_
 obtain ⟨o4,eo4,Ho4⟩ := bind_some H
 clear H
 refine Tr.mid (ι := Int) (fun v => ⟨28,0,[sI 5 v],[]⟩) (fun v => spec_Sends_J1 n v = some r) ?_ ?_
 ·refine tB ?_
  refine Tr.loop (ι := Nat × (Int × Int)) (fun v => ⟨28,0,[sI 6 v.2.1,sI 5 v.2.2,sI 0 x0,sC 1 (cF 8 x1 Pt.row)],[]⟩) (fun v => spec_Sends_L2 n v.1 x0 x1 v.2.1 v.2.2 = some o4) (fun v => v.1) (n,(0,0)) eo4 (St.sub_of [6,5,0,1] [] kr) ?_
  rintro ⟨mo4,y1,y2⟩ H
  have H : spec_Sends_L2 n mo4 x0 x1 y1 y2 = some o4 := H
  obtain _ | mo4 := mo4
  ·cases (show (none : Option _) = some o4 from H)
  rw [spec_Sends_L2] at H
  refine tS ?_
  refine rU tOk 2 kr ?_
  refine lL tOk 52 3 182 8 9 none ⟨(.slot 8),[],0,false,8,(CV.frzEs (x1.map Pt.row))⟩ (x1).length _ kr kr kr kr kr (frz_len _ _) rfl ?_
  refine lU tOk 2 kr ?_
  refine lT ⟨28,0,[sB 11 (decide (y1 < (x1.length : Int))),sB 10 (decide (y1 < (x1.length : Int))),sI 9 (x1.length : Int),sC 8 (cF 8 x1 Pt.row),sI 7 y1,sI 6 y1,sI 5 y2,sI 0 x0,sC 1 (cF 8 x1 Pt.row)],[]⟩ kr ?_
  cases h1 : (decide (y1 < (x1.length : Int)))
  ·have H := bifF h1 H
   refine uD tOk 3 16483 0 kr kr ?_
   refine tf kr ?_
   refine Tr.exit ?_
   refine And.intro (fun _ => ?_) (fun h => absurd rfl h)
   obtain rfl := si H
   have H := Ho4
   dsimp only at H
   exact jn y2 H (sB_ [5] [] kr)
  have H := bifT h1 H
  refine uD tOk 3 16483 0 kr kr ?_
  obtain ⟨h2,H⟩ | ⟨h2,H⟩ := bC H
  ·refine tF h2 kr ?_
   refine Tr.exit ?_
   refine And.intro (fun _ => ?_) (fun h => absurd rfl h)
   obtain rfl := si H
   have H := Ho4
   dsimp only at H
   exact jn y2 H (sB_ [5] [] kr)
  refine tT h2 kr ?_
  refine tK ?_
  refine tS ?_
  refine tB ?_
  refine rU tOk 3 kr ?_
  obtain ⟨r5,er5,H⟩ := bind_some H
  refine lV tOk [.rd,.rd,.rd] [] (spec_RoleOf n x0 x1 y1 r5 er5) kr kr kr kr (.inl rfl) ?_
  refine uD tOk 1 2097251 0 kr kr ?_
  obtain ⟨h3,H⟩ | ⟨h3,H⟩ := bC H
  ·refine tF h3 kr ?_
   refine tK ?_
   refine tE tOk 3 99 0 kr kr ?_
   exact jn (mo4,((IntKind.wrap .i64 (y1 + 1)),y2)) H (sM mo4 [6,5,0,1] [] kr)
  refine tT h3 kr ?_
  refine Tr.at ?_
  refine lU tOk 3 kr ?_
  obtain ⟨hg6,H⟩ := guard_some H
  refine LAt.binC tOk (op := .shl) (t := 3) (ty := 145) (ty' := 3) (x := (.const (.int .i64 1))) (y := (.tmp 24)) (d := 25) (g := none) (.int .i64 1) (.int .u64 (IntKind.wrap .u64 y1)) (.int .i64 (IntKind.wrap .i64 (1 * 2 ^ min (((IntKind.wrap .u64 y1) : Int)).toNat (IntKind.bits .i64)))) _ kr kr kr kr kr (φ := (0 : Int) ≤ (IntKind.wrap .u64 y1)) kr (of_decide_eq_true hg6) rfl ?_
  refine uD tOk 2 99 0 kr kr ?_
  refine tE tOk 3 99 0 kr kr ?_
  exact jn (mo4,((IntKind.wrap .i64 (y1 + 1)),(IntKind.wrap .i64 (BitVec.ofInt (IntKind.bits .i64) y2 ||| BitVec.ofInt (IntKind.bits .i64) (IntKind.wrap .i64 (1 * 2 ^ min (((IntKind.wrap .u64 y1) : Int)).toNat (IntKind.bits .i64)))).toNat))) H (sM mo4 [6,5,0,1] [] kr)
 rintro y3 H
 have H : (spec_Sends_J1 n y3) = some r := H
 unfold spec_Sends_J1 at H
 refine tG tOk 2 16 0 kr kr ?_
 exact te (by obtain rfl := si H; exact fO [(false,[cI y3])] kr rfl rfl)
def spec_l9BitF (n : Nat) (x0 : Int) (x1 : Int) : Option (Bool) :=
  ((spec_l1InF n x1 0 7).bind fun r1 => (bif r1 then (bif (decide ((0 : Int) ≤ (IntKind.wrap .u64 x1))) then (some ((IntKind.wrap .i64 (BitVec.ofInt (IntKind.bits .i64) (Int.fdiv x0 (2 ^ min (((IntKind.wrap .u64 x1) : Int)).toNat (IntKind.bits .i64))) &&& BitVec.ofInt (IntKind.bits .i64) 1).toNat) == 1)) else none) else (some false)))
noncomputable abbrev G100 (k : Nat) := Rg Tryz.f100 k
theorem spec_l9Bit (n : Nat) (x0 : Int) (x1 : Int) (r : Bool) (H : spec_l9BitF n x0 x1 = some r) : LCall Tryz.prog 100 [.val false [.lit (.int .i64 x0)],.val false [.lit (.int .i64 x1)]] [.val false [.lit (.bool r)]] [] := by
 refine LCall.of_body tOk Tryz.func100 rfl (c := (.seq (G100 0) (.seq (G100 1) .ret))) kr (Nat.le_of_ble_eq_true kr) 0 (rs := [.tmp 4]) rfl [] .nil [(false,[.lit (.bool r)])] [] [] fun cx => ?_
 show Tr _ _ _ ⟨15,0,[sI 0 x0,sI 1 x1],[]⟩ _
 unfold spec_l9BitF at H
 refine tG tOk 1 3 0 kr kr ?_
 refine rU tOk 1 kr ?_
 obtain ⟨r1,er1,H⟩ := bind_some H
 refine lV tOk [.rd,.rd,.rd] [] (spec_l1In n x1 0 7 r1 er1) kr kr kr kr (.inl rfl) ?_
 refine lU tOk 1 kr ?_
 refine lT ⟨15,0,[sB 7 r1,sB 6 r1,sI 5 x1,sI 0 x0,sI 1 x1],[]⟩ kr ?_
 cases h1 : r1
 ·have H := bifF h1 H
  refine uD tOk 8 16 0 kr kr ?_
  exact te (by obtain rfl := si H; exact fO [(false,[cB false])] kr rfl rfl)
 have H := bifT h1 H
 refine lU tOk 3 kr ?_
 obtain ⟨hg2,H⟩ := guard_some H
 refine LAt.binC tOk (op := .shr) (t := 3) (ty := 145) (ty' := 3) (x := (.tmp 8)) (y := (.tmp 10)) (d := 11) (g := (some (2,true))) (.int .i64 x0) (.int .u64 (IntKind.wrap .u64 x1)) (.int .i64 (Int.fdiv x0 (2 ^ min (((IntKind.wrap .u64 x1) : Int)).toNat (IntKind.bits .i64)))) _ kr kr kr kr kr (φ := (0 : Int) ≤ (IntKind.wrap .u64 x1)) kr (of_decide_eq_true hg2) rfl ?_
 refine uD tOk 4 16 0 kr kr ?_
 exact te (by obtain rfl := si H; exact fO [(false,[cB ((IntKind.wrap .i64 (BitVec.ofInt (IntKind.bits .i64) (Int.fdiv x0 (2 ^ min (((IntKind.wrap .u64 x1) : Int)).toNat (IntKind.bits .i64))) &&& BitVec.ofInt (IntKind.bits .i64) 1).toNat) == 1)])] kr rfl rfl)
end Go.Proofs.YtibocmoaaahjfaaGreat.Tw
