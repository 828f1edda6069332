/- Functions of the program, over trees. -/
import Derived.Test.YtjdedhklbdkeoaaProg
import Derived.Test.YtjdedhklbdkeoaaTlRule
import Derived.Test.YtjdedhklbdkeoaaTlU5
import Derived.WalkKit
set_option linter.unusedVariables false
set_option linter.unusedSimpArgs false
set_option maxRecDepth 100000
set_option maxHeartbeats 1000000
namespace Go.Proofs.Ytjdedhklbdkeoaa.Tw
open Go Go.TL Go.Proofs
def tab : List (Nat × TI) := [(2, ⟨.int .i64, 1, 8, [.lit (.int .i64 0)]⟩),
  (3, ⟨.int .i64, 1, 8, [.lit (.int .i64 0)]⟩),
  (4, ⟨.bool, 1, 1, [.lit (.bool false)]⟩),
  (5, ⟨.int .u8, 1, 1, [.lit (.int .u8 0)]⟩),
  (6, ⟨.int .u8, 1, 1, [.lit (.int .u8 0)]⟩),
  (7, ⟨.st [(0, 1, 2), (1, 1, 3), (2, 1, 4), (3, 1, 6)], 4, 24, [.lit (.int .i64 0), .lit (.int .i64 0), .lit (.bool false), .lit (.int .u8 0)]⟩),
  (8, ⟨.st [(0, 1, 2), (1, 1, 3), (2, 1, 4), (3, 1, 6)], 4, 24, [.lit (.int .i64 0), .lit (.int .i64 0), .lit (.bool false), .lit (.int .u8 0)]⟩),
  (9, ⟨.str, 1, 16, [.lit (.string ⟨#[]⟩)]⟩),
  (22, ⟨.sl 53, 1, 24, [.sl true 11 []]⟩),
  (23, ⟨.sl 146, 1, 24, [.sl true 4 []]⟩),
  (24, ⟨.sl 149, 1, 24, [.sl true 7 []]⟩),
  (26, ⟨.st [(0, 1, 22), (1, 1, 23), (2, 1, 24)], 3, 72, [.sl true 11 [], .sl true 4 [], .sl true 7 []]⟩),
  (27, ⟨.sl 3, 1, 24, [.sl true 1 []]⟩),
  (30, ⟨.sl 61, 1, 24, [.sl true 11 []]⟩),
  (31, ⟨.sl 96, 1, 24, [.sl true 4 []]⟩),
  (32, ⟨.sl 116, 1, 24, [.sl true 7 []]⟩),
  (34, ⟨.st [(0, 1, 30), (1, 1, 31), (2, 1, 32)], 3, 72, [.sl true 11 [], .sl true 4 [], .sl true 7 []]⟩),
  (47, ⟨.sl 169, 1, 24, [.sl true 8 []]⟩),
  (48, ⟨.sl 171, 1, 24, [.sl true 5 []]⟩),
  (49, ⟨.sl 187, 1, 24, [.sl true 3 []]⟩),
  (51, ⟨.st [(0, 1, 49), (1, 1, 27)], 2, 48, [.sl true 3 [], .sl true 1 []]⟩),
  (53, ⟨.st [(0, 1, 3), (1, 1, 9), (2, 1, 47), (3, 1, 48), (4, 2, 51), (6, 1, 3), (7, 1, 3), (8, 1, 3), (9, 1, 3), (10, 1, 3)], 11, 160, [.lit (.int .i64 0), .lit (.string ⟨#[]⟩), .sl true 8 [], .sl true 5 [], .sl true 3 [], .sl true 1 [], .lit (.int .i64 0), .lit (.int .i64 0), .lit (.int .i64 0), .lit (.int .i64 0), .lit (.int .i64 0)]⟩),
  (55, ⟨.sl 114, 1, 24, [.sl true 8 []]⟩),
  (56, ⟨.sl 141, 1, 24, [.sl true 5 []]⟩),
  (57, ⟨.sl 138, 1, 24, [.sl true 3 []]⟩),
  (59, ⟨.st [(0, 1, 57), (1, 1, 27)], 2, 48, [.sl true 3 [], .sl true 1 []]⟩),
  (61, ⟨.st [(0, 1, 3), (1, 1, 9), (2, 1, 55), (3, 1, 56), (4, 2, 59), (6, 1, 3), (7, 1, 3), (8, 1, 3), (9, 1, 3), (10, 1, 3)], 11, 160, [.lit (.int .i64 0), .lit (.string ⟨#[]⟩), .sl true 8 [], .sl true 5 [], .sl true 3 [], .sl true 1 [], .lit (.int .i64 0), .lit (.int .i64 0), .lit (.int .i64 0), .lit (.int .i64 0), .lit (.int .i64 0)]⟩),
  (68, ⟨.st [(0, 1, 3), (1, 1, 3), (2, 1, 3), (3, 1, 3), (4, 1, 3)], 5, 40, [.lit (.int .i64 0), .lit (.int .i64 0), .lit (.int .i64 0), .lit (.int .i64 0), .lit (.int .i64 0)]⟩),
  (70, ⟨.st [(0, 1, 3), (1, 1, 3), (2, 1, 3), (3, 1, 3), (4, 1, 3)], 5, 40, [.lit (.int .i64 0), .lit (.int .i64 0), .lit (.int .i64 0), .lit (.int .i64 0), .lit (.int .i64 0)]⟩),
  (96, ⟨.st [(0, 1, 3), (1, 1, 3), (2, 1, 3), (3, 1, 3)], 4, 32, [.lit (.int .i64 0), .lit (.int .i64 0), .lit (.int .i64 0), .lit (.int .i64 0)]⟩),
  (114, ⟨.st [(0, 1, 4), (1, 1, 3), (2, 1, 4), (3, 5, 70)], 8, 64, [.lit (.bool false), .lit (.int .i64 0), .lit (.bool false), .lit (.int .i64 0), .lit (.int .i64 0), .lit (.int .i64 0), .lit (.int .i64 0), .lit (.int .i64 0)]⟩),
  (116, ⟨.st [(0, 1, 3), (1, 1, 4), (2, 5, 70)], 7, 56, [.lit (.int .i64 0), .lit (.bool false), .lit (.int .i64 0), .lit (.int .i64 0), .lit (.int .i64 0), .lit (.int .i64 0), .lit (.int .i64 0)]⟩),
  (138, ⟨.st [(0, 1, 3), (1, 1, 3), (2, 1, 3)], 3, 24, [.lit (.int .i64 0), .lit (.int .i64 0), .lit (.int .i64 0)]⟩),
  (141, ⟨.st [(0, 1, 3), (1, 1, 3), (2, 1, 3), (3, 1, 3), (4, 1, 4)], 5, 40, [.lit (.int .i64 0), .lit (.int .i64 0), .lit (.int .i64 0), .lit (.int .i64 0), .lit (.bool false)]⟩),
  (146, ⟨.st [(0, 1, 3), (1, 1, 3), (2, 1, 3), (3, 1, 3)], 4, 32, [.lit (.int .i64 0), .lit (.int .i64 0), .lit (.int .i64 0), .lit (.int .i64 0)]⟩),
  (149, ⟨.st [(0, 1, 3), (1, 1, 4), (2, 5, 68)], 7, 56, [.lit (.int .i64 0), .lit (.bool false), .lit (.int .i64 0), .lit (.int .i64 0), .lit (.int .i64 0), .lit (.int .i64 0), .lit (.int .i64 0)]⟩),
  (169, ⟨.st [(0, 1, 4), (1, 1, 3), (2, 1, 4), (3, 5, 68)], 8, 64, [.lit (.bool false), .lit (.int .i64 0), .lit (.bool false), .lit (.int .i64 0), .lit (.int .i64 0), .lit (.int .i64 0), .lit (.int .i64 0), .lit (.int .i64 0)]⟩),
  (171, ⟨.st [(0, 1, 3), (1, 1, 3), (2, 1, 3), (3, 1, 3), (4, 1, 4)], 5, 40, [.lit (.int .i64 0), .lit (.int .i64 0), .lit (.int .i64 0), .lit (.int .i64 0), .lit (.bool false)]⟩),
  (179, ⟨.sl 5, 1, 24, [.sl true 1 []]⟩),
  (187, ⟨.st [(0, 1, 3), (1, 1, 3), (2, 1, 3)], 3, 24, [.lit (.int .i64 0), .lit (.int .i64 0), .lit (.int .i64 0)]⟩)]
theorem mixed : Try.prog.follows .mixedOrders = true := by kernel_rfl
theorem tOk : TOk Try.prog (lk tab) := tok_of (by kernel_rfl)

structure Vec where
  Root : Int
  Cost : Int
  Hops : Int
  Bridge : Int
  Port : Int
def Vec.row (v : Vec) : List CV := [.lit (.int .i64 v.Root), .lit (.int .i64 v.Cost), .lit (.int .i64 v.Hops), .lit (.int .i64 v.Bridge), .lit (.int .i64 v.Port)]
def Vec.wf (v : Vec) : Prop := intWf v.Root ∧ intWf v.Cost ∧ intWf v.Hops ∧ intWf v.Bridge ∧ intWf v.Port ∧ True
theorem Vec.enc : Enc Vec [.int .i64, .int .i64, .int .i64, .int .i64, .int .i64] Vec.row Vec.wf := fun cs h => by
  obtain ⟨c0, r0, rfl, k0, h⟩ := fitR_cons h
  obtain ⟨c1, r1, rfl, k1, h⟩ := fitR_cons h
  obtain ⟨c2, r2, rfl, k2, h⟩ := fitR_cons h
  obtain ⟨c3, r3, rfl, k3, h⟩ := fitR_cons h
  obtain ⟨c4, r4, rfl, k4, h⟩ := fitR_cons h
  obtain rfl := fitR_nil h
  obtain ⟨x0, rfl, w0⟩ := fitC_int k0
  obtain ⟨x1, rfl, w1⟩ := fitC_int k1
  obtain ⟨x2, rfl, w2⟩ := fitC_int k2
  obtain ⟨x3, rfl, w3⟩ := fitC_int k3
  obtain ⟨x4, rfl, w4⟩ := fitC_int k4
  exact ⟨⟨x0, x1, x2, x3, x4⟩, rfl, ⟨w0, w1, w2, w3, w4, trivial⟩⟩
theorem Vec.row_mine (v : Vec) : CV.mineRow (Vec.row v) := mine_cons mine_lit (mine_cons mine_lit (mine_cons mine_lit (mine_cons mine_lit (mine_cons mine_lit (mine_nil)))))

structure Pt where
  Up : Bool
  Cost : Int
  Has : Bool
  Heard : Vec
def Pt.row (v : Pt) : List CV := [.lit (.bool v.Up), .lit (.int .i64 v.Cost), .lit (.bool v.Has), .lit (.int .i64 v.Heard.Root), .lit (.int .i64 v.Heard.Cost), .lit (.int .i64 v.Heard.Hops), .lit (.int .i64 v.Heard.Bridge), .lit (.int .i64 v.Heard.Port)]
def Pt.wf (v : Pt) : Prop := intWf v.Cost ∧ intWf v.Heard.Root ∧ intWf v.Heard.Cost ∧ intWf v.Heard.Hops ∧ intWf v.Heard.Bridge ∧ intWf v.Heard.Port ∧ True
theorem Pt.enc : Enc Pt [.bool, .int .i64, .bool, .int .i64, .int .i64, .int .i64, .int .i64, .int .i64] Pt.row Pt.wf := fun cs h => by
  obtain ⟨c0, r0, rfl, k0, h⟩ := fitR_cons h
  obtain ⟨c1, r1, rfl, k1, h⟩ := fitR_cons h
  obtain ⟨c2, r2, rfl, k2, h⟩ := fitR_cons h
  obtain ⟨c3, r3, rfl, k3, h⟩ := fitR_cons h
  obtain ⟨c4, r4, rfl, k4, h⟩ := fitR_cons h
  obtain ⟨c5, r5, rfl, k5, h⟩ := fitR_cons h
  obtain ⟨c6, r6, rfl, k6, h⟩ := fitR_cons h
  obtain ⟨c7, r7, rfl, k7, h⟩ := fitR_cons h
  obtain rfl := fitR_nil h
  obtain ⟨x0, rfl⟩ := fitC_bool k0
  obtain ⟨x1, rfl, w1⟩ := fitC_int k1
  obtain ⟨x2, rfl⟩ := fitC_bool k2
  obtain ⟨x3, rfl, w3⟩ := fitC_int k3
  obtain ⟨x4, rfl, w4⟩ := fitC_int k4
  obtain ⟨x5, rfl, w5⟩ := fitC_int k5
  obtain ⟨x6, rfl, w6⟩ := fitC_int k6
  obtain ⟨x7, rfl, w7⟩ := fitC_int k7
  exact ⟨⟨x0, x1, x2, ⟨x3, x4, x5, x6, x7⟩⟩, rfl, ⟨w1, w3, w4, w5, w6, w7, trivial⟩⟩
theorem Pt.row_mine (v : Pt) : CV.mineRow (Pt.row v) := mine_cons mine_lit (mine_cons mine_lit (mine_cons mine_lit (mine_cons mine_lit (mine_cons mine_lit (mine_cons mine_lit (mine_cons mine_lit (mine_cons mine_lit (mine_nil))))))))

structure Fent where
  Tag : Int
  Mac : Int
  Port : Int
  Age : Int
  Static : Bool
def Fent.row (v : Fent) : List CV := [.lit (.int .i64 v.Tag), .lit (.int .i64 v.Mac), .lit (.int .i64 v.Port), .lit (.int .i64 v.Age), .lit (.bool v.Static)]
def Fent.wf (v : Fent) : Prop := intWf v.Tag ∧ intWf v.Mac ∧ intWf v.Port ∧ intWf v.Age ∧ True
theorem Fent.enc : Enc Fent [.int .i64, .int .i64, .int .i64, .int .i64, .bool] Fent.row Fent.wf := fun cs h => by
  obtain ⟨c0, r0, rfl, k0, h⟩ := fitR_cons h
  obtain ⟨c1, r1, rfl, k1, h⟩ := fitR_cons h
  obtain ⟨c2, r2, rfl, k2, h⟩ := fitR_cons h
  obtain ⟨c3, r3, rfl, k3, h⟩ := fitR_cons h
  obtain ⟨c4, r4, rfl, k4, h⟩ := fitR_cons h
  obtain rfl := fitR_nil h
  obtain ⟨x0, rfl, w0⟩ := fitC_int k0
  obtain ⟨x1, rfl, w1⟩ := fitC_int k1
  obtain ⟨x2, rfl, w2⟩ := fitC_int k2
  obtain ⟨x3, rfl, w3⟩ := fitC_int k3
  obtain ⟨x4, rfl⟩ := fitC_bool k4
  exact ⟨⟨x0, x1, x2, x3, x4⟩, rfl, ⟨w0, w1, w2, w3, trivial⟩⟩
theorem Fent.row_mine (v : Fent) : CV.mineRow (Fent.row v) := mine_cons mine_lit (mine_cons mine_lit (mine_cons mine_lit (mine_cons mine_lit (mine_cons mine_lit (mine_nil)))))

structure Vrow where
  Id : Int
  Members : Int
  Bare : Int
def Vrow.row (v : Vrow) : List CV := [.lit (.int .i64 v.Id), .lit (.int .i64 v.Members), .lit (.int .i64 v.Bare)]
def Vrow.wf (v : Vrow) : Prop := intWf v.Id ∧ intWf v.Members ∧ intWf v.Bare ∧ True
theorem Vrow.enc : Enc Vrow [.int .i64, .int .i64, .int .i64] Vrow.row Vrow.wf := fun cs h => by
  obtain ⟨c0, r0, rfl, k0, h⟩ := fitR_cons h
  obtain ⟨c1, r1, rfl, k1, h⟩ := fitR_cons h
  obtain ⟨c2, r2, rfl, k2, h⟩ := fitR_cons h
  obtain rfl := fitR_nil h
  obtain ⟨x0, rfl, w0⟩ := fitC_int k0
  obtain ⟨x1, rfl, w1⟩ := fitC_int k1
  obtain ⟨x2, rfl, w2⟩ := fitC_int k2
  exact ⟨⟨x0, x1, x2⟩, rfl, ⟨w0, w1, w2, trivial⟩⟩
theorem Vrow.row_mine (v : Vrow) : CV.mineRow (Vrow.row v) := mine_cons mine_lit (mine_cons mine_lit (mine_cons mine_lit (mine_nil)))

structure Vtab where
  Rows : (List Vrow)
  Pvid : (List Int)
def Vtab.row (v : Vtab) : List CV := [.sl true 3 (v.Rows.map Vrow.row), .sl true 1 (v.Pvid.map intRow)]
def Vtab.wf (v : Vtab) : Prop := listWf Vrow.wf v.Rows ∧ listWf intWf v.Pvid ∧ True
theorem Vtab.enc : Enc Vtab [.sl 3 [.int .i64, .int .i64, .int .i64], .sl 1 [.int .i64]] Vtab.row Vtab.wf := fun cs h => by
  obtain ⟨c0, r0, rfl, k0, h⟩ := fitR_cons h
  obtain ⟨c1, r1, rfl, k1, h⟩ := fitR_cons h
  obtain rfl := fitR_nil h
  obtain ⟨x0, rfl, w0⟩ := Enc.sl Vrow.enc k0
  obtain ⟨x1, rfl, w1⟩ := Enc.sl encInt k1
  exact ⟨⟨x0, x1⟩, rfl, ⟨w0, w1, trivial⟩⟩
theorem Vtab.row_mine (v : Vtab) : CV.mineRow (Vtab.row v) := mine_cons (mine_sl (mine_map Vrow.row_mine _)) (mine_cons (mine_sl (mine_map intRow_mine _)) (mine_nil))

structure Bridge where
  Id : Int
  Name : ByteArray
  Ports : (List Pt)
  F : (List Fent)
  V : Vtab
  Ticks : Int
  Parse : Int
  Word : Int
  Drops : Int
  Vers : Int
def Bridge.row (v : Bridge) : List CV := [.lit (.int .i64 v.Id), .lit (.string v.Name), .sl true 8 (v.Ports.map Pt.row), .sl true 5 (v.F.map Fent.row), .sl true 3 (v.V.Rows.map Vrow.row), .sl true 1 (v.V.Pvid.map intRow), .lit (.int .i64 v.Ticks), .lit (.int .i64 v.Parse), .lit (.int .i64 v.Word), .lit (.int .i64 v.Drops), .lit (.int .i64 v.Vers)]
def Bridge.wf (v : Bridge) : Prop := intWf v.Id ∧ v.Name.size ≤ maxLen ∧ listWf Pt.wf v.Ports ∧ listWf Fent.wf v.F ∧ listWf Vrow.wf v.V.Rows ∧ listWf intWf v.V.Pvid ∧ intWf v.Ticks ∧ intWf v.Parse ∧ intWf v.Word ∧ intWf v.Drops ∧ intWf v.Vers ∧ True
theorem Bridge.enc : Enc Bridge [.int .i64, .str, .sl 8 [.bool, .int .i64, .bool, .int .i64, .int .i64, .int .i64, .int .i64, .int .i64], .sl 5 [.int .i64, .int .i64, .int .i64, .int .i64, .bool], .sl 3 [.int .i64, .int .i64, .int .i64], .sl 1 [.int .i64], .int .i64, .int .i64, .int .i64, .int .i64, .int .i64] Bridge.row Bridge.wf := fun cs h => by
  obtain ⟨c0, r0, rfl, k0, h⟩ := fitR_cons h
  obtain ⟨c1, r1, rfl, k1, h⟩ := fitR_cons h
  obtain ⟨c2, r2, rfl, k2, h⟩ := fitR_cons h
  obtain ⟨c3, r3, rfl, k3, h⟩ := fitR_cons h
  obtain ⟨c4, r4, rfl, k4, h⟩ := fitR_cons h
  obtain ⟨c5, r5, rfl, k5, h⟩ := fitR_cons h
  obtain ⟨c6, r6, rfl, k6, h⟩ := fitR_cons h
  obtain ⟨c7, r7, rfl, k7, h⟩ := fitR_cons h
  obtain ⟨c8, r8, rfl, k8, h⟩ := fitR_cons h
  obtain ⟨c9, r9, rfl, k9, h⟩ := fitR_cons h
  obtain ⟨c10, r10, rfl, k10, h⟩ := fitR_cons h
  obtain rfl := fitR_nil h
  obtain ⟨x0, rfl, w0⟩ := fitC_int k0
  obtain ⟨x1, rfl, w1⟩ := fitC_str k1
  obtain ⟨x2, rfl, w2⟩ := Enc.sl Pt.enc k2
  obtain ⟨x3, rfl, w3⟩ := Enc.sl Fent.enc k3
  obtain ⟨x4, rfl, w4⟩ := Enc.sl Vrow.enc k4
  obtain ⟨x5, rfl, w5⟩ := Enc.sl encInt k5
  obtain ⟨x6, rfl, w6⟩ := fitC_int k6
  obtain ⟨x7, rfl, w7⟩ := fitC_int k7
  obtain ⟨x8, rfl, w8⟩ := fitC_int k8
  obtain ⟨x9, rfl, w9⟩ := fitC_int k9
  obtain ⟨x10, rfl, w10⟩ := fitC_int k10
  exact ⟨⟨x0, x1, x2, x3, ⟨x4, x5⟩, x6, x7, x8, x9, x10⟩, rfl, ⟨w0, w1, w2, w3, w4, w5, w6, w7, w8, w9, w10, trivial⟩⟩
theorem Bridge.row_mine (v : Bridge) : CV.mineRow (Bridge.row v) := mine_cons mine_lit (mine_cons mine_lit (mine_cons (mine_sl (mine_map Pt.row_mine _)) (mine_cons (mine_sl (mine_map Fent.row_mine _)) (mine_cons (mine_sl (mine_map Vrow.row_mine _)) (mine_cons (mine_sl (mine_map intRow_mine _)) (mine_cons mine_lit (mine_cons mine_lit (mine_cons mine_lit (mine_cons mine_lit (mine_cons mine_lit (mine_nil)))))))))))

structure Link where
  A : Int
  P : Int
  B : Int
  Q : Int
def Link.row (v : Link) : List CV := [.lit (.int .i64 v.A), .lit (.int .i64 v.P), .lit (.int .i64 v.B), .lit (.int .i64 v.Q)]
def Link.wf (v : Link) : Prop := intWf v.A ∧ intWf v.P ∧ intWf v.B ∧ intWf v.Q ∧ True
theorem Link.enc : Enc Link [.int .i64, .int .i64, .int .i64, .int .i64] Link.row Link.wf := fun cs h => by
  obtain ⟨c0, r0, rfl, k0, h⟩ := fitR_cons h
  obtain ⟨c1, r1, rfl, k1, h⟩ := fitR_cons h
  obtain ⟨c2, r2, rfl, k2, h⟩ := fitR_cons h
  obtain ⟨c3, r3, rfl, k3, h⟩ := fitR_cons h
  obtain rfl := fitR_nil h
  obtain ⟨x0, rfl, w0⟩ := fitC_int k0
  obtain ⟨x1, rfl, w1⟩ := fitC_int k1
  obtain ⟨x2, rfl, w2⟩ := fitC_int k2
  obtain ⟨x3, rfl, w3⟩ := fitC_int k3
  exact ⟨⟨x0, x1, x2, x3⟩, rfl, ⟨w0, w1, w2, w3, trivial⟩⟩
theorem Link.row_mine (v : Link) : CV.mineRow (Link.row v) := mine_cons mine_lit (mine_cons mine_lit (mine_cons mine_lit (mine_cons mine_lit (mine_nil))))

structure Say where
  Link : Int
  Back : Bool
  V : Vec
def Say.row (v : Say) : List CV := [.lit (.int .i64 v.Link), .lit (.bool v.Back), .lit (.int .i64 v.V.Root), .lit (.int .i64 v.V.Cost), .lit (.int .i64 v.V.Hops), .lit (.int .i64 v.V.Bridge), .lit (.int .i64 v.V.Port)]
def Say.wf (v : Say) : Prop := intWf v.Link ∧ intWf v.V.Root ∧ intWf v.V.Cost ∧ intWf v.V.Hops ∧ intWf v.V.Bridge ∧ intWf v.V.Port ∧ True
theorem Say.enc : Enc Say [.int .i64, .bool, .int .i64, .int .i64, .int .i64, .int .i64, .int .i64] Say.row Say.wf := fun cs h => by
  obtain ⟨c0, r0, rfl, k0, h⟩ := fitR_cons h
  obtain ⟨c1, r1, rfl, k1, h⟩ := fitR_cons h
  obtain ⟨c2, r2, rfl, k2, h⟩ := fitR_cons h
  obtain ⟨c3, r3, rfl, k3, h⟩ := fitR_cons h
  obtain ⟨c4, r4, rfl, k4, h⟩ := fitR_cons h
  obtain ⟨c5, r5, rfl, k5, h⟩ := fitR_cons h
  obtain ⟨c6, r6, rfl, k6, h⟩ := fitR_cons h
  obtain rfl := fitR_nil h
  obtain ⟨x0, rfl, w0⟩ := fitC_int k0
  obtain ⟨x1, rfl⟩ := fitC_bool k1
  obtain ⟨x2, rfl, w2⟩ := fitC_int k2
  obtain ⟨x3, rfl, w3⟩ := fitC_int k3
  obtain ⟨x4, rfl, w4⟩ := fitC_int k4
  obtain ⟨x5, rfl, w5⟩ := fitC_int k5
  obtain ⟨x6, rfl, w6⟩ := fitC_int k6
  exact ⟨⟨x0, x1, ⟨x2, x3, x4, x5, x6⟩⟩, rfl, ⟨w0, w2, w3, w4, w5, w6, trivial⟩⟩
theorem Say.row_mine (v : Say) : CV.mineRow (Say.row v) := mine_cons mine_lit (mine_cons mine_lit (mine_cons mine_lit (mine_cons mine_lit (mine_cons mine_lit (mine_cons mine_lit (mine_cons mine_lit (mine_nil)))))))

structure Net where
  Bridges : (List Bridge)
  Links : (List Link)
  Said : (List Say)
def Net.row (v : Net) : List CV := [.sl true 11 (v.Bridges.map Bridge.row), .sl true 4 (v.Links.map Link.row), .sl true 7 (v.Said.map Say.row)]
def Net.wf (v : Net) : Prop := listWf Bridge.wf v.Bridges ∧ listWf Link.wf v.Links ∧ listWf Say.wf v.Said ∧ True
theorem Net.enc : Enc Net [.sl 11 [.int .i64, .str, .sl 8 [.bool, .int .i64, .bool, .int .i64, .int .i64, .int .i64, .int .i64, .int .i64], .sl 5 [.int .i64, .int .i64, .int .i64, .int .i64, .bool], .sl 3 [.int .i64, .int .i64, .int .i64], .sl 1 [.int .i64], .int .i64, .int .i64, .int .i64, .int .i64, .int .i64], .sl 4 [.int .i64, .int .i64, .int .i64, .int .i64], .sl 7 [.int .i64, .bool, .int .i64, .int .i64, .int .i64, .int .i64, .int .i64]] Net.row Net.wf := fun cs h => by
  obtain ⟨c0, r0, rfl, k0, h⟩ := fitR_cons h
  obtain ⟨c1, r1, rfl, k1, h⟩ := fitR_cons h
  obtain ⟨c2, r2, rfl, k2, h⟩ := fitR_cons h
  obtain rfl := fitR_nil h
  obtain ⟨x0, rfl, w0⟩ := Enc.sl Bridge.enc k0
  obtain ⟨x1, rfl, w1⟩ := Enc.sl Link.enc k1
  obtain ⟨x2, rfl, w2⟩ := Enc.sl Say.enc k2
  exact ⟨⟨x0, x1, x2⟩, rfl, ⟨w0, w1, w2, trivial⟩⟩
theorem Net.row_mine (v : Net) : CV.mineRow (Net.row v) := mine_cons (mine_sl (mine_map Bridge.row_mine _)) (mine_cons (mine_sl (mine_map Link.row_mine _)) (mine_cons (mine_sl (mine_map Say.row_mine _)) (mine_nil)))

def laws_szPtSF (n : Nat) (x0 : (List Pt)) (x1 : Int) : Option (Int) :=
  (bif (decide ((IntKind.wrap .i64 (x1 - (x0.length : Int))) < 0)) then (some (-1)) else (some (IntKind.wrap .i64 (x1 - (x0.length : Int)))))
/-- loop.example/g00326/laws.szPtS -/
theorem laws_szPtS (n : Nat) (x0 : (List Pt)) (x1 : Int) (r : Int) (H : laws_szPtSF n x0 x1 = some r) : LCall Try.prog 94 [.val false [.sl false 8 (CV.frzEs (x0.map Pt.row))], .val false [.lit (.int .i64 x1)]] [.val false [.lit (.int .i64 r)]] [] := by
  refine LCall.of_body tOk Try.func94 rfl (c := (.seq (.region 0 (rg Try.f94 0) false) (.seq (.region 1 (rg Try.f94 1) false) (.seq (.seq (.region 2 (rg Try.f94 2) false) (.cond (.tmp 10) (.seq (.region 3 (rg Try.f94 3) false) .ret) .skip)) (.seq (.region 4 (rg Try.f94 4) false) .ret))))) (by kernel_rfl) (Nat.le_of_ble_eq_true (by kernel_rfl)) 0 (rs := [.tmp 4]) rfl [] .nil [(false, [.lit (.int .i64 r)])] [] [] fun cx => ?_
  show Tr _ _ _ ⟨12, 0, [(0, .val false [.sl false 8 (CV.frzEs (x0.map Pt.row))]), (1, .val false [.lit (.int .i64 x1)])], []⟩ _
  unfold laws_szPtSF at H
  refine Tr.rs ?_
  refine LAt.runU tOk 1 (by kernel_rfl) ?_
  refine LAt.doneU [4, 0, 1] [] (by kernel_rfl) ?_
  refine Tr.rs ?_
  refine LAt.runU tOk 2 (by kernel_rfl) ?_
  refine LAt.lenE tOk (t := 47) (ty := 3) (e := 169) (x := (.tmp 6)) (d := 7) (g := none) ⟨(.slot 6), [], 0, false, 8, (CV.frzEs (x0.map Pt.row))⟩ (x0).length _ (by kernel_rfl) (by kernel_rfl) (by kernel_rfl) (by kernel_rfl) (by kernel_rfl) (frz_len _ _) rfl ?_
  refine LAt.runU tOk 2 (by kernel_rfl) ?_
  refine LAt.doneU [1, 4] [] (by kernel_rfl) ?_
  refine Tr.seq ?_
  refine Tr.rs ?_
  refine LAt.runU tOk 2 (by kernel_rfl) ?_
  refine LAt.doneU [10, 1, 4] [] (by kernel_rfl) ?_
  refine Tr.to ⟨12, 0, [(10, .val false [.lit (.bool (decide ((IntKind.wrap .i64 (x1 - (x0.length : Int))) < 0)))]), (1, .val false [.lit (.int .i64 (IntKind.wrap .i64 (x1 - (x0.length : Int))))]), (4, .val false [.lit (.int .i64 0)])], []⟩ (by kernel_rfl) ?_
  cases h1 : (decide ((IntKind.wrap .i64 (x1 - (x0.length : Int))) < 0))
  · have H := bifF h1 H
    refine Tr.cond (b := false) (by kernel_rfl) (fun h => nomatch h) (fun _ => ?_)
    refine Tr.skip ?_
    show Tr _ _ _ _ _
    refine Tr.rs ?_
    refine LAt.runU tOk 2 (by kernel_rfl) ?_
    refine LAt.doneU [4] [] (by kernel_rfl) ?_
    refine Tr.ret ?_
    have H := Option.some.inj H
    subst H
    exact Fin.of _ [(false, [.lit (.int .i64 (IntKind.wrap .i64 (x1 - (x0.length : Int))))])] (by kernel_rfl) rfl rfl
  · have H := bifT h1 H
    refine Tr.cond (b := true) (by kernel_rfl) (fun _ => ?_) (fun h => nomatch h)
    refine Tr.rs ?_
    refine LAt.runU tOk 1 (by kernel_rfl) ?_
    refine LAt.doneU [4, 1] [] (by kernel_rfl) ?_
    refine Tr.ret ?_
    have H := Option.some.inj H
    subst H
    exact Fin.of _ [(false, [.lit (.int .i64 (-1))])] (by kernel_rfl) rfl rfl

def laws_szFentSF (n : Nat) (x0 : (List Fent)) (x1 : Int) : Option (Int) :=
  (bif (decide ((IntKind.wrap .i64 (x1 - (x0.length : Int))) < 0)) then (some (-1)) else (some (IntKind.wrap .i64 (x1 - (x0.length : Int)))))
/-- loop.example/g00326/laws.szFentS -/
theorem laws_szFentS (n : Nat) (x0 : (List Fent)) (x1 : Int) (r : Int) (H : laws_szFentSF n x0 x1 = some r) : LCall Try.prog 95 [.val false [.sl false 5 (CV.frzEs (x0.map Fent.row))], .val false [.lit (.int .i64 x1)]] [.val false [.lit (.int .i64 r)]] [] := by
  refine LCall.of_body tOk Try.func95 rfl (c := (.seq (.region 0 (rg Try.f95 0) false) (.seq (.region 1 (rg Try.f95 1) false) (.seq (.seq (.region 2 (rg Try.f95 2) false) (.cond (.tmp 10) (.seq (.region 3 (rg Try.f95 3) false) .ret) .skip)) (.seq (.region 4 (rg Try.f95 4) false) .ret))))) (by kernel_rfl) (Nat.le_of_ble_eq_true (by kernel_rfl)) 0 (rs := [.tmp 4]) rfl [] .nil [(false, [.lit (.int .i64 r)])] [] [] fun cx => ?_
  show Tr _ _ _ ⟨12, 0, [(0, .val false [.sl false 5 (CV.frzEs (x0.map Fent.row))]), (1, .val false [.lit (.int .i64 x1)])], []⟩ _
  unfold laws_szFentSF at H
  refine Tr.rs ?_
  refine LAt.runU tOk 1 (by kernel_rfl) ?_
  refine LAt.doneU [4, 0, 1] [] (by kernel_rfl) ?_
  refine Tr.rs ?_
  refine LAt.runU tOk 2 (by kernel_rfl) ?_
  refine LAt.lenE tOk (t := 48) (ty := 3) (e := 171) (x := (.tmp 6)) (d := 7) (g := none) ⟨(.slot 6), [], 0, false, 5, (CV.frzEs (x0.map Fent.row))⟩ (x0).length _ (by kernel_rfl) (by kernel_rfl) (by kernel_rfl) (by kernel_rfl) (by kernel_rfl) (frz_len _ _) rfl ?_
  refine LAt.runU tOk 2 (by kernel_rfl) ?_
  refine LAt.doneU [1, 4] [] (by kernel_rfl) ?_
  refine Tr.seq ?_
  refine Tr.rs ?_
  refine LAt.runU tOk 2 (by kernel_rfl) ?_
  refine LAt.doneU [10, 1, 4] [] (by kernel_rfl) ?_
  refine Tr.to ⟨12, 0, [(10, .val false [.lit (.bool (decide ((IntKind.wrap .i64 (x1 - (x0.length : Int))) < 0)))]), (1, .val false [.lit (.int .i64 (IntKind.wrap .i64 (x1 - (x0.length : Int))))]), (4, .val false [.lit (.int .i64 0)])], []⟩ (by kernel_rfl) ?_
  cases h1 : (decide ((IntKind.wrap .i64 (x1 - (x0.length : Int))) < 0))
  · have H := bifF h1 H
    refine Tr.cond (b := false) (by kernel_rfl) (fun h => nomatch h) (fun _ => ?_)
    refine Tr.skip ?_
    show Tr _ _ _ _ _
    refine Tr.rs ?_
    refine LAt.runU tOk 2 (by kernel_rfl) ?_
    refine LAt.doneU [4] [] (by kernel_rfl) ?_
    refine Tr.ret ?_
    have H := Option.some.inj H
    subst H
    exact Fin.of _ [(false, [.lit (.int .i64 (IntKind.wrap .i64 (x1 - (x0.length : Int))))])] (by kernel_rfl) rfl rfl
  · have H := bifT h1 H
    refine Tr.cond (b := true) (by kernel_rfl) (fun _ => ?_) (fun h => nomatch h)
    refine Tr.rs ?_
    refine LAt.runU tOk 1 (by kernel_rfl) ?_
    refine LAt.doneU [4, 1] [] (by kernel_rfl) ?_
    refine Tr.ret ?_
    have H := Option.some.inj H
    subst H
    exact Fin.of _ [(false, [.lit (.int .i64 (-1))])] (by kernel_rfl) rfl rfl

def laws_szVrowSF (n : Nat) (x0 : (List Vrow)) (x1 : Int) : Option (Int) :=
  (bif (decide ((IntKind.wrap .i64 (x1 - (x0.length : Int))) < 0)) then (some (-1)) else (some (IntKind.wrap .i64 (x1 - (x0.length : Int)))))
/-- loop.example/g00326/laws.szVrowS -/
theorem laws_szVrowS (n : Nat) (x0 : (List Vrow)) (x1 : Int) (r : Int) (H : laws_szVrowSF n x0 x1 = some r) : LCall Try.prog 150 [.val false [.sl false 3 (CV.frzEs (x0.map Vrow.row))], .val false [.lit (.int .i64 x1)]] [.val false [.lit (.int .i64 r)]] [] := by
  refine LCall.of_body tOk Try.func150 rfl (c := (.seq (.region 0 (rg Try.f150 0) false) (.seq (.region 1 (rg Try.f150 1) false) (.seq (.seq (.region 2 (rg Try.f150 2) false) (.cond (.tmp 10) (.seq (.region 3 (rg Try.f150 3) false) .ret) .skip)) (.seq (.region 4 (rg Try.f150 4) false) .ret))))) (by kernel_rfl) (Nat.le_of_ble_eq_true (by kernel_rfl)) 0 (rs := [.tmp 4]) rfl [] .nil [(false, [.lit (.int .i64 r)])] [] [] fun cx => ?_
  show Tr _ _ _ ⟨12, 0, [(0, .val false [.sl false 3 (CV.frzEs (x0.map Vrow.row))]), (1, .val false [.lit (.int .i64 x1)])], []⟩ _
  unfold laws_szVrowSF at H
  refine Tr.rs ?_
  refine LAt.runU tOk 1 (by kernel_rfl) ?_
  refine LAt.doneU [4, 0, 1] [] (by kernel_rfl) ?_
  refine Tr.rs ?_
  refine LAt.runU tOk 2 (by kernel_rfl) ?_
  refine LAt.lenE tOk (t := 49) (ty := 3) (e := 187) (x := (.tmp 6)) (d := 7) (g := none) ⟨(.slot 6), [], 0, false, 3, (CV.frzEs (x0.map Vrow.row))⟩ (x0).length _ (by kernel_rfl) (by kernel_rfl) (by kernel_rfl) (by kernel_rfl) (by kernel_rfl) (frz_len _ _) rfl ?_
  refine LAt.runU tOk 2 (by kernel_rfl) ?_
  refine LAt.doneU [1, 4] [] (by kernel_rfl) ?_
  refine Tr.seq ?_
  refine Tr.rs ?_
  refine LAt.runU tOk 2 (by kernel_rfl) ?_
  refine LAt.doneU [10, 1, 4] [] (by kernel_rfl) ?_
  refine Tr.to ⟨12, 0, [(10, .val false [.lit (.bool (decide ((IntKind.wrap .i64 (x1 - (x0.length : Int))) < 0)))]), (1, .val false [.lit (.int .i64 (IntKind.wrap .i64 (x1 - (x0.length : Int))))]), (4, .val false [.lit (.int .i64 0)])], []⟩ (by kernel_rfl) ?_
  cases h1 : (decide ((IntKind.wrap .i64 (x1 - (x0.length : Int))) < 0))
  · have H := bifF h1 H
    refine Tr.cond (b := false) (by kernel_rfl) (fun h => nomatch h) (fun _ => ?_)
    refine Tr.skip ?_
    show Tr _ _ _ _ _
    refine Tr.rs ?_
    refine LAt.runU tOk 2 (by kernel_rfl) ?_
    refine LAt.doneU [4] [] (by kernel_rfl) ?_
    refine Tr.ret ?_
    have H := Option.some.inj H
    subst H
    exact Fin.of _ [(false, [.lit (.int .i64 (IntKind.wrap .i64 (x1 - (x0.length : Int))))])] (by kernel_rfl) rfl rfl
  · have H := bifT h1 H
    refine Tr.cond (b := true) (by kernel_rfl) (fun _ => ?_) (fun h => nomatch h)
    refine Tr.rs ?_
    refine LAt.runU tOk 1 (by kernel_rfl) ?_
    refine LAt.doneU [4, 1] [] (by kernel_rfl) ?_
    refine Tr.ret ?_
    have H := Option.some.inj H
    subst H
    exact Fin.of _ [(false, [.lit (.int .i64 (-1))])] (by kernel_rfl) rfl rfl

def laws_szIntSF (n : Nat) (x0 : (List Int)) (x1 : Int) : Option (Int) :=
  (bif (decide ((IntKind.wrap .i64 (x1 - (x0.length : Int))) < 0)) then (some (-1)) else (some (IntKind.wrap .i64 (x1 - (x0.length : Int)))))
/-- loop.example/g00326/laws.szIntS -/
theorem laws_szIntS (n : Nat) (x0 : (List Int)) (x1 : Int) (r : Int) (H : laws_szIntSF n x0 x1 = some r) : LCall Try.prog 151 [.val false [.sl false 1 (CV.frzEs (x0.map intRow))], .val false [.lit (.int .i64 x1)]] [.val false [.lit (.int .i64 r)]] [] := by
  refine LCall.of_body tOk Try.func151 rfl (c := (.seq (.region 0 (rg Try.f151 0) false) (.seq (.region 1 (rg Try.f151 1) false) (.seq (.seq (.region 2 (rg Try.f151 2) false) (.cond (.tmp 10) (.seq (.region 3 (rg Try.f151 3) false) .ret) .skip)) (.seq (.region 4 (rg Try.f151 4) false) .ret))))) (by kernel_rfl) (Nat.le_of_ble_eq_true (by kernel_rfl)) 0 (rs := [.tmp 4]) rfl [] .nil [(false, [.lit (.int .i64 r)])] [] [] fun cx => ?_
  show Tr _ _ _ ⟨12, 0, [(0, .val false [.sl false 1 (CV.frzEs (x0.map intRow))]), (1, .val false [.lit (.int .i64 x1)])], []⟩ _
  unfold laws_szIntSF at H
  refine Tr.rs ?_
  refine LAt.runU tOk 1 (by kernel_rfl) ?_
  refine LAt.doneU [4, 0, 1] [] (by kernel_rfl) ?_
  refine Tr.rs ?_
  refine LAt.runU tOk 2 (by kernel_rfl) ?_
  refine LAt.lenE tOk (t := 27) (ty := 3) (e := 3) (x := (.tmp 6)) (d := 7) (g := none) ⟨(.slot 6), [], 0, false, 1, (CV.frzEs (x0.map intRow))⟩ (x0).length _ (by kernel_rfl) (by kernel_rfl) (by kernel_rfl) (by kernel_rfl) (by kernel_rfl) (frz_len _ _) rfl ?_
  refine LAt.runU tOk 2 (by kernel_rfl) ?_
  refine LAt.doneU [1, 4] [] (by kernel_rfl) ?_
  refine Tr.seq ?_
  refine Tr.rs ?_
  refine LAt.runU tOk 2 (by kernel_rfl) ?_
  refine LAt.doneU [10, 1, 4] [] (by kernel_rfl) ?_
  refine Tr.to ⟨12, 0, [(10, .val false [.lit (.bool (decide ((IntKind.wrap .i64 (x1 - (x0.length : Int))) < 0)))]), (1, .val false [.lit (.int .i64 (IntKind.wrap .i64 (x1 - (x0.length : Int))))]), (4, .val false [.lit (.int .i64 0)])], []⟩ (by kernel_rfl) ?_
  cases h1 : (decide ((IntKind.wrap .i64 (x1 - (x0.length : Int))) < 0))
  · have H := bifF h1 H
    refine Tr.cond (b := false) (by kernel_rfl) (fun h => nomatch h) (fun _ => ?_)
    refine Tr.skip ?_
    show Tr _ _ _ _ _
    refine Tr.rs ?_
    refine LAt.runU tOk 2 (by kernel_rfl) ?_
    refine LAt.doneU [4] [] (by kernel_rfl) ?_
    refine Tr.ret ?_
    have H := Option.some.inj H
    subst H
    exact Fin.of _ [(false, [.lit (.int .i64 (IntKind.wrap .i64 (x1 - (x0.length : Int))))])] (by kernel_rfl) rfl rfl
  · have H := bifT h1 H
    refine Tr.cond (b := true) (by kernel_rfl) (fun _ => ?_) (fun h => nomatch h)
    refine Tr.rs ?_
    refine LAt.runU tOk 1 (by kernel_rfl) ?_
    refine LAt.doneU [4, 1] [] (by kernel_rfl) ?_
    refine Tr.ret ?_
    have H := Option.some.inj H
    subst H
    exact Fin.of _ [(false, [.lit (.int .i64 (-1))])] (by kernel_rfl) rfl rfl

def laws_szVtabF (n : Nat) (x0 : Vtab) (x1 : Int) : Option (Int) :=
  ((laws_szVrowSF n x0.Rows x1).bind fun r1 => (bif (decide (r1 < 0)) then (some (-1)) else ((laws_szIntSF n x0.Pvid r1).bind fun r2 => (bif (decide (r2 < 0)) then (some (-1)) else (some r2)))))
/-- loop.example/g00326/laws.szVtab -/
theorem laws_szVtab (n : Nat) (x0 : Vtab) (x1 : Int) (r : Int) (H : laws_szVtabF n x0 x1 = some r) : LCall Try.prog 96 [.val true (CV.frzRow (Vtab.row x0)), .val false [.lit (.int .i64 x1)]] [.val false [.lit (.int .i64 r)]] [] := by
  refine LCall.of_body tOk Try.func96 rfl (c := (.seq (.region 0 (rg Try.f96 0) false) (.seq (.region 1 (rg Try.f96 1) false) (.seq (.seq (.region 2 (rg Try.f96 2) false) (.cond (.tmp 10) (.seq (.region 3 (rg Try.f96 3) false) .ret) .skip)) (.seq (.region 4 (rg Try.f96 4) false) (.seq (.seq (.region 5 (rg Try.f96 5) false) (.cond (.tmp 16) (.seq (.region 6 (rg Try.f96 6) false) .ret) .skip)) (.seq (.region 7 (rg Try.f96 7) false) .ret))))))) (by kernel_rfl) (Nat.le_of_ble_eq_true (by kernel_rfl)) 0 (rs := [.tmp 4]) rfl [] .nil [(false, [.lit (.int .i64 r)])] [] [] fun cx => ?_
  show Tr _ _ _ ⟨18, 0, [(0, .val true (CV.frzRow (Vtab.row x0))), (1, .val false [.lit (.int .i64 x1)])], []⟩ _
  unfold laws_szVtabF at H
  refine Tr.rs ?_
  refine LAt.runU tOk 2 (by kernel_rfl) ?_
  refine LAt.doneU [4, 2, 1] [2] (by kernel_rfl) ?_
  refine Tr.rs ?_
  refine LAt.runU tOk 3 (by kernel_rfl) ?_
  obtain ⟨r1, er1, H⟩ := bind_some H
  refine LAt.callU tOk [.rd, .rd] (f := 150) (av := #[.tmp 6, .tmp 7]) (ats := #[49, 3]) (d := (some 8)) (ty := 3) (g := none) (by kernel_rfl) (by kernel_rfl) (by kernel_rfl) [] (laws_szVrowS n x0.Rows x1 r1 er1) (by kernel_rfl) (.inl rfl) ?_
  refine LAt.runU tOk 1 (by kernel_rfl) ?_
  refine LAt.doneU [1, 4, 2] [2] (by kernel_rfl) ?_
  refine Tr.seq ?_
  refine Tr.rs ?_
  refine LAt.runU tOk 2 (by kernel_rfl) ?_
  refine LAt.doneU [10, 1, 4, 2] [2] (by kernel_rfl) ?_
  refine Tr.to ⟨18, 0, [(10, .val false [.lit (.bool (decide (r1 < 0)))]), (1, .val false [.lit (.int .i64 r1)]), (4, .val false [.lit (.int .i64 0)]), (2, .adr (.box 2) [(0, 0)] 2 0)], [(2, (CV.frzRow (Vtab.row x0)))]⟩ (by kernel_rfl) ?_
  cases h1 : (decide (r1 < 0))
  · have H := bifF h1 H
    refine Tr.cond (b := false) (by kernel_rfl) (fun h => nomatch h) (fun _ => ?_)
    refine Tr.skip ?_
    show Tr _ _ _ _ _
    refine Tr.rs ?_
    refine LAt.runU tOk 3 (by kernel_rfl) ?_
    obtain ⟨r2, er2, H⟩ := bind_some H
    refine LAt.callU tOk [.rd, .rd] (f := 151) (av := #[.tmp 12, .tmp 13]) (ats := #[27, 3]) (d := (some 14)) (ty := 3) (g := none) (by kernel_rfl) (by kernel_rfl) (by kernel_rfl) [] (laws_szIntS n x0.Pvid r1 r2 er2) (by kernel_rfl) (.inl rfl) ?_
    refine LAt.runU tOk 1 (by kernel_rfl) ?_
    refine LAt.doneU [1, 4] [] (by kernel_rfl) ?_
    refine Tr.seq ?_
    refine Tr.rs ?_
    refine LAt.runU tOk 2 (by kernel_rfl) ?_
    refine LAt.doneU [16, 1, 4] [] (by kernel_rfl) ?_
    refine Tr.to ⟨18, 0, [(16, .val false [.lit (.bool (decide (r2 < 0)))]), (1, .val false [.lit (.int .i64 r2)]), (4, .val false [.lit (.int .i64 0)])], []⟩ (by kernel_rfl) ?_
    cases h2 : (decide (r2 < 0))
    · have H := bifF h2 H
      refine Tr.cond (b := false) (by kernel_rfl) (fun h => nomatch h) (fun _ => ?_)
      refine Tr.skip ?_
      show Tr _ _ _ _ _
      refine Tr.rs ?_
      refine LAt.runU tOk 2 (by kernel_rfl) ?_
      refine LAt.doneU [4] [] (by kernel_rfl) ?_
      refine Tr.ret ?_
      have H := Option.some.inj H
      subst H
      exact Fin.of _ [(false, [.lit (.int .i64 r2)])] (by kernel_rfl) rfl rfl
    · have H := bifT h2 H
      refine Tr.cond (b := true) (by kernel_rfl) (fun _ => ?_) (fun h => nomatch h)
      refine Tr.rs ?_
      refine LAt.runU tOk 1 (by kernel_rfl) ?_
      refine LAt.doneU [4, 1] [] (by kernel_rfl) ?_
      refine Tr.ret ?_
      have H := Option.some.inj H
      subst H
      exact Fin.of _ [(false, [.lit (.int .i64 (-1))])] (by kernel_rfl) rfl rfl
  · have H := bifT h1 H
    refine Tr.cond (b := true) (by kernel_rfl) (fun _ => ?_) (fun h => nomatch h)
    refine Tr.rs ?_
    refine LAt.runU tOk 1 (by kernel_rfl) ?_
    refine LAt.doneU [4, 1, 2] [2] (by kernel_rfl) ?_
    refine Tr.ret ?_
    have H := Option.some.inj H
    subst H
    exact Fin.of _ [(false, [.lit (.int .i64 (-1))])] (by kernel_rfl) rfl rfl

def laws_szBridgeF (n : Nat) (x0 : Bridge) (x1 : Int) : Option (Int) :=
  (bif (decide ((IntKind.wrap .i64 (x1 - (x0.Name.size : Int))) < 0)) then (some (-1)) else ((laws_szPtSF n x0.Ports (IntKind.wrap .i64 (x1 - (x0.Name.size : Int)))).bind fun r1 => (bif (decide (r1 < 0)) then (some (-1)) else ((laws_szFentSF n x0.F r1).bind fun r2 => (bif (decide (r2 < 0)) then (some (-1)) else ((laws_szVtabF n x0.V r2).bind fun r3 => (bif (decide (r3 < 0)) then (some (-1)) else (some r3))))))))
/-- loop.example/g00326/laws.szBridge -/
theorem laws_szBridge (n : Nat) (x0 : Bridge) (x1 : Int) (r : Int) (H : laws_szBridgeF n x0 x1 = some r) : LCall Try.prog 35 [.val true (CV.frzRow (Bridge.row x0)), .val false [.lit (.int .i64 x1)]] [.val false [.lit (.int .i64 r)]] [] := by
  refine LCall.of_body tOk Try.func35 rfl (c := (.seq (.region 0 (rg Try.f35 0) false) (.seq (.region 1 (rg Try.f35 1) false) (.seq (.seq (.region 2 (rg Try.f35 2) false) (.cond (.tmp 11) (.seq (.region 3 (rg Try.f35 3) false) .ret) .skip)) (.seq (.region 4 (rg Try.f35 4) false) (.seq (.seq (.region 5 (rg Try.f35 5) false) (.cond (.tmp 17) (.seq (.region 6 (rg Try.f35 6) false) .ret) .skip)) (.seq (.region 7 (rg Try.f35 7) false) (.seq (.seq (.region 8 (rg Try.f35 8) false) (.cond (.tmp 23) (.seq (.region 9 (rg Try.f35 9) false) .ret) .skip)) (.seq (.region 10 (rg Try.f35 10) false) (.seq (.seq (.region 11 (rg Try.f35 11) false) (.cond (.tmp 29) (.seq (.region 12 (rg Try.f35 12) false) .ret) .skip)) (.seq (.region 13 (rg Try.f35 13) false) .ret))))))))))) (by kernel_rfl) (Nat.le_of_ble_eq_true (by kernel_rfl)) 0 (rs := [.tmp 4]) rfl [] .nil [(false, [.lit (.int .i64 r)])] [] [] fun cx => ?_
  show Tr _ _ _ ⟨31, 0, [(0, .val true (CV.frzRow (Bridge.row x0))), (1, .val false [.lit (.int .i64 x1)])], []⟩ _
  unfold laws_szBridgeF at H
  refine Tr.rs ?_
  refine LAt.runU tOk 2 (by kernel_rfl) ?_
  refine LAt.doneU [4, 2, 1] [2] (by kernel_rfl) ?_
  refine Tr.rs ?_
  refine LAt.runU tOk 6 (by kernel_rfl) ?_
  refine LAt.doneU [1, 4, 2] [2] (by kernel_rfl) ?_
  refine Tr.seq ?_
  refine Tr.rs ?_
  refine LAt.runU tOk 2 (by kernel_rfl) ?_
  refine LAt.doneU [11, 1, 4, 2] [2] (by kernel_rfl) ?_
  refine Tr.to ⟨31, 0, [(11, .val false [.lit (.bool (decide ((IntKind.wrap .i64 (x1 - (x0.Name.size : Int))) < 0)))]), (1, .val false [.lit (.int .i64 (IntKind.wrap .i64 (x1 - (x0.Name.size : Int))))]), (4, .val false [.lit (.int .i64 0)]), (2, .adr (.box 2) [(0, 0)] 11 0)], [(2, (CV.frzRow (Bridge.row x0)))]⟩ (by kernel_rfl) ?_
  cases h1 : (decide ((IntKind.wrap .i64 (x1 - (x0.Name.size : Int))) < 0))
  · have H := bifF h1 H
    refine Tr.cond (b := false) (by kernel_rfl) (fun h => nomatch h) (fun _ => ?_)
    refine Tr.skip ?_
    show Tr _ _ _ _ _
    refine Tr.rs ?_
    refine LAt.runU tOk 3 (by kernel_rfl) ?_
    obtain ⟨r1, er1, H⟩ := bind_some H
    refine LAt.callU tOk [.rd, .rd] (f := 94) (av := #[.tmp 13, .tmp 14]) (ats := #[47, 3]) (d := (some 15)) (ty := 3) (g := none) (by kernel_rfl) (by kernel_rfl) (by kernel_rfl) [] (laws_szPtS n x0.Ports (IntKind.wrap .i64 (x1 - (x0.Name.size : Int))) r1 er1) (by kernel_rfl) (.inl rfl) ?_
    refine LAt.runU tOk 1 (by kernel_rfl) ?_
    refine LAt.doneU [1, 4, 2] [2] (by kernel_rfl) ?_
    refine Tr.seq ?_
    refine Tr.rs ?_
    refine LAt.runU tOk 2 (by kernel_rfl) ?_
    refine LAt.doneU [17, 1, 4, 2] [2] (by kernel_rfl) ?_
    refine Tr.to ⟨31, 0, [(17, .val false [.lit (.bool (decide (r1 < 0)))]), (1, .val false [.lit (.int .i64 r1)]), (4, .val false [.lit (.int .i64 0)]), (2, .adr (.box 2) [(0, 0)] 11 0)], [(2, (CV.frzRow (Bridge.row x0)))]⟩ (by kernel_rfl) ?_
    cases h2 : (decide (r1 < 0))
    · have H := bifF h2 H
      refine Tr.cond (b := false) (by kernel_rfl) (fun h => nomatch h) (fun _ => ?_)
      refine Tr.skip ?_
      show Tr _ _ _ _ _
      refine Tr.rs ?_
      refine LAt.runU tOk 3 (by kernel_rfl) ?_
      obtain ⟨r2, er2, H⟩ := bind_some H
      refine LAt.callU tOk [.rd, .rd] (f := 95) (av := #[.tmp 19, .tmp 20]) (ats := #[48, 3]) (d := (some 21)) (ty := 3) (g := none) (by kernel_rfl) (by kernel_rfl) (by kernel_rfl) [] (laws_szFentS n x0.F r1 r2 er2) (by kernel_rfl) (.inl rfl) ?_
      refine LAt.runU tOk 1 (by kernel_rfl) ?_
      refine LAt.doneU [1, 4, 2] [2] (by kernel_rfl) ?_
      refine Tr.seq ?_
      refine Tr.rs ?_
      refine LAt.runU tOk 2 (by kernel_rfl) ?_
      refine LAt.doneU [23, 1, 4, 2] [2] (by kernel_rfl) ?_
      refine Tr.to ⟨31, 0, [(23, .val false [.lit (.bool (decide (r2 < 0)))]), (1, .val false [.lit (.int .i64 r2)]), (4, .val false [.lit (.int .i64 0)]), (2, .adr (.box 2) [(0, 0)] 11 0)], [(2, (CV.frzRow (Bridge.row x0)))]⟩ (by kernel_rfl) ?_
      cases h3 : (decide (r2 < 0))
      · have H := bifF h3 H
        refine Tr.cond (b := false) (by kernel_rfl) (fun h => nomatch h) (fun _ => ?_)
        refine Tr.skip ?_
        show Tr _ _ _ _ _
        refine Tr.rs ?_
        refine LAt.runU tOk 3 (by kernel_rfl) ?_
        obtain ⟨r3, er3, H⟩ := bind_some H
        refine LAt.callU tOk [.rd, .rd] (f := 96) (av := #[.tmp 25, .tmp 26]) (ats := #[51, 3]) (d := (some 27)) (ty := 3) (g := none) (by kernel_rfl) (by kernel_rfl) (by kernel_rfl) [] (laws_szVtab n x0.V r2 r3 er3) (by kernel_rfl) (.inl rfl) ?_
        refine LAt.runU tOk 1 (by kernel_rfl) ?_
        refine LAt.doneU [1, 4] [] (by kernel_rfl) ?_
        refine Tr.seq ?_
        refine Tr.rs ?_
        refine LAt.runU tOk 2 (by kernel_rfl) ?_
        refine LAt.doneU [29, 1, 4] [] (by kernel_rfl) ?_
        refine Tr.to ⟨31, 0, [(29, .val false [.lit (.bool (decide (r3 < 0)))]), (1, .val false [.lit (.int .i64 r3)]), (4, .val false [.lit (.int .i64 0)])], []⟩ (by kernel_rfl) ?_
        cases h4 : (decide (r3 < 0))
        · have H := bifF h4 H
          refine Tr.cond (b := false) (by kernel_rfl) (fun h => nomatch h) (fun _ => ?_)
          refine Tr.skip ?_
          show Tr _ _ _ _ _
          refine Tr.rs ?_
          refine LAt.runU tOk 2 (by kernel_rfl) ?_
          refine LAt.doneU [4] [] (by kernel_rfl) ?_
          refine Tr.ret ?_
          have H := Option.some.inj H
          subst H
          exact Fin.of _ [(false, [.lit (.int .i64 r3)])] (by kernel_rfl) rfl rfl
        · have H := bifT h4 H
          refine Tr.cond (b := true) (by kernel_rfl) (fun _ => ?_) (fun h => nomatch h)
          refine Tr.rs ?_
          refine LAt.runU tOk 1 (by kernel_rfl) ?_
          refine LAt.doneU [4, 1] [] (by kernel_rfl) ?_
          refine Tr.ret ?_
          have H := Option.some.inj H
          subst H
          exact Fin.of _ [(false, [.lit (.int .i64 (-1))])] (by kernel_rfl) rfl rfl
      · have H := bifT h3 H
        refine Tr.cond (b := true) (by kernel_rfl) (fun _ => ?_) (fun h => nomatch h)
        refine Tr.rs ?_
        refine LAt.runU tOk 1 (by kernel_rfl) ?_
        refine LAt.doneU [4, 1, 2] [2] (by kernel_rfl) ?_
        refine Tr.ret ?_
        have H := Option.some.inj H
        subst H
        exact Fin.of _ [(false, [.lit (.int .i64 (-1))])] (by kernel_rfl) rfl rfl
    · have H := bifT h2 H
      refine Tr.cond (b := true) (by kernel_rfl) (fun _ => ?_) (fun h => nomatch h)
      refine Tr.rs ?_
      refine LAt.runU tOk 1 (by kernel_rfl) ?_
      refine LAt.doneU [4, 1, 2] [2] (by kernel_rfl) ?_
      refine Tr.ret ?_
      have H := Option.some.inj H
      subst H
      exact Fin.of _ [(false, [.lit (.int .i64 (-1))])] (by kernel_rfl) rfl rfl
  · have H := bifT h1 H
    refine Tr.cond (b := true) (by kernel_rfl) (fun _ => ?_) (fun h => nomatch h)
    refine Tr.rs ?_
    refine LAt.runU tOk 1 (by kernel_rfl) ?_
    refine LAt.doneU [4, 1, 2] [2] (by kernel_rfl) ?_
    refine Tr.ret ?_
    have H := Option.some.inj H
    subst H
    exact Fin.of _ [(false, [.lit (.int .i64 (-1))])] (by kernel_rfl) rfl rfl

def laws_szBridgeS_J1 (n : Nat) (y3 : Int) : Option (Int) :=
  (some y3)
def laws_szBridgeS_L2 (n : Nat) : Nat → (List Bridge) → Int → Int → Option ((Int) ⊕ (Int))
  | 0, _, _, _ => none
  | mo4 + 1, x0, y1, y2 => (bif (decide (y1 < (x0.length : Int))) then ((idx x0 y1).bind fun v5 => ((laws_szBridgeF n v5 y2).bind fun r6 => (bif (decide (r6 < 0)) then (some (Sum.inr (-1))) else (laws_szBridgeS_L2 n mo4 x0 (IntKind.wrap .i64 (y1 + 1)) r6)))) else (some (Sum.inl y2)))
def laws_szBridgeSF (n : Nat) (x0 : (List Bridge)) (x1 : Int) : Option (Int) :=
  (bif (decide ((IntKind.wrap .i64 (x1 - (x0.length : Int))) < 0)) then (some (-1)) else ((laws_szBridgeS_L2 n n x0 0 (IntKind.wrap .i64 (x1 - (x0.length : Int)))).bind fun o => match o with | .inl y3 => (laws_szBridgeS_J1 n y3) | .inr r => some r))
/-- loop.example/g00326/laws.szBridgeS -/
theorem laws_szBridgeS (n : Nat) (x0 : (List Bridge)) (x1 : Int) (r : Int) (H : laws_szBridgeSF n x0 x1 = some r) : LCall Try.prog 62 [.val false [.sl false 11 (CV.frzEs (x0.map Bridge.row))], .val false [.lit (.int .i64 x1)]] [.val false [.lit (.int .i64 r)]] [] := by
  refine LCall.of_body tOk Try.func62 rfl (c := (.seq (.region 0 (rg Try.f62 0) false) (.seq (.region 1 (rg Try.f62 1) false) (.seq (.seq (.region 2 (rg Try.f62 2) false) (.cond (.tmp 11) (.seq (.region 3 (rg Try.f62 3) false) .ret) .skip)) (.seq (.seq (.region 4 (rg Try.f62 4) false) (.block 0 (.loop (.seq (.seq (.region 5 (rg Try.f62 5) false) (.cond (.tmp 15) .skip (.exit 0))) (.seq (.block 1 (.seq (.region 7 (rg Try.f62 7) false) (.seq (.region 8 (rg Try.f62 8) false) (.cond (.tmp 25) (.seq (.region 9 (rg Try.f62 9) false) .ret) .skip)))) (.region 6 (rg Try.f62 6) false)))))) (.seq (.region 10 (rg Try.f62 10) false) .ret)))))) (by kernel_rfl) (Nat.le_of_ble_eq_true (by kernel_rfl)) 0 (rs := [.tmp 4]) rfl [] .nil [(false, [.lit (.int .i64 r)])] [] [] fun cx => ?_
  show Tr _ _ _ ⟨27, 0, [(0, .val false [.sl false 11 (CV.frzEs (x0.map Bridge.row))]), (1, .val false [.lit (.int .i64 x1)])], []⟩ _
  unfold laws_szBridgeSF at H
  refine Tr.rs ?_
  refine LAt.runU tOk 1 (by kernel_rfl) ?_
  refine LAt.doneU [4, 0, 1] [] (by kernel_rfl) ?_
  refine Tr.rs ?_
  refine LAt.runU tOk 2 (by kernel_rfl) ?_
  refine LAt.lenE tOk (t := 22) (ty := 3) (e := 53) (x := (.tmp 7)) (d := 8) (g := none) ⟨(.slot 7), [], 0, false, 11, (CV.frzEs (x0.map Bridge.row))⟩ (x0).length _ (by kernel_rfl) (by kernel_rfl) (by kernel_rfl) (by kernel_rfl) (by kernel_rfl) (frz_len _ _) rfl ?_
  refine LAt.runU tOk 2 (by kernel_rfl) ?_
  refine LAt.doneU [1, 4, 0] [] (by kernel_rfl) ?_
  refine Tr.seq ?_
  refine Tr.rs ?_
  refine LAt.runU tOk 2 (by kernel_rfl) ?_
  refine LAt.doneU [11, 1, 4, 0] [] (by kernel_rfl) ?_
  refine Tr.to ⟨27, 0, [(11, .val false [.lit (.bool (decide ((IntKind.wrap .i64 (x1 - (x0.length : Int))) < 0)))]), (1, .val false [.lit (.int .i64 (IntKind.wrap .i64 (x1 - (x0.length : Int))))]), (4, .val false [.lit (.int .i64 0)]), (0, .val false [.sl false 11 (CV.frzEs (x0.map Bridge.row))])], []⟩ (by kernel_rfl) ?_
  cases h1 : (decide ((IntKind.wrap .i64 (x1 - (x0.length : Int))) < 0))
  · have H := bifF h1 H
    refine Tr.cond (b := false) (by kernel_rfl) (fun h => nomatch h) (fun _ => ?_)
    refine Tr.skip ?_
    show Tr _ _ _ _ _
    refine Tr.seq ?_
    refine Tr.rs ?_
    refine LAt.runU tOk 1 (by kernel_rfl) ?_
    refine LAt.doneU [5, 1, 4, 0] [] (by kernel_rfl) ?_
    obtain ⟨o4, eo4, Ho4⟩ := bind_some H
    clear H
    refine Tr.mid (ι := Int) (fun v => ⟨27, 0, [(1, .val false [.lit (.int .i64 v)]), (4, .val false [.lit (.int .i64 0)])], []⟩) (fun v => laws_szBridgeS_J1 n v = some r) ?_ ?_
    · refine Tr.block ?_
      refine Tr.loop (ι := Nat × (Int × Int)) (fun v => ⟨27, 0, [(5, .val false [.lit (.int .i64 v.2.1)]), (1, .val false [.lit (.int .i64 v.2.2)]), (4, .val false [.lit (.int .i64 0)]), (0, .val false [.sl false 11 (CV.frzEs (x0.map Bridge.row))])], []⟩) (fun v => laws_szBridgeS_L2 n v.1 x0 v.2.1 v.2.2 = some o4) (fun v => v.1) (n, (0, (IntKind.wrap .i64 (x1 - (x0.length : Int))))) eo4 (St.sub_of [5, 1, 4, 0] [] (by kernel_rfl)) ?_
      rintro ⟨mo4, y1, y2⟩ H
      have H : laws_szBridgeS_L2 n mo4 x0 y1 y2 = some o4 := H
      obtain _ | mo4 := mo4
      · cases (show (none : Option _) = some o4 from H)
      · rw [laws_szBridgeS_L2] at H
        refine Tr.seq ?_
        refine Tr.rs ?_
        refine LAt.runU tOk 2 (by kernel_rfl) ?_
        refine LAt.lenE tOk (t := 22) (ty := 3) (e := 53) (x := (.tmp 13)) (d := 14) (g := none) ⟨(.slot 13), [], 0, false, 11, (CV.frzEs (x0.map Bridge.row))⟩ (x0).length _ (by kernel_rfl) (by kernel_rfl) (by kernel_rfl) (by kernel_rfl) (by kernel_rfl) (frz_len _ _) rfl ?_
        refine LAt.runU tOk 1 (by kernel_rfl) ?_
        refine LAt.doneU [15, 14, 13, 12, 5, 1, 4, 0] [] (by kernel_rfl) ?_
        refine Tr.to ⟨27, 0, [(15, .val false [.lit (.bool (decide (y1 < (x0.length : Int))))]), (14, .val false [.lit (.int .i64 (x0.length : Int))]), (13, .val false [.sl false 11 (CV.frzEs (x0.map Bridge.row))]), (12, .val false [.lit (.int .i64 y1)]), (5, .val false [.lit (.int .i64 y1)]), (1, .val false [.lit (.int .i64 y2)]), (4, .val false [.lit (.int .i64 0)]), (0, .val false [.sl false 11 (CV.frzEs (x0.map Bridge.row))])], []⟩ (by kernel_rfl) ?_
        cases h2 : (decide (y1 < (x0.length : Int)))
        · have H := bifF h2 H
          refine Tr.cond (b := false) (by kernel_rfl) (fun h => nomatch h) (fun _ => ?_)
          refine Tr.exit ?_
          refine And.intro (fun _ => ?_) (fun h => absurd rfl h)
          have H := Option.some.inj H
          subst H
          have H := Ho4
          dsimp only at H
          exact Exists.intro y2 (And.intro H (St.sub_of [1, 4] [] (by kernel_rfl)))
        · have H := bifT h2 H
          refine Tr.cond (b := true) (by kernel_rfl) (fun _ => ?_) (fun h => nomatch h)
          refine Tr.skip ?_
          show Tr _ _ _ _ _
          refine Tr.seq ?_
          refine Tr.block ?_
          refine Tr.rs ?_
          refine LAt.runU tOk 2 (by kernel_rfl) ?_
          obtain ⟨v5, ev5, H⟩ := bind_some H
          refine LAt.indexF tOk (t := 22) (ty := 0) (x := (.tmp 18)) (y := (.tmp 19)) (d := 20) (g := none) ⟨(.slot 18), [], 0, false, 11, (CV.frzEs (x0.map Bridge.row))⟩ y1 (CV.frzRow (Bridge.row v5)) _ (by kernel_rfl) (by kernel_rfl) (by kernel_rfl) (by kernel_rfl) rfl (idx_isF ev5) rfl ?_
          refine LAt.runU tOk 2 (by kernel_rfl) ?_
          obtain ⟨r6, er6, H⟩ := bind_some H
          refine LAt.callU tOk [.rd, .rd] (f := 35) (av := #[.tmp 21, .tmp 22]) (ats := #[53, 3]) (d := (some 23)) (ty := 3) (g := none) (by kernel_rfl) (by kernel_rfl) (by kernel_rfl) [] (laws_szBridge n v5 y2 r6 er6) (by kernel_rfl) (.inl rfl) ?_
          refine LAt.runU tOk 1 (by kernel_rfl) ?_
          refine LAt.doneU [1, 23, 22, 21, 20, 19, 18, 15, 14, 13, 12, 5, 4, 0] [] (by kernel_rfl) ?_
          refine Tr.rs ?_
          refine LAt.runU tOk 2 (by kernel_rfl) ?_
          refine LAt.doneU [25, 24, 1, 23, 22, 21, 20, 19, 18, 15, 14, 13, 12, 5, 4, 0] [] (by kernel_rfl) ?_
          refine Tr.to ⟨27, 0, [(25, .val false [.lit (.bool (decide (r6 < 0)))]), (24, .val false [.lit (.int .i64 r6)]), (1, .val false [.lit (.int .i64 r6)]), (23, .val false [.lit (.int .i64 r6)]), (22, .val false [.lit (.int .i64 y2)]), (21, .val true (CV.frzRow (Bridge.row v5))), (20, .fad ((CV.frzRow (Bridge.row v5)))), (19, .val false [.lit (.int .i64 y1)]), (18, .val false [.sl false 11 (CV.frzEs (x0.map Bridge.row))]), (15, .val false [.lit (.bool true)]), (14, .val false [.lit (.int .i64 (x0.length : Int))]), (13, .val false [.sl false 11 (CV.frzEs (x0.map Bridge.row))]), (12, .val false [.lit (.int .i64 y1)]), (5, .val false [.lit (.int .i64 y1)]), (4, .val false [.lit (.int .i64 0)]), (0, .val false [.sl false 11 (CV.frzEs (x0.map Bridge.row))])], []⟩ (by kernel_rfl) ?_
          cases h3 : (decide (r6 < 0))
          · have H := bifF h3 H
            refine Tr.cond (b := false) (by kernel_rfl) (fun h => nomatch h) (fun _ => ?_)
            refine Tr.skip ?_
            show Tr _ _ _ _ _
            refine Tr.at ?_
            refine LAt.runU tOk 3 (by kernel_rfl) ?_
            refine LAt.doneU [5, 17, 16, 25, 24, 1, 23, 22, 21, 20, 19, 18, 15, 14, 13, 12, 4, 0] [] (by kernel_rfl) ?_
            exact Exists.intro (mo4, ((IntKind.wrap .i64 (y1 + 1)), r6)) (And.intro H (And.intro (Nat.lt_succ_self mo4) (St.sub_of [5, 1, 4, 0] [] (by kernel_rfl))))
          · have H := bifT h3 H
            refine Tr.cond (b := true) (by kernel_rfl) (fun _ => ?_) (fun h => nomatch h)
            refine Tr.rs ?_
            refine LAt.runU tOk 1 (by kernel_rfl) ?_
            refine LAt.doneU [4, 25, 24, 1, 23, 22, 21, 20, 19, 18, 15, 14, 13, 12, 5, 0] [] (by kernel_rfl) ?_
            refine Tr.ret ?_
            have H := Option.some.inj H
            subst H
            have H := Ho4
            dsimp only at H
            have H := Option.some.inj H
            subst H
            exact Fin.of _ [(false, [.lit (.int .i64 (-1))])] (by kernel_rfl) rfl rfl
    · rintro y3 H
      have H : (laws_szBridgeS_J1 n y3) = some r := H
      unfold laws_szBridgeS_J1 at H
      show Tr _ _ _ _ _
      refine Tr.rs ?_
      refine LAt.runU tOk 2 (by kernel_rfl) ?_
      refine LAt.doneU [4] [] (by kernel_rfl) ?_
      refine Tr.ret ?_
      have H := Option.some.inj H
      subst H
      exact Fin.of _ [(false, [.lit (.int .i64 y3)])] (by kernel_rfl) rfl rfl
  · have H := bifT h1 H
    refine Tr.cond (b := true) (by kernel_rfl) (fun _ => ?_) (fun h => nomatch h)
    refine Tr.rs ?_
    refine LAt.runU tOk 1 (by kernel_rfl) ?_
    refine LAt.doneU [4, 1, 0] [] (by kernel_rfl) ?_
    refine Tr.ret ?_
    have H := Option.some.inj H
    subst H
    exact Fin.of _ [(false, [.lit (.int .i64 (-1))])] (by kernel_rfl) rfl rfl

def laws_szLinkSF (n : Nat) (x0 : (List Link)) (x1 : Int) : Option (Int) :=
  (bif (decide ((IntKind.wrap .i64 (x1 - (x0.length : Int))) < 0)) then (some (-1)) else (some (IntKind.wrap .i64 (x1 - (x0.length : Int)))))
/-- loop.example/g00326/laws.szLinkS -/
theorem laws_szLinkS (n : Nat) (x0 : (List Link)) (x1 : Int) (r : Int) (H : laws_szLinkSF n x0 x1 = some r) : LCall Try.prog 63 [.val false [.sl false 4 (CV.frzEs (x0.map Link.row))], .val false [.lit (.int .i64 x1)]] [.val false [.lit (.int .i64 r)]] [] := by
  refine LCall.of_body tOk Try.func63 rfl (c := (.seq (.region 0 (rg Try.f63 0) false) (.seq (.region 1 (rg Try.f63 1) false) (.seq (.seq (.region 2 (rg Try.f63 2) false) (.cond (.tmp 10) (.seq (.region 3 (rg Try.f63 3) false) .ret) .skip)) (.seq (.region 4 (rg Try.f63 4) false) .ret))))) (by kernel_rfl) (Nat.le_of_ble_eq_true (by kernel_rfl)) 0 (rs := [.tmp 4]) rfl [] .nil [(false, [.lit (.int .i64 r)])] [] [] fun cx => ?_
  show Tr _ _ _ ⟨12, 0, [(0, .val false [.sl false 4 (CV.frzEs (x0.map Link.row))]), (1, .val false [.lit (.int .i64 x1)])], []⟩ _
  unfold laws_szLinkSF at H
  refine Tr.rs ?_
  refine LAt.runU tOk 1 (by kernel_rfl) ?_
  refine LAt.doneU [4, 0, 1] [] (by kernel_rfl) ?_
  refine Tr.rs ?_
  refine LAt.runU tOk 2 (by kernel_rfl) ?_
  refine LAt.lenE tOk (t := 23) (ty := 3) (e := 146) (x := (.tmp 6)) (d := 7) (g := none) ⟨(.slot 6), [], 0, false, 4, (CV.frzEs (x0.map Link.row))⟩ (x0).length _ (by kernel_rfl) (by kernel_rfl) (by kernel_rfl) (by kernel_rfl) (by kernel_rfl) (frz_len _ _) rfl ?_
  refine LAt.runU tOk 2 (by kernel_rfl) ?_
  refine LAt.doneU [1, 4] [] (by kernel_rfl) ?_
  refine Tr.seq ?_
  refine Tr.rs ?_
  refine LAt.runU tOk 2 (by kernel_rfl) ?_
  refine LAt.doneU [10, 1, 4] [] (by kernel_rfl) ?_
  refine Tr.to ⟨12, 0, [(10, .val false [.lit (.bool (decide ((IntKind.wrap .i64 (x1 - (x0.length : Int))) < 0)))]), (1, .val false [.lit (.int .i64 (IntKind.wrap .i64 (x1 - (x0.length : Int))))]), (4, .val false [.lit (.int .i64 0)])], []⟩ (by kernel_rfl) ?_
  cases h1 : (decide ((IntKind.wrap .i64 (x1 - (x0.length : Int))) < 0))
  · have H := bifF h1 H
    refine Tr.cond (b := false) (by kernel_rfl) (fun h => nomatch h) (fun _ => ?_)
    refine Tr.skip ?_
    show Tr _ _ _ _ _
    refine Tr.rs ?_
    refine LAt.runU tOk 2 (by kernel_rfl) ?_
    refine LAt.doneU [4] [] (by kernel_rfl) ?_
    refine Tr.ret ?_
    have H := Option.some.inj H
    subst H
    exact Fin.of _ [(false, [.lit (.int .i64 (IntKind.wrap .i64 (x1 - (x0.length : Int))))])] (by kernel_rfl) rfl rfl
  · have H := bifT h1 H
    refine Tr.cond (b := true) (by kernel_rfl) (fun _ => ?_) (fun h => nomatch h)
    refine Tr.rs ?_
    refine LAt.runU tOk 1 (by kernel_rfl) ?_
    refine LAt.doneU [4, 1] [] (by kernel_rfl) ?_
    refine Tr.ret ?_
    have H := Option.some.inj H
    subst H
    exact Fin.of _ [(false, [.lit (.int .i64 (-1))])] (by kernel_rfl) rfl rfl

def laws_szSaySF (n : Nat) (x0 : (List Say)) (x1 : Int) : Option (Int) :=
  (bif (decide ((IntKind.wrap .i64 (x1 - (x0.length : Int))) < 0)) then (some (-1)) else (some (IntKind.wrap .i64 (x1 - (x0.length : Int)))))
/-- loop.example/g00326/laws.szSayS -/
theorem laws_szSayS (n : Nat) (x0 : (List Say)) (x1 : Int) (r : Int) (H : laws_szSaySF n x0 x1 = some r) : LCall Try.prog 64 [.val false [.sl false 7 (CV.frzEs (x0.map Say.row))], .val false [.lit (.int .i64 x1)]] [.val false [.lit (.int .i64 r)]] [] := by
  refine LCall.of_body tOk Try.func64 rfl (c := (.seq (.region 0 (rg Try.f64 0) false) (.seq (.region 1 (rg Try.f64 1) false) (.seq (.seq (.region 2 (rg Try.f64 2) false) (.cond (.tmp 10) (.seq (.region 3 (rg Try.f64 3) false) .ret) .skip)) (.seq (.region 4 (rg Try.f64 4) false) .ret))))) (by kernel_rfl) (Nat.le_of_ble_eq_true (by kernel_rfl)) 0 (rs := [.tmp 4]) rfl [] .nil [(false, [.lit (.int .i64 r)])] [] [] fun cx => ?_
  show Tr _ _ _ ⟨12, 0, [(0, .val false [.sl false 7 (CV.frzEs (x0.map Say.row))]), (1, .val false [.lit (.int .i64 x1)])], []⟩ _
  unfold laws_szSaySF at H
  refine Tr.rs ?_
  refine LAt.runU tOk 1 (by kernel_rfl) ?_
  refine LAt.doneU [4, 0, 1] [] (by kernel_rfl) ?_
  refine Tr.rs ?_
  refine LAt.runU tOk 2 (by kernel_rfl) ?_
  refine LAt.lenE tOk (t := 24) (ty := 3) (e := 149) (x := (.tmp 6)) (d := 7) (g := none) ⟨(.slot 6), [], 0, false, 7, (CV.frzEs (x0.map Say.row))⟩ (x0).length _ (by kernel_rfl) (by kernel_rfl) (by kernel_rfl) (by kernel_rfl) (by kernel_rfl) (frz_len _ _) rfl ?_
  refine LAt.runU tOk 2 (by kernel_rfl) ?_
  refine LAt.doneU [1, 4] [] (by kernel_rfl) ?_
  refine Tr.seq ?_
  refine Tr.rs ?_
  refine LAt.runU tOk 2 (by kernel_rfl) ?_
  refine LAt.doneU [10, 1, 4] [] (by kernel_rfl) ?_
  refine Tr.to ⟨12, 0, [(10, .val false [.lit (.bool (decide ((IntKind.wrap .i64 (x1 - (x0.length : Int))) < 0)))]), (1, .val false [.lit (.int .i64 (IntKind.wrap .i64 (x1 - (x0.length : Int))))]), (4, .val false [.lit (.int .i64 0)])], []⟩ (by kernel_rfl) ?_
  cases h1 : (decide ((IntKind.wrap .i64 (x1 - (x0.length : Int))) < 0))
  · have H := bifF h1 H
    refine Tr.cond (b := false) (by kernel_rfl) (fun h => nomatch h) (fun _ => ?_)
    refine Tr.skip ?_
    show Tr _ _ _ _ _
    refine Tr.rs ?_
    refine LAt.runU tOk 2 (by kernel_rfl) ?_
    refine LAt.doneU [4] [] (by kernel_rfl) ?_
    refine Tr.ret ?_
    have H := Option.some.inj H
    subst H
    exact Fin.of _ [(false, [.lit (.int .i64 (IntKind.wrap .i64 (x1 - (x0.length : Int))))])] (by kernel_rfl) rfl rfl
  · have H := bifT h1 H
    refine Tr.cond (b := true) (by kernel_rfl) (fun _ => ?_) (fun h => nomatch h)
    refine Tr.rs ?_
    refine LAt.runU tOk 1 (by kernel_rfl) ?_
    refine LAt.doneU [4, 1] [] (by kernel_rfl) ?_
    refine Tr.ret ?_
    have H := Option.some.inj H
    subst H
    exact Fin.of _ [(false, [.lit (.int .i64 (-1))])] (by kernel_rfl) rfl rfl

def laws_szNetF (n : Nat) (x0 : Net) (x1 : Int) : Option (Int) :=
  ((laws_szBridgeSF n x0.Bridges x1).bind fun r1 => (bif (decide (r1 < 0)) then (some (-1)) else ((laws_szLinkSF n x0.Links r1).bind fun r2 => (bif (decide (r2 < 0)) then (some (-1)) else ((laws_szSaySF n x0.Said r2).bind fun r3 => (bif (decide (r3 < 0)) then (some (-1)) else (some r3)))))))
/-- loop.example/g00326/laws.szNet -/
theorem laws_szNet (n : Nat) (x0 : Net) (x1 : Int) (r : Int) (H : laws_szNetF n x0 x1 = some r) : LCall Try.prog 15 [.val true (CV.frzRow (Net.row x0)), .val false [.lit (.int .i64 x1)]] [.val false [.lit (.int .i64 r)]] [] := by
  refine LCall.of_body tOk Try.func15 rfl (c := (.seq (.region 0 (rg Try.f15 0) false) (.seq (.region 1 (rg Try.f15 1) false) (.seq (.seq (.region 2 (rg Try.f15 2) false) (.cond (.tmp 10) (.seq (.region 3 (rg Try.f15 3) false) .ret) .skip)) (.seq (.region 4 (rg Try.f15 4) false) (.seq (.seq (.region 5 (rg Try.f15 5) false) (.cond (.tmp 16) (.seq (.region 6 (rg Try.f15 6) false) .ret) .skip)) (.seq (.region 7 (rg Try.f15 7) false) (.seq (.seq (.region 8 (rg Try.f15 8) false) (.cond (.tmp 22) (.seq (.region 9 (rg Try.f15 9) false) .ret) .skip)) (.seq (.region 10 (rg Try.f15 10) false) .ret))))))))) (by kernel_rfl) (Nat.le_of_ble_eq_true (by kernel_rfl)) 0 (rs := [.tmp 4]) rfl [] .nil [(false, [.lit (.int .i64 r)])] [] [] fun cx => ?_
  show Tr _ _ _ ⟨24, 0, [(0, .val true (CV.frzRow (Net.row x0))), (1, .val false [.lit (.int .i64 x1)])], []⟩ _
  unfold laws_szNetF at H
  refine Tr.rs ?_
  refine LAt.runU tOk 2 (by kernel_rfl) ?_
  refine LAt.doneU [4, 2, 1] [2] (by kernel_rfl) ?_
  refine Tr.rs ?_
  refine LAt.runU tOk 3 (by kernel_rfl) ?_
  obtain ⟨r1, er1, H⟩ := bind_some H
  refine LAt.callU tOk [.rd, .rd] (f := 62) (av := #[.tmp 6, .tmp 7]) (ats := #[22, 3]) (d := (some 8)) (ty := 3) (g := none) (by kernel_rfl) (by kernel_rfl) (by kernel_rfl) [] (laws_szBridgeS n x0.Bridges x1 r1 er1) (by kernel_rfl) (.inl rfl) ?_
  refine LAt.runU tOk 1 (by kernel_rfl) ?_
  refine LAt.doneU [1, 4, 2] [2] (by kernel_rfl) ?_
  refine Tr.seq ?_
  refine Tr.rs ?_
  refine LAt.runU tOk 2 (by kernel_rfl) ?_
  refine LAt.doneU [10, 1, 4, 2] [2] (by kernel_rfl) ?_
  refine Tr.to ⟨24, 0, [(10, .val false [.lit (.bool (decide (r1 < 0)))]), (1, .val false [.lit (.int .i64 r1)]), (4, .val false [.lit (.int .i64 0)]), (2, .adr (.box 2) [(0, 0)] 3 0)], [(2, (CV.frzRow (Net.row x0)))]⟩ (by kernel_rfl) ?_
  cases h1 : (decide (r1 < 0))
  · have H := bifF h1 H
    refine Tr.cond (b := false) (by kernel_rfl) (fun h => nomatch h) (fun _ => ?_)
    refine Tr.skip ?_
    show Tr _ _ _ _ _
    refine Tr.rs ?_
    refine LAt.runU tOk 3 (by kernel_rfl) ?_
    obtain ⟨r2, er2, H⟩ := bind_some H
    refine LAt.callU tOk [.rd, .rd] (f := 63) (av := #[.tmp 12, .tmp 13]) (ats := #[23, 3]) (d := (some 14)) (ty := 3) (g := none) (by kernel_rfl) (by kernel_rfl) (by kernel_rfl) [] (laws_szLinkS n x0.Links r1 r2 er2) (by kernel_rfl) (.inl rfl) ?_
    refine LAt.runU tOk 1 (by kernel_rfl) ?_
    refine LAt.doneU [1, 4, 2] [2] (by kernel_rfl) ?_
    refine Tr.seq ?_
    refine Tr.rs ?_
    refine LAt.runU tOk 2 (by kernel_rfl) ?_
    refine LAt.doneU [16, 1, 4, 2] [2] (by kernel_rfl) ?_
    refine Tr.to ⟨24, 0, [(16, .val false [.lit (.bool (decide (r2 < 0)))]), (1, .val false [.lit (.int .i64 r2)]), (4, .val false [.lit (.int .i64 0)]), (2, .adr (.box 2) [(0, 0)] 3 0)], [(2, (CV.frzRow (Net.row x0)))]⟩ (by kernel_rfl) ?_
    cases h2 : (decide (r2 < 0))
    · have H := bifF h2 H
      refine Tr.cond (b := false) (by kernel_rfl) (fun h => nomatch h) (fun _ => ?_)
      refine Tr.skip ?_
      show Tr _ _ _ _ _
      refine Tr.rs ?_
      refine LAt.runU tOk 3 (by kernel_rfl) ?_
      obtain ⟨r3, er3, H⟩ := bind_some H
      refine LAt.callU tOk [.rd, .rd] (f := 64) (av := #[.tmp 18, .tmp 19]) (ats := #[24, 3]) (d := (some 20)) (ty := 3) (g := none) (by kernel_rfl) (by kernel_rfl) (by kernel_rfl) [] (laws_szSayS n x0.Said r2 r3 er3) (by kernel_rfl) (.inl rfl) ?_
      refine LAt.runU tOk 1 (by kernel_rfl) ?_
      refine LAt.doneU [1, 4] [] (by kernel_rfl) ?_
      refine Tr.seq ?_
      refine Tr.rs ?_
      refine LAt.runU tOk 2 (by kernel_rfl) ?_
      refine LAt.doneU [22, 1, 4] [] (by kernel_rfl) ?_
      refine Tr.to ⟨24, 0, [(22, .val false [.lit (.bool (decide (r3 < 0)))]), (1, .val false [.lit (.int .i64 r3)]), (4, .val false [.lit (.int .i64 0)])], []⟩ (by kernel_rfl) ?_
      cases h3 : (decide (r3 < 0))
      · have H := bifF h3 H
        refine Tr.cond (b := false) (by kernel_rfl) (fun h => nomatch h) (fun _ => ?_)
        refine Tr.skip ?_
        show Tr _ _ _ _ _
        refine Tr.rs ?_
        refine LAt.runU tOk 2 (by kernel_rfl) ?_
        refine LAt.doneU [4] [] (by kernel_rfl) ?_
        refine Tr.ret ?_
        have H := Option.some.inj H
        subst H
        exact Fin.of _ [(false, [.lit (.int .i64 r3)])] (by kernel_rfl) rfl rfl
      · have H := bifT h3 H
        refine Tr.cond (b := true) (by kernel_rfl) (fun _ => ?_) (fun h => nomatch h)
        refine Tr.rs ?_
        refine LAt.runU tOk 1 (by kernel_rfl) ?_
        refine LAt.doneU [4, 1] [] (by kernel_rfl) ?_
        refine Tr.ret ?_
        have H := Option.some.inj H
        subst H
        exact Fin.of _ [(false, [.lit (.int .i64 (-1))])] (by kernel_rfl) rfl rfl
    · have H := bifT h2 H
      refine Tr.cond (b := true) (by kernel_rfl) (fun _ => ?_) (fun h => nomatch h)
      refine Tr.rs ?_
      refine LAt.runU tOk 1 (by kernel_rfl) ?_
      refine LAt.doneU [4, 1, 2] [2] (by kernel_rfl) ?_
      refine Tr.ret ?_
      have H := Option.some.inj H
      subst H
      exact Fin.of _ [(false, [.lit (.int .i64 (-1))])] (by kernel_rfl) rfl rfl
  · have H := bifT h1 H
    refine Tr.cond (b := true) (by kernel_rfl) (fun _ => ?_) (fun h => nomatch h)
    refine Tr.rs ?_
    refine LAt.runU tOk 1 (by kernel_rfl) ?_
    refine LAt.doneU [4, 1, 2] [2] (by kernel_rfl) ?_
    refine Tr.ret ?_
    have H := Option.some.inj H
    subst H
    exact Fin.of _ [(false, [.lit (.int .i64 (-1))])] (by kernel_rfl) rfl rfl

def laws_toVecF (n : Nat) (x0 : Vec) : Option (Vec) :=
  (some x0)
/-- loop.example/g00326/laws.toVec -/
theorem laws_toVec (n : Nat) (x0 : Vec) (r : Vec) (H : laws_toVecF n x0 = some r) : LCall Try.prog 43 [.val true (CV.frzRow (Vec.row x0))] [.val true (Vec.row r)] [] := by
  refine LCall.of_body tOk Try.func43 rfl (c := (.seq (.region 0 (rg Try.f43 0) false) (.seq (.region 1 (rg Try.f43 1) false) (.seq (.region 2 (rg Try.f43 2) false) (.seq (.region 3 (rg Try.f43 3) false) (.seq (.region 4 (rg Try.f43 4) false) (.seq (.region 5 (rg Try.f43 5) false) (.seq (.region 6 (rg Try.f43 6) false) (.seq (.region 7 (rg Try.f43 7) false) .ret))))))))) (by kernel_rfl) (Nat.le_of_ble_eq_true (by kernel_rfl)) 0 (rs := [.cell 2 70]) rfl [] .nil [(true, (Vec.row r))] [] [] fun cx => ?_
  show Tr _ _ _ ⟨20, 0, [(0, .val true (Vec.row x0))], []⟩ _
  unfold laws_toVecF at H
  refine Tr.rs ?_
  refine LAt.runU tOk 2 (by kernel_rfl) ?_
  refine LAt.doneU [2, 1] [2, 1] (by kernel_rfl) ?_
  refine Tr.rs ?_
  refine LAt.runU tOk 1 (by kernel_rfl) ?_
  refine LAt.doneU [3, 2, 1] [3, 2, 1] (by kernel_rfl) ?_
  refine Tr.rs ?_
  refine LAt.runU tOk 4 (by kernel_rfl) ?_
  refine LAt.doneU [3, 2, 1] [3, 2, 1] (by kernel_rfl) ?_
  refine Tr.rs ?_
  refine LAt.runU tOk 4 (by kernel_rfl) ?_
  refine LAt.doneU [3, 2, 1] [3, 2, 1] (by kernel_rfl) ?_
  refine Tr.rs ?_
  refine LAt.runU tOk 4 (by kernel_rfl) ?_
  refine LAt.doneU [3, 2, 1] [3, 2, 1] (by kernel_rfl) ?_
  refine Tr.rs ?_
  refine LAt.runU tOk 4 (by kernel_rfl) ?_
  refine LAt.doneU [3, 2, 1] [3, 2, 1] (by kernel_rfl) ?_
  refine Tr.rs ?_
  refine LAt.runU tOk 4 (by kernel_rfl) ?_
  refine LAt.doneU [3, 2] [3, 2] (by kernel_rfl) ?_
  refine Tr.rs ?_
  refine LAt.runU tOk 2 (by kernel_rfl) ?_
  refine LAt.doneU [2] [2] (by kernel_rfl) ?_
  refine Tr.ret ?_
  have H := Option.some.inj H
  subst H
  exact Fin.of _ [(true, (Vec.row x0))] (by kernel_rfl) rfl rfl

def laws_toPtF (n : Nat) (x0 : Pt) : Option (Pt) :=
  ((laws_toVecF n x0.Heard).bind fun r1 => (some (⟨x0.Up, x0.Cost, x0.Has, r1⟩ : Pt)))
/-- loop.example/g00326/laws.toPt -/
theorem laws_toPt (n : Nat) (x0 : Pt) (r : Pt) (H : laws_toPtF n x0 = some r) : LCall Try.prog 155 [.val true (CV.frzRow (Pt.row x0))] [.val true (Pt.row r)] [] := by
  refine LCall.of_body tOk Try.func155 rfl (c := (.seq (.region 0 (rg Try.f155 0) false) (.seq (.region 1 (rg Try.f155 1) false) (.seq (.region 2 (rg Try.f155 2) false) (.seq (.region 3 (rg Try.f155 3) false) (.seq (.region 4 (rg Try.f155 4) false) (.seq (.region 5 (rg Try.f155 5) false) (.seq (.region 6 (rg Try.f155 6) false) .ret)))))))) (by kernel_rfl) (Nat.le_of_ble_eq_true (by kernel_rfl)) 0 (rs := [.cell 2 114]) rfl [] .nil [(true, (Pt.row r))] [] [] fun cx => ?_
  show Tr _ _ _ ⟨18, 0, [(0, .val true (Pt.row x0))], []⟩ _
  unfold laws_toPtF at H
  refine Tr.rs ?_
  refine LAt.runU tOk 2 (by kernel_rfl) ?_
  refine LAt.doneU [2, 1] [2, 1] (by kernel_rfl) ?_
  refine Tr.rs ?_
  refine LAt.runU tOk 1 (by kernel_rfl) ?_
  refine LAt.doneU [3, 2, 1] [3, 2, 1] (by kernel_rfl) ?_
  refine Tr.rs ?_
  refine LAt.runU tOk 4 (by kernel_rfl) ?_
  refine LAt.doneU [3, 2, 1] [3, 2, 1] (by kernel_rfl) ?_
  refine Tr.rs ?_
  refine LAt.runU tOk 4 (by kernel_rfl) ?_
  refine LAt.doneU [3, 2, 1] [3, 2, 1] (by kernel_rfl) ?_
  refine Tr.rs ?_
  refine LAt.runU tOk 4 (by kernel_rfl) ?_
  refine LAt.doneU [3, 2, 1] [3, 2, 1] (by kernel_rfl) ?_
  refine Tr.rs ?_
  refine LAt.runU tOk 2 (by kernel_rfl) ?_
  obtain ⟨r1, er1, H⟩ := bind_some H
  refine LAt.callU tOk [.rd] (f := 43) (av := #[.tmp 14]) (ats := #[68]) (d := (some 15)) (ty := 70) (g := none) (by kernel_rfl) (by kernel_rfl) (by kernel_rfl) [] (laws_toVec n x0.Heard r1 er1) (by kernel_rfl) (.inl rfl) ?_
  refine LAt.runU tOk 2 (by kernel_rfl) ?_
  refine LAt.doneU [3, 2] [3, 2] (by kernel_rfl) ?_
  refine Tr.rs ?_
  refine LAt.runU tOk 2 (by kernel_rfl) ?_
  refine LAt.doneU [2] [2] (by kernel_rfl) ?_
  refine Tr.ret ?_
  have H := Option.some.inj H
  subst H
  exact Fin.of _ [(true, [.lit (.bool x0.Up), .lit (.int .i64 x0.Cost), .lit (.bool x0.Has), .lit (.int .i64 r1.Root), .lit (.int .i64 r1.Cost), .lit (.int .i64 r1.Hops), .lit (.int .i64 r1.Bridge), .lit (.int .i64 r1.Port)])] (by kernel_rfl) rfl rfl

def laws_toPtS_J1 (n : Nat) (y4 : (List Pt)) : Option ((List Pt)) :=
  (some y4)
def laws_toPtS_L2 (n : Nat) : Nat → (List Pt) → Int → (List Pt) → Option (((List Pt)) ⊕ ((List Pt)))
  | 0, _, _, _ => none
  | mo5 + 1, x0, y2, y3 => (bif (decide (y2 < (x0.length : Int))) then ((idx x0 y2).bind fun v6 => ((laws_toPtF n v6).bind fun r7 => ((idx y3 y2).bind fun v8 => (laws_toPtS_L2 n mo5 x0 (IntKind.wrap .i64 (y2 + 1)) (y3.set (y2.toNat) r7))))) else (some (Sum.inl y3)))
def laws_toPtSF (n : Nat) (x0 : (List Pt)) : Option ((List Pt)) :=
  (bif (decide (0 ≤ (x0.length : Int)) && decide ((x0.length : Int) ≤ 268435456)) then ((laws_toPtS_L2 n n x0 0 (List.replicate ((x0.length : Int)).toNat (⟨false, 0, false, (⟨0, 0, 0, 0, 0⟩ : Vec)⟩ : Pt))).bind fun o => match o with | .inl y4 => (laws_toPtS_J1 n y4) | .inr r => some r) else none)
/-- loop.example/g00326/laws.toPtS -/
theorem laws_toPtS (n : Nat) (x0 : (List Pt)) (r : (List Pt)) (H : laws_toPtSF n x0 = some r) : LCall Try.prog 100 [.val false [.sl false 8 (CV.frzEs (x0.map Pt.row))]] [.val false [.sl true 8 (r.map Pt.row)]] [] := by
  refine LCall.of_body tOk Try.func100 rfl (c := (.seq (.region 0 (rg Try.f100 0) false) (.seq (.region 1 (rg Try.f100 1) false) (.seq (.seq (.region 2 (rg Try.f100 2) false) (.block 0 (.loop (.seq (.seq (.region 3 (rg Try.f100 3) false) (.cond (.tmp 11) .skip (.exit 0))) (.seq (.block 1 (.region 5 (rg Try.f100 5) false)) (.region 4 (rg Try.f100 4) false)))))) (.seq (.region 6 (rg Try.f100 6) false) .ret))))) (by kernel_rfl) (Nat.le_of_ble_eq_true (by kernel_rfl)) 0 (rs := [.tmp 2]) rfl [] .nil [(false, [.sl true 8 (r.map Pt.row)])] [] [] fun cx => ?_
  show Tr _ _ _ ⟨23, 0, [(0, .val false [.sl false 8 (CV.frzEs (x0.map Pt.row))])], []⟩ _
  unfold laws_toPtSF at H
  refine Tr.rs ?_
  refine LAt.runU tOk 1 (by kernel_rfl) ?_
  refine LAt.doneU [2, 0] [] (by kernel_rfl) ?_
  refine Tr.rs ?_
  refine LAt.runU tOk 1 (by kernel_rfl) ?_
  refine LAt.lenE tOk (t := 47) (ty := 3) (e := 169) (x := (.tmp 5)) (d := 6) (g := none) ⟨(.slot 5), [], 0, false, 8, (CV.frzEs (x0.map Pt.row))⟩ (x0).length _ (by kernel_rfl) (by kernel_rfl) (by kernel_rfl) (by kernel_rfl) (by kernel_rfl) (frz_len _ _) rfl ?_
  obtain ⟨hg1, H⟩ := guard_some H
  refine LAt.makeG tOk (t := 55) (ty := 55) (e := 114) (x := (.tmp 6)) (d := 7) (g := none) ⟨.st [(0, 1, 4), (1, 1, 3), (2, 1, 4), (3, 5, 70)], 8, 64, [.lit (.bool false), .lit (.int .i64 0), .lit (.bool false), .lit (.int .i64 0), .lit (.int .i64 0), .lit (.int .i64 0), .lit (.int .i64 0), .lit (.int .i64 0)]⟩ (x0.length : Int) ((List.replicate ((x0.length : Int)).toNat (⟨false, 0, false, (⟨0, 0, 0, 0, 0⟩ : Vec)⟩ : Pt)).map Pt.row) _ (by kernel_rfl) (by kernel_rfl) (by kernel_rfl) (by kernel_rfl) (by kernel_rfl) (by kernel_rfl) hg1 (by kernel_rfl) (rep_map _ rfl) rfl ?_
  refine LAt.moveU (T := lk tab) (ty := 55) (x := (.tmp 7)) (d := 3) (g := none) false [.sl true 8 ((List.replicate ((x0.length : Int)).toNat (⟨false, 0, false, (⟨0, 0, 0, 0, 0⟩ : Vec)⟩ : Pt)).map Pt.row)] (by kernel_rfl) (by kernel_rfl) (by kernel_rfl) (by kernel_rfl) (by kernel_rfl) ?_
  refine LAt.doneU [3, 2, 0] [] (by kernel_rfl) ?_
  refine Tr.seq ?_
  refine Tr.rs ?_
  refine LAt.runU tOk 1 (by kernel_rfl) ?_
  refine LAt.doneU [4, 3, 2, 0] [] (by kernel_rfl) ?_
  obtain ⟨o5, eo5, Ho5⟩ := bind_some H
  clear H
  refine Tr.mid (ι := (List Pt)) (fun v => ⟨23, 0, [(3, .val false [.sl true 8 (v.map Pt.row)]), (2, .val false [.sl true 8 (([] : List Pt).map Pt.row)])], []⟩) (fun v => laws_toPtS_J1 n v = some r) ?_ ?_
  · refine Tr.block ?_
    refine Tr.loop (ι := Nat × (Int × (List Pt))) (fun v => ⟨23, 0, [(4, .val false [.lit (.int .i64 v.2.1)]), (3, .val false [.sl true 8 (v.2.2.map Pt.row)]), (2, .val false [.sl true 8 (([] : List Pt).map Pt.row)]), (0, .val false [.sl false 8 (CV.frzEs (x0.map Pt.row))])], []⟩) (fun v => laws_toPtS_L2 n v.1 x0 v.2.1 v.2.2 = some o5) (fun v => v.1) (n, (0, (List.replicate ((x0.length : Int)).toNat (⟨false, 0, false, (⟨0, 0, 0, 0, 0⟩ : Vec)⟩ : Pt)))) eo5 (St.sub_of [4, 3, 2, 0] [] (by kernel_rfl)) ?_
    rintro ⟨mo5, y2, y3⟩ H
    have H : laws_toPtS_L2 n mo5 x0 y2 y3 = some o5 := H
    obtain _ | mo5 := mo5
    · cases (show (none : Option _) = some o5 from H)
    · rw [laws_toPtS_L2] at H
      refine Tr.seq ?_
      refine Tr.rs ?_
      refine LAt.runU tOk 2 (by kernel_rfl) ?_
      refine LAt.lenE tOk (t := 47) (ty := 3) (e := 169) (x := (.tmp 9)) (d := 10) (g := none) ⟨(.slot 9), [], 0, false, 8, (CV.frzEs (x0.map Pt.row))⟩ (x0).length _ (by kernel_rfl) (by kernel_rfl) (by kernel_rfl) (by kernel_rfl) (by kernel_rfl) (frz_len _ _) rfl ?_
      refine LAt.runU tOk 1 (by kernel_rfl) ?_
      refine LAt.doneU [11, 10, 9, 8, 4, 3, 2, 0] [] (by kernel_rfl) ?_
      refine Tr.to ⟨23, 0, [(11, .val false [.lit (.bool (decide (y2 < (x0.length : Int))))]), (10, .val false [.lit (.int .i64 (x0.length : Int))]), (9, .val false [.sl false 8 (CV.frzEs (x0.map Pt.row))]), (8, .val false [.lit (.int .i64 y2)]), (4, .val false [.lit (.int .i64 y2)]), (3, .val false [.sl true 8 (y3.map Pt.row)]), (2, .val false [.sl true 8 (([] : List Pt).map Pt.row)]), (0, .val false [.sl false 8 (CV.frzEs (x0.map Pt.row))])], []⟩ (by kernel_rfl) ?_
      cases h1 : (decide (y2 < (x0.length : Int)))
      · have H := bifF h1 H
        refine Tr.cond (b := false) (by kernel_rfl) (fun h => nomatch h) (fun _ => ?_)
        refine Tr.exit ?_
        refine And.intro (fun _ => ?_) (fun h => absurd rfl h)
        have H := Option.some.inj H
        subst H
        have H := Ho5
        dsimp only at H
        exact Exists.intro y3 (And.intro H (St.sub_of [3, 2] [] (by kernel_rfl)))
      · have H := bifT h1 H
        refine Tr.cond (b := true) (by kernel_rfl) (fun _ => ?_) (fun h => nomatch h)
        refine Tr.skip ?_
        show Tr _ _ _ _ _
        refine Tr.seq ?_
        refine Tr.block ?_
        refine Tr.at ?_
        refine LAt.runU tOk 4 (by kernel_rfl) ?_
        obtain ⟨v6, ev6, H⟩ := bind_some H
        refine LAt.indexF tOk (t := 47) (ty := 0) (x := (.tmp 16)) (y := (.tmp 17)) (d := 18) (g := none) ⟨(.slot 16), [], 0, false, 8, (CV.frzEs (x0.map Pt.row))⟩ y2 (Pt.row v6) _ (by kernel_rfl) (by kernel_rfl) (by kernel_rfl) (by kernel_rfl) rfl (idx_isF ev6) rfl ?_
        refine LAt.runU tOk 1 (by kernel_rfl) ?_
        obtain ⟨r7, er7, H⟩ := bind_some H
        refine LAt.callU tOk [.rd] (f := 155) (av := #[.tmp 19]) (ats := #[169]) (d := (some 20)) (ty := 114) (g := none) (by kernel_rfl) (by kernel_rfl) (by kernel_rfl) [] (laws_toPt n v6 r7 er7) (by kernel_rfl) (.inl rfl) ?_
        obtain ⟨v8, ev8, H⟩ := bind_some H
        refine LAt.indexO tOk (t := 55) (ty := 0) (x := (.tmp 14)) (y := (.tmp 15)) (d := 21) (g := none) ⟨(.slot 3), [], 0, true, 8, (y3.map Pt.row)⟩ y2 (y2.toNat) (Pt.row v8) _ (by kernel_rfl) (by kernel_rfl) (by kernel_rfl) (by kernel_rfl) rfl (by kernel_rfl) (idx_isE ev8) rfl rfl ?_
        refine LAt.storeK tOk (t := 114) (ty := 0) (ad := (.tmp 21)) (x := (.tmp 20)) (g := none) ⟨.st [(0, 1, 4), (1, 1, 3), (2, 1, 4), (3, 5, 70)], 8, 64, [.lit (.bool false), .lit (.int .i64 0), .lit (.bool false), .lit (.int .i64 0), .lit (.int .i64 0), .lit (.int .i64 0), .lit (.int .i64 0), .lit (.int .i64 0)]⟩ true (Pt.row r7) (.slot 3) [(0, (y2.toNat))] [(0, (y2.toNat))] 8 0 [.sl true 8 (y3.map Pt.row)] (Pt.row v8) [.sl true 8 (y3.map Pt.row)] [.sl true 8 ((y3.set (y2.toNat) r7).map Pt.row)] (by kernel_rfl) (by kernel_rfl) (by kernel_rfl) (by kernel_rfl) (by kernel_rfl) (by kernel_rfl) (getQ_elem rfl (idx_get ev8).2) rfl (by intro h; cases h) (by kernel_rfl) (by kernel_rfl) (by kernel_rfl) (modQ_elem (new := r7) rfl (idx_get ev8).2 rfl) (by kernel_rfl) ?_
        refine LAt.doneU [3, 21, 20, 19, 18, 17, 16, 15, 11, 10, 9, 8, 4, 2, 0, 14] [] (by kernel_rfl) ?_
        show Tr _ _ _ _ _
        refine Tr.at ?_
        refine LAt.runU tOk 3 (by kernel_rfl) ?_
        refine LAt.doneU [4, 13, 12, 3, 21, 20, 19, 18, 17, 16, 15, 11, 10, 9, 8, 2, 0, 14] [] (by kernel_rfl) ?_
        exact Exists.intro (mo5, ((IntKind.wrap .i64 (y2 + 1)), (y3.set (y2.toNat) r7))) (And.intro H (And.intro (Nat.lt_succ_self mo5) (St.sub_of [4, 3, 2, 0] [] (by kernel_rfl))))
  · rintro y4 H
    have H : (laws_toPtS_J1 n y4) = some r := H
    unfold laws_toPtS_J1 at H
    show Tr _ _ _ _ _
    refine Tr.rs ?_
    refine LAt.runU tOk 2 (by kernel_rfl) ?_
    refine LAt.doneU [2, 3] [] (by kernel_rfl) ?_
    refine Tr.ret ?_
    have H := Option.some.inj H
    subst H
    exact Fin.of _ [(false, [.sl true 8 (y4.map Pt.row)])] (by kernel_rfl) rfl rfl

def laws_toFentF (n : Nat) (x0 : Fent) : Option (Fent) :=
  (some x0)
/-- loop.example/g00326/laws.toFent -/
theorem laws_toFent (n : Nat) (x0 : Fent) (r : Fent) (H : laws_toFentF n x0 = some r) : LCall Try.prog 156 [.val true (CV.frzRow (Fent.row x0))] [.val true (Fent.row r)] [] := by
  refine LCall.of_body tOk Try.func156 rfl (c := (.seq (.region 0 (rg Try.f156 0) false) (.seq (.region 1 (rg Try.f156 1) false) (.seq (.region 2 (rg Try.f156 2) false) (.seq (.region 3 (rg Try.f156 3) false) (.seq (.region 4 (rg Try.f156 4) false) (.seq (.region 5 (rg Try.f156 5) false) (.seq (.region 6 (rg Try.f156 6) false) (.seq (.region 7 (rg Try.f156 7) false) .ret))))))))) (by kernel_rfl) (Nat.le_of_ble_eq_true (by kernel_rfl)) 0 (rs := [.cell 2 141]) rfl [] .nil [(true, (Fent.row r))] [] [] fun cx => ?_
  show Tr _ _ _ ⟨20, 0, [(0, .val true (Fent.row x0))], []⟩ _
  unfold laws_toFentF at H
  refine Tr.rs ?_
  refine LAt.runU tOk 2 (by kernel_rfl) ?_
  refine LAt.doneU [2, 1] [2, 1] (by kernel_rfl) ?_
  refine Tr.rs ?_
  refine LAt.runU tOk 1 (by kernel_rfl) ?_
  refine LAt.doneU [3, 2, 1] [3, 2, 1] (by kernel_rfl) ?_
  refine Tr.rs ?_
  refine LAt.runU tOk 4 (by kernel_rfl) ?_
  refine LAt.doneU [3, 2, 1] [3, 2, 1] (by kernel_rfl) ?_
  refine Tr.rs ?_
  refine LAt.runU tOk 4 (by kernel_rfl) ?_
  refine LAt.doneU [3, 2, 1] [3, 2, 1] (by kernel_rfl) ?_
  refine Tr.rs ?_
  refine LAt.runU tOk 4 (by kernel_rfl) ?_
  refine LAt.doneU [3, 2, 1] [3, 2, 1] (by kernel_rfl) ?_
  refine Tr.rs ?_
  refine LAt.runU tOk 4 (by kernel_rfl) ?_
  refine LAt.doneU [3, 2, 1] [3, 2, 1] (by kernel_rfl) ?_
  refine Tr.rs ?_
  refine LAt.runU tOk 4 (by kernel_rfl) ?_
  refine LAt.doneU [3, 2] [3, 2] (by kernel_rfl) ?_
  refine Tr.rs ?_
  refine LAt.runU tOk 2 (by kernel_rfl) ?_
  refine LAt.doneU [2] [2] (by kernel_rfl) ?_
  refine Tr.ret ?_
  have H := Option.some.inj H
  subst H
  exact Fin.of _ [(true, (Fent.row x0))] (by kernel_rfl) rfl rfl

def laws_toFentS_J1 (n : Nat) (y4 : (List Fent)) : Option ((List Fent)) :=
  (some y4)
def laws_toFentS_L2 (n : Nat) : Nat → (List Fent) → Int → (List Fent) → Option (((List Fent)) ⊕ ((List Fent)))
  | 0, _, _, _ => none
  | mo5 + 1, x0, y2, y3 => (bif (decide (y2 < (x0.length : Int))) then ((idx x0 y2).bind fun v6 => ((laws_toFentF n v6).bind fun r7 => ((idx y3 y2).bind fun v8 => (laws_toFentS_L2 n mo5 x0 (IntKind.wrap .i64 (y2 + 1)) (y3.set (y2.toNat) r7))))) else (some (Sum.inl y3)))
def laws_toFentSF (n : Nat) (x0 : (List Fent)) : Option ((List Fent)) :=
  (bif (decide (0 ≤ (x0.length : Int)) && decide ((x0.length : Int) ≤ 268435456)) then ((laws_toFentS_L2 n n x0 0 (List.replicate ((x0.length : Int)).toNat (⟨0, 0, 0, 0, false⟩ : Fent))).bind fun o => match o with | .inl y4 => (laws_toFentS_J1 n y4) | .inr r => some r) else none)
/-- loop.example/g00326/laws.toFentS -/
theorem laws_toFentS (n : Nat) (x0 : (List Fent)) (r : (List Fent)) (H : laws_toFentSF n x0 = some r) : LCall Try.prog 101 [.val false [.sl false 5 (CV.frzEs (x0.map Fent.row))]] [.val false [.sl true 5 (r.map Fent.row)]] [] := by
  refine LCall.of_body tOk Try.func101 rfl (c := (.seq (.region 0 (rg Try.f101 0) false) (.seq (.region 1 (rg Try.f101 1) false) (.seq (.seq (.region 2 (rg Try.f101 2) false) (.block 0 (.loop (.seq (.seq (.region 3 (rg Try.f101 3) false) (.cond (.tmp 11) .skip (.exit 0))) (.seq (.block 1 (.region 5 (rg Try.f101 5) false)) (.region 4 (rg Try.f101 4) false)))))) (.seq (.region 6 (rg Try.f101 6) false) .ret))))) (by kernel_rfl) (Nat.le_of_ble_eq_true (by kernel_rfl)) 0 (rs := [.tmp 2]) rfl [] .nil [(false, [.sl true 5 (r.map Fent.row)])] [] [] fun cx => ?_
  show Tr _ _ _ ⟨23, 0, [(0, .val false [.sl false 5 (CV.frzEs (x0.map Fent.row))])], []⟩ _
  unfold laws_toFentSF at H
  refine Tr.rs ?_
  refine LAt.runU tOk 1 (by kernel_rfl) ?_
  refine LAt.doneU [2, 0] [] (by kernel_rfl) ?_
  refine Tr.rs ?_
  refine LAt.runU tOk 1 (by kernel_rfl) ?_
  refine LAt.lenE tOk (t := 48) (ty := 3) (e := 171) (x := (.tmp 5)) (d := 6) (g := none) ⟨(.slot 5), [], 0, false, 5, (CV.frzEs (x0.map Fent.row))⟩ (x0).length _ (by kernel_rfl) (by kernel_rfl) (by kernel_rfl) (by kernel_rfl) (by kernel_rfl) (frz_len _ _) rfl ?_
  obtain ⟨hg1, H⟩ := guard_some H
  refine LAt.makeG tOk (t := 56) (ty := 56) (e := 141) (x := (.tmp 6)) (d := 7) (g := none) ⟨.st [(0, 1, 3), (1, 1, 3), (2, 1, 3), (3, 1, 3), (4, 1, 4)], 5, 40, [.lit (.int .i64 0), .lit (.int .i64 0), .lit (.int .i64 0), .lit (.int .i64 0), .lit (.bool false)]⟩ (x0.length : Int) ((List.replicate ((x0.length : Int)).toNat (⟨0, 0, 0, 0, false⟩ : Fent)).map Fent.row) _ (by kernel_rfl) (by kernel_rfl) (by kernel_rfl) (by kernel_rfl) (by kernel_rfl) (by kernel_rfl) hg1 (by kernel_rfl) (rep_map _ rfl) rfl ?_
  refine LAt.moveU (T := lk tab) (ty := 56) (x := (.tmp 7)) (d := 3) (g := none) false [.sl true 5 ((List.replicate ((x0.length : Int)).toNat (⟨0, 0, 0, 0, false⟩ : Fent)).map Fent.row)] (by kernel_rfl) (by kernel_rfl) (by kernel_rfl) (by kernel_rfl) (by kernel_rfl) ?_
  refine LAt.doneU [3, 2, 0] [] (by kernel_rfl) ?_
  refine Tr.seq ?_
  refine Tr.rs ?_
  refine LAt.runU tOk 1 (by kernel_rfl) ?_
  refine LAt.doneU [4, 3, 2, 0] [] (by kernel_rfl) ?_
  obtain ⟨o5, eo5, Ho5⟩ := bind_some H
  clear H
  refine Tr.mid (ι := (List Fent)) (fun v => ⟨23, 0, [(3, .val false [.sl true 5 (v.map Fent.row)]), (2, .val false [.sl true 5 (([] : List Fent).map Fent.row)])], []⟩) (fun v => laws_toFentS_J1 n v = some r) ?_ ?_
  · refine Tr.block ?_
    refine Tr.loop (ι := Nat × (Int × (List Fent))) (fun v => ⟨23, 0, [(4, .val false [.lit (.int .i64 v.2.1)]), (3, .val false [.sl true 5 (v.2.2.map Fent.row)]), (2, .val false [.sl true 5 (([] : List Fent).map Fent.row)]), (0, .val false [.sl false 5 (CV.frzEs (x0.map Fent.row))])], []⟩) (fun v => laws_toFentS_L2 n v.1 x0 v.2.1 v.2.2 = some o5) (fun v => v.1) (n, (0, (List.replicate ((x0.length : Int)).toNat (⟨0, 0, 0, 0, false⟩ : Fent)))) eo5 (St.sub_of [4, 3, 2, 0] [] (by kernel_rfl)) ?_
    rintro ⟨mo5, y2, y3⟩ H
    have H : laws_toFentS_L2 n mo5 x0 y2 y3 = some o5 := H
    obtain _ | mo5 := mo5
    · cases (show (none : Option _) = some o5 from H)
    · rw [laws_toFentS_L2] at H
      refine Tr.seq ?_
      refine Tr.rs ?_
      refine LAt.runU tOk 2 (by kernel_rfl) ?_
      refine LAt.lenE tOk (t := 48) (ty := 3) (e := 171) (x := (.tmp 9)) (d := 10) (g := none) ⟨(.slot 9), [], 0, false, 5, (CV.frzEs (x0.map Fent.row))⟩ (x0).length _ (by kernel_rfl) (by kernel_rfl) (by kernel_rfl) (by kernel_rfl) (by kernel_rfl) (frz_len _ _) rfl ?_
      refine LAt.runU tOk 1 (by kernel_rfl) ?_
      refine LAt.doneU [11, 10, 9, 8, 4, 3, 2, 0] [] (by kernel_rfl) ?_
      refine Tr.to ⟨23, 0, [(11, .val false [.lit (.bool (decide (y2 < (x0.length : Int))))]), (10, .val false [.lit (.int .i64 (x0.length : Int))]), (9, .val false [.sl false 5 (CV.frzEs (x0.map Fent.row))]), (8, .val false [.lit (.int .i64 y2)]), (4, .val false [.lit (.int .i64 y2)]), (3, .val false [.sl true 5 (y3.map Fent.row)]), (2, .val false [.sl true 5 (([] : List Fent).map Fent.row)]), (0, .val false [.sl false 5 (CV.frzEs (x0.map Fent.row))])], []⟩ (by kernel_rfl) ?_
      cases h1 : (decide (y2 < (x0.length : Int)))
      · have H := bifF h1 H
        refine Tr.cond (b := false) (by kernel_rfl) (fun h => nomatch h) (fun _ => ?_)
        refine Tr.exit ?_
        refine And.intro (fun _ => ?_) (fun h => absurd rfl h)
        have H := Option.some.inj H
        subst H
        have H := Ho5
        dsimp only at H
        exact Exists.intro y3 (And.intro H (St.sub_of [3, 2] [] (by kernel_rfl)))
      · have H := bifT h1 H
        refine Tr.cond (b := true) (by kernel_rfl) (fun _ => ?_) (fun h => nomatch h)
        refine Tr.skip ?_
        show Tr _ _ _ _ _
        refine Tr.seq ?_
        refine Tr.block ?_
        refine Tr.at ?_
        refine LAt.runU tOk 4 (by kernel_rfl) ?_
        obtain ⟨v6, ev6, H⟩ := bind_some H
        refine LAt.indexF tOk (t := 48) (ty := 0) (x := (.tmp 16)) (y := (.tmp 17)) (d := 18) (g := none) ⟨(.slot 16), [], 0, false, 5, (CV.frzEs (x0.map Fent.row))⟩ y2 (Fent.row v6) _ (by kernel_rfl) (by kernel_rfl) (by kernel_rfl) (by kernel_rfl) rfl (idx_isF ev6) rfl ?_
        refine LAt.runU tOk 1 (by kernel_rfl) ?_
        obtain ⟨r7, er7, H⟩ := bind_some H
        refine LAt.callU tOk [.rd] (f := 156) (av := #[.tmp 19]) (ats := #[171]) (d := (some 20)) (ty := 141) (g := none) (by kernel_rfl) (by kernel_rfl) (by kernel_rfl) [] (laws_toFent n v6 r7 er7) (by kernel_rfl) (.inl rfl) ?_
        obtain ⟨v8, ev8, H⟩ := bind_some H
        refine LAt.indexO tOk (t := 56) (ty := 0) (x := (.tmp 14)) (y := (.tmp 15)) (d := 21) (g := none) ⟨(.slot 3), [], 0, true, 5, (y3.map Fent.row)⟩ y2 (y2.toNat) (Fent.row v8) _ (by kernel_rfl) (by kernel_rfl) (by kernel_rfl) (by kernel_rfl) rfl (by kernel_rfl) (idx_isE ev8) rfl rfl ?_
        refine LAt.storeK tOk (t := 141) (ty := 0) (ad := (.tmp 21)) (x := (.tmp 20)) (g := none) ⟨.st [(0, 1, 3), (1, 1, 3), (2, 1, 3), (3, 1, 3), (4, 1, 4)], 5, 40, [.lit (.int .i64 0), .lit (.int .i64 0), .lit (.int .i64 0), .lit (.int .i64 0), .lit (.bool false)]⟩ true (Fent.row r7) (.slot 3) [(0, (y2.toNat))] [(0, (y2.toNat))] 5 0 [.sl true 5 (y3.map Fent.row)] (Fent.row v8) [.sl true 5 (y3.map Fent.row)] [.sl true 5 ((y3.set (y2.toNat) r7).map Fent.row)] (by kernel_rfl) (by kernel_rfl) (by kernel_rfl) (by kernel_rfl) (by kernel_rfl) (by kernel_rfl) (getQ_elem rfl (idx_get ev8).2) rfl (by intro h; cases h) (by kernel_rfl) (by kernel_rfl) (by kernel_rfl) (modQ_elem (new := r7) rfl (idx_get ev8).2 rfl) (by kernel_rfl) ?_
        refine LAt.doneU [3, 21, 20, 19, 18, 17, 16, 15, 11, 10, 9, 8, 4, 2, 0, 14] [] (by kernel_rfl) ?_
        show Tr _ _ _ _ _
        refine Tr.at ?_
        refine LAt.runU tOk 3 (by kernel_rfl) ?_
        refine LAt.doneU [4, 13, 12, 3, 21, 20, 19, 18, 17, 16, 15, 11, 10, 9, 8, 2, 0, 14] [] (by kernel_rfl) ?_
        exact Exists.intro (mo5, ((IntKind.wrap .i64 (y2 + 1)), (y3.set (y2.toNat) r7))) (And.intro H (And.intro (Nat.lt_succ_self mo5) (St.sub_of [4, 3, 2, 0] [] (by kernel_rfl))))
  · rintro y4 H
    have H : (laws_toFentS_J1 n y4) = some r := H
    unfold laws_toFentS_J1 at H
    show Tr _ _ _ _ _
    refine Tr.rs ?_
    refine LAt.runU tOk 2 (by kernel_rfl) ?_
    refine LAt.doneU [2, 3] [] (by kernel_rfl) ?_
    refine Tr.ret ?_
    have H := Option.some.inj H
    subst H
    exact Fin.of _ [(false, [.sl true 5 (y4.map Fent.row)])] (by kernel_rfl) rfl rfl

def laws_toVrowF (n : Nat) (x0 : Vrow) : Option (Vrow) :=
  (some x0)
/-- loop.example/g00326/laws.toVrow -/
theorem laws_toVrow (n : Nat) (x0 : Vrow) (r : Vrow) (H : laws_toVrowF n x0 = some r) : LCall Try.prog 180 [.val true (CV.frzRow (Vrow.row x0))] [.val true (Vrow.row r)] [] := by
  refine LCall.of_body tOk Try.func180 rfl (c := (.seq (.region 0 (rg Try.f180 0) false) (.seq (.region 1 (rg Try.f180 1) false) (.seq (.region 2 (rg Try.f180 2) false) (.seq (.region 3 (rg Try.f180 3) false) (.seq (.region 4 (rg Try.f180 4) false) (.seq (.region 5 (rg Try.f180 5) false) .ret))))))) (by kernel_rfl) (Nat.le_of_ble_eq_true (by kernel_rfl)) 0 (rs := [.cell 2 138]) rfl [] .nil [(true, (Vrow.row r))] [] [] fun cx => ?_
  show Tr _ _ _ ⟨14, 0, [(0, .val true (Vrow.row x0))], []⟩ _
  unfold laws_toVrowF at H
  refine Tr.rs ?_
  refine LAt.runU tOk 2 (by kernel_rfl) ?_
  refine LAt.doneU [2, 1] [2, 1] (by kernel_rfl) ?_
  refine Tr.rs ?_
  refine LAt.runU tOk 1 (by kernel_rfl) ?_
  refine LAt.doneU [3, 2, 1] [3, 2, 1] (by kernel_rfl) ?_
  refine Tr.rs ?_
  refine LAt.runU tOk 4 (by kernel_rfl) ?_
  refine LAt.doneU [3, 2, 1] [3, 2, 1] (by kernel_rfl) ?_
  refine Tr.rs ?_
  refine LAt.runU tOk 4 (by kernel_rfl) ?_
  refine LAt.doneU [3, 2, 1] [3, 2, 1] (by kernel_rfl) ?_
  refine Tr.rs ?_
  refine LAt.runU tOk 4 (by kernel_rfl) ?_
  refine LAt.doneU [3, 2] [3, 2] (by kernel_rfl) ?_
  refine Tr.rs ?_
  refine LAt.runU tOk 2 (by kernel_rfl) ?_
  refine LAt.doneU [2] [2] (by kernel_rfl) ?_
  refine Tr.ret ?_
  have H := Option.some.inj H
  subst H
  exact Fin.of _ [(true, (Vrow.row x0))] (by kernel_rfl) rfl rfl

def laws_toVrowS_J1 (n : Nat) (y4 : (List Vrow)) : Option ((List Vrow)) :=
  (some y4)
def laws_toVrowS_L2 (n : Nat) : Nat → (List Vrow) → Int → (List Vrow) → Option (((List Vrow)) ⊕ ((List Vrow)))
  | 0, _, _, _ => none
  | mo5 + 1, x0, y2, y3 => (bif (decide (y2 < (x0.length : Int))) then ((idx x0 y2).bind fun v6 => ((laws_toVrowF n v6).bind fun r7 => ((idx y3 y2).bind fun v8 => (laws_toVrowS_L2 n mo5 x0 (IntKind.wrap .i64 (y2 + 1)) (y3.set (y2.toNat) r7))))) else (some (Sum.inl y3)))
def laws_toVrowSF (n : Nat) (x0 : (List Vrow)) : Option ((List Vrow)) :=
  (bif (decide (0 ≤ (x0.length : Int)) && decide ((x0.length : Int) ≤ 268435456)) then ((laws_toVrowS_L2 n n x0 0 (List.replicate ((x0.length : Int)).toNat (⟨0, 0, 0⟩ : Vrow))).bind fun o => match o with | .inl y4 => (laws_toVrowS_J1 n y4) | .inr r => some r) else none)
/-- loop.example/g00326/laws.toVrowS -/
theorem laws_toVrowS (n : Nat) (x0 : (List Vrow)) (r : (List Vrow)) (H : laws_toVrowSF n x0 = some r) : LCall Try.prog 157 [.val false [.sl false 3 (CV.frzEs (x0.map Vrow.row))]] [.val false [.sl true 3 (r.map Vrow.row)]] [] := by
  refine LCall.of_body tOk Try.func157 rfl (c := (.seq (.region 0 (rg Try.f157 0) false) (.seq (.region 1 (rg Try.f157 1) false) (.seq (.seq (.region 2 (rg Try.f157 2) false) (.block 0 (.loop (.seq (.seq (.region 3 (rg Try.f157 3) false) (.cond (.tmp 11) .skip (.exit 0))) (.seq (.block 1 (.region 5 (rg Try.f157 5) false)) (.region 4 (rg Try.f157 4) false)))))) (.seq (.region 6 (rg Try.f157 6) false) .ret))))) (by kernel_rfl) (Nat.le_of_ble_eq_true (by kernel_rfl)) 0 (rs := [.tmp 2]) rfl [] .nil [(false, [.sl true 3 (r.map Vrow.row)])] [] [] fun cx => ?_
  show Tr _ _ _ ⟨23, 0, [(0, .val false [.sl false 3 (CV.frzEs (x0.map Vrow.row))])], []⟩ _
  unfold laws_toVrowSF at H
  refine Tr.rs ?_
  refine LAt.runU tOk 1 (by kernel_rfl) ?_
  refine LAt.doneU [2, 0] [] (by kernel_rfl) ?_
  refine Tr.rs ?_
  refine LAt.runU tOk 1 (by kernel_rfl) ?_
  refine LAt.lenE tOk (t := 49) (ty := 3) (e := 187) (x := (.tmp 5)) (d := 6) (g := none) ⟨(.slot 5), [], 0, false, 3, (CV.frzEs (x0.map Vrow.row))⟩ (x0).length _ (by kernel_rfl) (by kernel_rfl) (by kernel_rfl) (by kernel_rfl) (by kernel_rfl) (frz_len _ _) rfl ?_
  obtain ⟨hg1, H⟩ := guard_some H
  refine LAt.makeG tOk (t := 57) (ty := 57) (e := 138) (x := (.tmp 6)) (d := 7) (g := none) ⟨.st [(0, 1, 3), (1, 1, 3), (2, 1, 3)], 3, 24, [.lit (.int .i64 0), .lit (.int .i64 0), .lit (.int .i64 0)]⟩ (x0.length : Int) ((List.replicate ((x0.length : Int)).toNat (⟨0, 0, 0⟩ : Vrow)).map Vrow.row) _ (by kernel_rfl) (by kernel_rfl) (by kernel_rfl) (by kernel_rfl) (by kernel_rfl) (by kernel_rfl) hg1 (by kernel_rfl) (rep_map _ rfl) rfl ?_
  refine LAt.moveU (T := lk tab) (ty := 57) (x := (.tmp 7)) (d := 3) (g := none) false [.sl true 3 ((List.replicate ((x0.length : Int)).toNat (⟨0, 0, 0⟩ : Vrow)).map Vrow.row)] (by kernel_rfl) (by kernel_rfl) (by kernel_rfl) (by kernel_rfl) (by kernel_rfl) ?_
  refine LAt.doneU [3, 2, 0] [] (by kernel_rfl) ?_
  refine Tr.seq ?_
  refine Tr.rs ?_
  refine LAt.runU tOk 1 (by kernel_rfl) ?_
  refine LAt.doneU [4, 3, 2, 0] [] (by kernel_rfl) ?_
  obtain ⟨o5, eo5, Ho5⟩ := bind_some H
  clear H
  refine Tr.mid (ι := (List Vrow)) (fun v => ⟨23, 0, [(3, .val false [.sl true 3 (v.map Vrow.row)]), (2, .val false [.sl true 3 (([] : List Vrow).map Vrow.row)])], []⟩) (fun v => laws_toVrowS_J1 n v = some r) ?_ ?_
  · refine Tr.block ?_
    refine Tr.loop (ι := Nat × (Int × (List Vrow))) (fun v => ⟨23, 0, [(4, .val false [.lit (.int .i64 v.2.1)]), (3, .val false [.sl true 3 (v.2.2.map Vrow.row)]), (2, .val false [.sl true 3 (([] : List Vrow).map Vrow.row)]), (0, .val false [.sl false 3 (CV.frzEs (x0.map Vrow.row))])], []⟩) (fun v => laws_toVrowS_L2 n v.1 x0 v.2.1 v.2.2 = some o5) (fun v => v.1) (n, (0, (List.replicate ((x0.length : Int)).toNat (⟨0, 0, 0⟩ : Vrow)))) eo5 (St.sub_of [4, 3, 2, 0] [] (by kernel_rfl)) ?_
    rintro ⟨mo5, y2, y3⟩ H
    have H : laws_toVrowS_L2 n mo5 x0 y2 y3 = some o5 := H
    obtain _ | mo5 := mo5
    · cases (show (none : Option _) = some o5 from H)
    · rw [laws_toVrowS_L2] at H
      refine Tr.seq ?_
      refine Tr.rs ?_
      refine LAt.runU tOk 2 (by kernel_rfl) ?_
      refine LAt.lenE tOk (t := 49) (ty := 3) (e := 187) (x := (.tmp 9)) (d := 10) (g := none) ⟨(.slot 9), [], 0, false, 3, (CV.frzEs (x0.map Vrow.row))⟩ (x0).length _ (by kernel_rfl) (by kernel_rfl) (by kernel_rfl) (by kernel_rfl) (by kernel_rfl) (frz_len _ _) rfl ?_
      refine LAt.runU tOk 1 (by kernel_rfl) ?_
      refine LAt.doneU [11, 10, 9, 8, 4, 3, 2, 0] [] (by kernel_rfl) ?_
      refine Tr.to ⟨23, 0, [(11, .val false [.lit (.bool (decide (y2 < (x0.length : Int))))]), (10, .val false [.lit (.int .i64 (x0.length : Int))]), (9, .val false [.sl false 3 (CV.frzEs (x0.map Vrow.row))]), (8, .val false [.lit (.int .i64 y2)]), (4, .val false [.lit (.int .i64 y2)]), (3, .val false [.sl true 3 (y3.map Vrow.row)]), (2, .val false [.sl true 3 (([] : List Vrow).map Vrow.row)]), (0, .val false [.sl false 3 (CV.frzEs (x0.map Vrow.row))])], []⟩ (by kernel_rfl) ?_
      cases h1 : (decide (y2 < (x0.length : Int)))
      · have H := bifF h1 H
        refine Tr.cond (b := false) (by kernel_rfl) (fun h => nomatch h) (fun _ => ?_)
        refine Tr.exit ?_
        refine And.intro (fun _ => ?_) (fun h => absurd rfl h)
        have H := Option.some.inj H
        subst H
        have H := Ho5
        dsimp only at H
        exact Exists.intro y3 (And.intro H (St.sub_of [3, 2] [] (by kernel_rfl)))
      · have H := bifT h1 H
        refine Tr.cond (b := true) (by kernel_rfl) (fun _ => ?_) (fun h => nomatch h)
        refine Tr.skip ?_
        show Tr _ _ _ _ _
        refine Tr.seq ?_
        refine Tr.block ?_
        refine Tr.at ?_
        refine LAt.runU tOk 4 (by kernel_rfl) ?_
        obtain ⟨v6, ev6, H⟩ := bind_some H
        refine LAt.indexF tOk (t := 49) (ty := 0) (x := (.tmp 16)) (y := (.tmp 17)) (d := 18) (g := none) ⟨(.slot 16), [], 0, false, 3, (CV.frzEs (x0.map Vrow.row))⟩ y2 (Vrow.row v6) _ (by kernel_rfl) (by kernel_rfl) (by kernel_rfl) (by kernel_rfl) rfl (idx_isF ev6) rfl ?_
        refine LAt.runU tOk 1 (by kernel_rfl) ?_
        obtain ⟨r7, er7, H⟩ := bind_some H
        refine LAt.callU tOk [.rd] (f := 180) (av := #[.tmp 19]) (ats := #[187]) (d := (some 20)) (ty := 138) (g := none) (by kernel_rfl) (by kernel_rfl) (by kernel_rfl) [] (laws_toVrow n v6 r7 er7) (by kernel_rfl) (.inl rfl) ?_
        obtain ⟨v8, ev8, H⟩ := bind_some H
        refine LAt.indexO tOk (t := 57) (ty := 0) (x := (.tmp 14)) (y := (.tmp 15)) (d := 21) (g := none) ⟨(.slot 3), [], 0, true, 3, (y3.map Vrow.row)⟩ y2 (y2.toNat) (Vrow.row v8) _ (by kernel_rfl) (by kernel_rfl) (by kernel_rfl) (by kernel_rfl) rfl (by kernel_rfl) (idx_isE ev8) rfl rfl ?_
        refine LAt.storeK tOk (t := 138) (ty := 0) (ad := (.tmp 21)) (x := (.tmp 20)) (g := none) ⟨.st [(0, 1, 3), (1, 1, 3), (2, 1, 3)], 3, 24, [.lit (.int .i64 0), .lit (.int .i64 0), .lit (.int .i64 0)]⟩ true (Vrow.row r7) (.slot 3) [(0, (y2.toNat))] [(0, (y2.toNat))] 3 0 [.sl true 3 (y3.map Vrow.row)] (Vrow.row v8) [.sl true 3 (y3.map Vrow.row)] [.sl true 3 ((y3.set (y2.toNat) r7).map Vrow.row)] (by kernel_rfl) (by kernel_rfl) (by kernel_rfl) (by kernel_rfl) (by kernel_rfl) (by kernel_rfl) (getQ_elem rfl (idx_get ev8).2) rfl (by intro h; cases h) (by kernel_rfl) (by kernel_rfl) (by kernel_rfl) (modQ_elem (new := r7) rfl (idx_get ev8).2 rfl) (by kernel_rfl) ?_
        refine LAt.doneU [3, 21, 20, 19, 18, 17, 16, 15, 11, 10, 9, 8, 4, 2, 0, 14] [] (by kernel_rfl) ?_
        show Tr _ _ _ _ _
        refine Tr.at ?_
        refine LAt.runU tOk 3 (by kernel_rfl) ?_
        refine LAt.doneU [4, 13, 12, 3, 21, 20, 19, 18, 17, 16, 15, 11, 10, 9, 8, 2, 0, 14] [] (by kernel_rfl) ?_
        exact Exists.intro (mo5, ((IntKind.wrap .i64 (y2 + 1)), (y3.set (y2.toNat) r7))) (And.intro H (And.intro (Nat.lt_succ_self mo5) (St.sub_of [4, 3, 2, 0] [] (by kernel_rfl))))
  · rintro y4 H
    have H : (laws_toVrowS_J1 n y4) = some r := H
    unfold laws_toVrowS_J1 at H
    show Tr _ _ _ _ _
    refine Tr.rs ?_
    refine LAt.runU tOk 2 (by kernel_rfl) ?_
    refine LAt.doneU [2, 3] [] (by kernel_rfl) ?_
    refine Tr.ret ?_
    have H := Option.some.inj H
    subst H
    exact Fin.of _ [(false, [.sl true 3 (y4.map Vrow.row)])] (by kernel_rfl) rfl rfl

def laws_toIntS_J1 (n : Nat) (y4 : (List Int)) : Option ((List Int)) :=
  (some y4)
def laws_toIntS_L2 (n : Nat) : Nat → (List Int) → Int → (List Int) → Option (((List Int)) ⊕ ((List Int)))
  | 0, _, _, _ => none
  | mo5 + 1, x0, y2, y3 => (bif (decide (y2 < (x0.length : Int))) then ((idx x0 y2).bind fun v6 => ((idx y3 y2).bind fun v7 => (laws_toIntS_L2 n mo5 x0 (IntKind.wrap .i64 (y2 + 1)) (y3.set (y2.toNat) v6)))) else (some (Sum.inl y3)))
def laws_toIntSF (n : Nat) (x0 : (List Int)) : Option ((List Int)) :=
  (bif (decide (0 ≤ (x0.length : Int)) && decide ((x0.length : Int) ≤ 268435456)) then ((laws_toIntS_L2 n n x0 0 (List.replicate ((x0.length : Int)).toNat 0)).bind fun o => match o with | .inl y4 => (laws_toIntS_J1 n y4) | .inr r => some r) else none)
/-- loop.example/g00326/laws.toIntS -/
theorem laws_toIntS (n : Nat) (x0 : (List Int)) (r : (List Int)) (H : laws_toIntSF n x0 = some r) : LCall Try.prog 18 [.val false [.sl false 1 (CV.frzEs (x0.map intRow))]] [.val false [.sl true 1 (r.map intRow)]] [] := by
  refine LCall.of_body tOk Try.func18 rfl (c := (.seq (.region 0 (rg Try.f18 0) false) (.seq (.region 1 (rg Try.f18 1) false) (.seq (.seq (.region 2 (rg Try.f18 2) false) (.block 0 (.loop (.seq (.seq (.region 3 (rg Try.f18 3) false) (.cond (.tmp 11) .skip (.exit 0))) (.seq (.block 1 (.region 5 (rg Try.f18 5) false)) (.region 4 (rg Try.f18 4) false)))))) (.seq (.region 6 (rg Try.f18 6) false) .ret))))) (by kernel_rfl) (Nat.le_of_ble_eq_true (by kernel_rfl)) 0 (rs := [.tmp 2]) rfl [] .nil [(false, [.sl true 1 (r.map intRow)])] [] [] fun cx => ?_
  show Tr _ _ _ ⟨22, 0, [(0, .val false [.sl false 1 (CV.frzEs (x0.map intRow))])], []⟩ _
  unfold laws_toIntSF at H
  refine Tr.rs ?_
  refine LAt.runU tOk 1 (by kernel_rfl) ?_
  refine LAt.doneU [2, 0] [] (by kernel_rfl) ?_
  refine Tr.rs ?_
  refine LAt.runU tOk 1 (by kernel_rfl) ?_
  refine LAt.lenE tOk (t := 27) (ty := 3) (e := 3) (x := (.tmp 5)) (d := 6) (g := none) ⟨(.slot 5), [], 0, false, 1, (CV.frzEs (x0.map intRow))⟩ (x0).length _ (by kernel_rfl) (by kernel_rfl) (by kernel_rfl) (by kernel_rfl) (by kernel_rfl) (frz_len _ _) rfl ?_
  obtain ⟨hg1, H⟩ := guard_some H
  refine LAt.makeG tOk (t := 27) (ty := 27) (e := 3) (x := (.tmp 6)) (d := 7) (g := none) ⟨.int .i64, 1, 8, [.lit (.int .i64 0)]⟩ (x0.length : Int) ((List.replicate ((x0.length : Int)).toNat 0).map intRow) _ (by kernel_rfl) (by kernel_rfl) (by kernel_rfl) (by kernel_rfl) (by kernel_rfl) (by kernel_rfl) hg1 (by kernel_rfl) (rep_map _ rfl) rfl ?_
  refine LAt.moveU (T := lk tab) (ty := 27) (x := (.tmp 7)) (d := 3) (g := none) false [.sl true 1 ((List.replicate ((x0.length : Int)).toNat 0).map intRow)] (by kernel_rfl) (by kernel_rfl) (by kernel_rfl) (by kernel_rfl) (by kernel_rfl) ?_
  refine LAt.doneU [3, 2, 0] [] (by kernel_rfl) ?_
  refine Tr.seq ?_
  refine Tr.rs ?_
  refine LAt.runU tOk 1 (by kernel_rfl) ?_
  refine LAt.doneU [4, 3, 2, 0] [] (by kernel_rfl) ?_
  obtain ⟨o5, eo5, Ho5⟩ := bind_some H
  clear H
  refine Tr.mid (ι := (List Int)) (fun v => ⟨22, 0, [(3, .val false [.sl true 1 (v.map intRow)]), (2, .val false [.sl true 1 (([] : List Int).map intRow)])], []⟩) (fun v => laws_toIntS_J1 n v = some r) ?_ ?_
  · refine Tr.block ?_
    refine Tr.loop (ι := Nat × (Int × (List Int))) (fun v => ⟨22, 0, [(4, .val false [.lit (.int .i64 v.2.1)]), (3, .val false [.sl true 1 (v.2.2.map intRow)]), (2, .val false [.sl true 1 (([] : List Int).map intRow)]), (0, .val false [.sl false 1 (CV.frzEs (x0.map intRow))])], []⟩) (fun v => laws_toIntS_L2 n v.1 x0 v.2.1 v.2.2 = some o5) (fun v => v.1) (n, (0, (List.replicate ((x0.length : Int)).toNat 0))) eo5 (St.sub_of [4, 3, 2, 0] [] (by kernel_rfl)) ?_
    rintro ⟨mo5, y2, y3⟩ H
    have H : laws_toIntS_L2 n mo5 x0 y2 y3 = some o5 := H
    obtain _ | mo5 := mo5
    · cases (show (none : Option _) = some o5 from H)
    · rw [laws_toIntS_L2] at H
      refine Tr.seq ?_
      refine Tr.rs ?_
      refine LAt.runU tOk 2 (by kernel_rfl) ?_
      refine LAt.lenE tOk (t := 27) (ty := 3) (e := 3) (x := (.tmp 9)) (d := 10) (g := none) ⟨(.slot 9), [], 0, false, 1, (CV.frzEs (x0.map intRow))⟩ (x0).length _ (by kernel_rfl) (by kernel_rfl) (by kernel_rfl) (by kernel_rfl) (by kernel_rfl) (frz_len _ _) rfl ?_
      refine LAt.runU tOk 1 (by kernel_rfl) ?_
      refine LAt.doneU [11, 10, 9, 8, 4, 3, 2, 0] [] (by kernel_rfl) ?_
      refine Tr.to ⟨22, 0, [(11, .val false [.lit (.bool (decide (y2 < (x0.length : Int))))]), (10, .val false [.lit (.int .i64 (x0.length : Int))]), (9, .val false [.sl false 1 (CV.frzEs (x0.map intRow))]), (8, .val false [.lit (.int .i64 y2)]), (4, .val false [.lit (.int .i64 y2)]), (3, .val false [.sl true 1 (y3.map intRow)]), (2, .val false [.sl true 1 (([] : List Int).map intRow)]), (0, .val false [.sl false 1 (CV.frzEs (x0.map intRow))])], []⟩ (by kernel_rfl) ?_
      cases h1 : (decide (y2 < (x0.length : Int)))
      · have H := bifF h1 H
        refine Tr.cond (b := false) (by kernel_rfl) (fun h => nomatch h) (fun _ => ?_)
        refine Tr.exit ?_
        refine And.intro (fun _ => ?_) (fun h => absurd rfl h)
        have H := Option.some.inj H
        subst H
        have H := Ho5
        dsimp only at H
        exact Exists.intro y3 (And.intro H (St.sub_of [3, 2] [] (by kernel_rfl)))
      · have H := bifT h1 H
        refine Tr.cond (b := true) (by kernel_rfl) (fun _ => ?_) (fun h => nomatch h)
        refine Tr.skip ?_
        show Tr _ _ _ _ _
        refine Tr.seq ?_
        refine Tr.block ?_
        refine Tr.at ?_
        refine LAt.runU tOk 4 (by kernel_rfl) ?_
        obtain ⟨v6, ev6, H⟩ := bind_some H
        refine LAt.indexF tOk (t := 27) (ty := 0) (x := (.tmp 16)) (y := (.tmp 17)) (d := 18) (g := none) ⟨(.slot 16), [], 0, false, 1, (CV.frzEs (x0.map intRow))⟩ y2 [.lit (.int .i64 v6)] _ (by kernel_rfl) (by kernel_rfl) (by kernel_rfl) (by kernel_rfl) rfl (idx_isF ev6) rfl ?_
        refine LAt.runU tOk 1 (by kernel_rfl) ?_
        obtain ⟨v7, ev7, H⟩ := bind_some H
        refine LAt.indexO tOk (t := 27) (ty := 0) (x := (.tmp 14)) (y := (.tmp 15)) (d := 20) (g := none) ⟨(.slot 3), [], 0, true, 1, (y3.map intRow)⟩ y2 (y2.toNat) (intRow v7) _ (by kernel_rfl) (by kernel_rfl) (by kernel_rfl) (by kernel_rfl) rfl (by kernel_rfl) (idx_isE ev7) rfl rfl ?_
        refine LAt.storeK tOk (t := 3) (ty := 0) (ad := (.tmp 20)) (x := (.tmp 19)) (g := none) ⟨.int .i64, 1, 8, [.lit (.int .i64 0)]⟩ false [.lit (.int .i64 v6)] (.slot 3) [(0, (y2.toNat))] [(0, (y2.toNat))] 1 0 [.sl true 1 (y3.map intRow)] (intRow v7) [.sl true 1 (y3.map intRow)] [.sl true 1 ((y3.set (y2.toNat) v6).map intRow)] (by kernel_rfl) (by kernel_rfl) (by kernel_rfl) (by kernel_rfl) (by kernel_rfl) (by kernel_rfl) (getQ_elem rfl (idx_get ev7).2) rfl (by intro h; cases h) (by kernel_rfl) (by kernel_rfl) (by kernel_rfl) (modQ_elem (new := v6) rfl (idx_get ev7).2 rfl) (by kernel_rfl) ?_
        refine LAt.doneU [3, 20, 19, 18, 17, 16, 15, 11, 10, 9, 8, 4, 2, 0, 14] [] (by kernel_rfl) ?_
        show Tr _ _ _ _ _
        refine Tr.at ?_
        refine LAt.runU tOk 3 (by kernel_rfl) ?_
        refine LAt.doneU [4, 13, 12, 3, 20, 19, 18, 17, 16, 15, 11, 10, 9, 8, 2, 0, 14] [] (by kernel_rfl) ?_
        exact Exists.intro (mo5, ((IntKind.wrap .i64 (y2 + 1)), (y3.set (y2.toNat) v6))) (And.intro H (And.intro (Nat.lt_succ_self mo5) (St.sub_of [4, 3, 2, 0] [] (by kernel_rfl))))
  · rintro y4 H
    have H : (laws_toIntS_J1 n y4) = some r := H
    unfold laws_toIntS_J1 at H
    show Tr _ _ _ _ _
    refine Tr.rs ?_
    refine LAt.runU tOk 2 (by kernel_rfl) ?_
    refine LAt.doneU [2, 3] [] (by kernel_rfl) ?_
    refine Tr.ret ?_
    have H := Option.some.inj H
    subst H
    exact Fin.of _ [(false, [.sl true 1 (y4.map intRow)])] (by kernel_rfl) rfl rfl

def laws_toVtabF (n : Nat) (x0 : Vtab) : Option (Vtab) :=
  ((laws_toVrowSF n x0.Rows).bind fun r1 => ((laws_toIntSF n x0.Pvid).bind fun r2 => (some (⟨r1, r2⟩ : Vtab))))
/-- loop.example/g00326/laws.toVtab -/
theorem laws_toVtab (n : Nat) (x0 : Vtab) (r : Vtab) (H : laws_toVtabF n x0 = some r) : LCall Try.prog 102 [.val true (CV.frzRow (Vtab.row x0))] [.val true (Vtab.row r)] [] := by
  refine LCall.of_body tOk Try.func102 rfl (c := (.seq (.region 0 (rg Try.f102 0) false) (.seq (.region 1 (rg Try.f102 1) false) (.seq (.region 2 (rg Try.f102 2) false) (.seq (.region 3 (rg Try.f102 3) false) (.seq (.region 4 (rg Try.f102 4) false) .ret)))))) (by kernel_rfl) (Nat.le_of_ble_eq_true (by kernel_rfl)) 0 (rs := [.cell 2 59]) rfl [] .nil [(true, (Vtab.row r))] [] [] fun cx => ?_
  show Tr _ _ _ ⟨13, 0, [(0, .val true (CV.frzRow (Vtab.row x0)))], []⟩ _
  unfold laws_toVtabF at H
  refine Tr.rs ?_
  refine LAt.runU tOk 2 (by kernel_rfl) ?_
  refine LAt.doneU [2, 1] [2, 1] (by kernel_rfl) ?_
  refine Tr.rs ?_
  refine LAt.runU tOk 1 (by kernel_rfl) ?_
  refine LAt.doneU [3, 2, 1] [3, 2, 1] (by kernel_rfl) ?_
  refine Tr.rs ?_
  refine LAt.runU tOk 2 (by kernel_rfl) ?_
  obtain ⟨r1, er1, H⟩ := bind_some H
  refine LAt.callU tOk [.rd] (f := 157) (av := #[.tmp 5]) (ats := #[49]) (d := (some 6)) (ty := 57) (g := none) (by kernel_rfl) (by kernel_rfl) (by kernel_rfl) [] (laws_toVrowS n x0.Rows r1 er1) (by kernel_rfl) (.inl rfl) ?_
  refine LAt.runU tOk 2 (by kernel_rfl) ?_
  refine LAt.doneU [3, 2, 1] [3, 2, 1] (by kernel_rfl) ?_
  refine Tr.rs ?_
  refine LAt.runU tOk 2 (by kernel_rfl) ?_
  obtain ⟨r2, er2, H⟩ := bind_some H
  refine LAt.callU tOk [.rd] (f := 18) (av := #[.tmp 9]) (ats := #[27]) (d := (some 10)) (ty := 27) (g := none) (by kernel_rfl) (by kernel_rfl) (by kernel_rfl) [] (laws_toIntS n x0.Pvid r2 er2) (by kernel_rfl) (.inl rfl) ?_
  refine LAt.runU tOk 2 (by kernel_rfl) ?_
  refine LAt.doneU [3, 2] [3, 2] (by kernel_rfl) ?_
  refine Tr.rs ?_
  refine LAt.runU tOk 2 (by kernel_rfl) ?_
  refine LAt.doneU [2] [2] (by kernel_rfl) ?_
  refine Tr.ret ?_
  have H := Option.some.inj H
  subst H
  exact Fin.of _ [(true, [.sl true 3 (r1.map Vrow.row), .sl true 1 (r2.map intRow)])] (by kernel_rfl) rfl rfl

def laws_toBridgeF (n : Nat) (x0 : Bridge) : Option (Bridge) :=
  ((laws_toPtSF n x0.Ports).bind fun r1 => ((laws_toFentSF n x0.F).bind fun r2 => ((laws_toVtabF n x0.V).bind fun r3 => (some (⟨x0.Id, x0.Name, r1, r2, r3, x0.Ticks, x0.Parse, x0.Word, x0.Drops, x0.Vers⟩ : Bridge)))))
/-- loop.example/g00326/laws.toBridge -/
theorem laws_toBridge (n : Nat) (x0 : Bridge) (r : Bridge) (H : laws_toBridgeF n x0 = some r) : LCall Try.prog 37 [.val true (CV.frzRow (Bridge.row x0))] [.val true (Bridge.row r)] [] := by
  refine LCall.of_body tOk Try.func37 rfl (c := (.seq (.region 0 (rg Try.f37 0) false) (.seq (.region 1 (rg Try.f37 1) false) (.seq (.region 2 (rg Try.f37 2) false) (.seq (.region 3 (rg Try.f37 3) false) (.seq (.region 4 (rg Try.f37 4) false) (.seq (.region 5 (rg Try.f37 5) false) (.seq (.region 6 (rg Try.f37 6) false) (.seq (.region 7 (rg Try.f37 7) false) (.seq (.region 8 (rg Try.f37 8) false) (.seq (.region 9 (rg Try.f37 9) false) (.seq (.region 10 (rg Try.f37 10) false) (.seq (.region 11 (rg Try.f37 11) false) (.seq (.region 12 (rg Try.f37 12) false) .ret)))))))))))))) (by kernel_rfl) (Nat.le_of_ble_eq_true (by kernel_rfl)) 0 (rs := [.cell 2 61]) rfl [] .nil [(true, (Bridge.row r))] [] [] fun cx => ?_
  show Tr _ _ _ ⟨38, 0, [(0, .val true (CV.frzRow (Bridge.row x0)))], []⟩ _
  unfold laws_toBridgeF at H
  refine Tr.rs ?_
  refine LAt.runU tOk 2 (by kernel_rfl) ?_
  refine LAt.doneU [2, 1] [2, 1] (by kernel_rfl) ?_
  refine Tr.rs ?_
  refine LAt.runU tOk 1 (by kernel_rfl) ?_
  refine LAt.doneU [3, 2, 1] [3, 2, 1] (by kernel_rfl) ?_
  refine Tr.rs ?_
  refine LAt.runU tOk 4 (by kernel_rfl) ?_
  refine LAt.doneU [3, 2, 1] [3, 2, 1] (by kernel_rfl) ?_
  refine Tr.rs ?_
  refine LAt.runU tOk 4 (by kernel_rfl) ?_
  refine LAt.doneU [3, 2, 1] [3, 2, 1] (by kernel_rfl) ?_
  refine Tr.rs ?_
  refine LAt.runU tOk 2 (by kernel_rfl) ?_
  obtain ⟨r1, er1, H⟩ := bind_some H
  refine LAt.callU tOk [.rd] (f := 100) (av := #[.tmp 11]) (ats := #[47]) (d := (some 12)) (ty := 55) (g := none) (by kernel_rfl) (by kernel_rfl) (by kernel_rfl) [] (laws_toPtS n x0.Ports r1 er1) (by kernel_rfl) (.inl rfl) ?_
  refine LAt.runU tOk 2 (by kernel_rfl) ?_
  refine LAt.doneU [3, 2, 1] [3, 2, 1] (by kernel_rfl) ?_
  refine Tr.rs ?_
  refine LAt.runU tOk 2 (by kernel_rfl) ?_
  obtain ⟨r2, er2, H⟩ := bind_some H
  refine LAt.callU tOk [.rd] (f := 101) (av := #[.tmp 15]) (ats := #[48]) (d := (some 16)) (ty := 56) (g := none) (by kernel_rfl) (by kernel_rfl) (by kernel_rfl) [] (laws_toFentS n x0.F r2 er2) (by kernel_rfl) (.inl rfl) ?_
  refine LAt.runU tOk 2 (by kernel_rfl) ?_
  refine LAt.doneU [3, 2, 1] [3, 2, 1] (by kernel_rfl) ?_
  refine Tr.rs ?_
  refine LAt.runU tOk 2 (by kernel_rfl) ?_
  obtain ⟨r3, er3, H⟩ := bind_some H
  refine LAt.callU tOk [.rd] (f := 102) (av := #[.tmp 19]) (ats := #[51]) (d := (some 20)) (ty := 59) (g := none) (by kernel_rfl) (by kernel_rfl) (by kernel_rfl) [] (laws_toVtab n x0.V r3 er3) (by kernel_rfl) (.inl rfl) ?_
  refine LAt.runU tOk 2 (by kernel_rfl) ?_
  refine LAt.doneU [3, 2, 1] [3, 2, 1] (by kernel_rfl) ?_
  refine Tr.rs ?_
  refine LAt.runU tOk 4 (by kernel_rfl) ?_
  refine LAt.doneU [3, 2, 1] [3, 2, 1] (by kernel_rfl) ?_
  refine Tr.rs ?_
  refine LAt.runU tOk 4 (by kernel_rfl) ?_
  refine LAt.doneU [3, 2, 1] [3, 2, 1] (by kernel_rfl) ?_
  refine Tr.rs ?_
  refine LAt.runU tOk 4 (by kernel_rfl) ?_
  refine LAt.doneU [3, 2, 1] [3, 2, 1] (by kernel_rfl) ?_
  refine Tr.rs ?_
  refine LAt.runU tOk 4 (by kernel_rfl) ?_
  refine LAt.doneU [3, 2, 1] [3, 2, 1] (by kernel_rfl) ?_
  refine Tr.rs ?_
  refine LAt.runU tOk 4 (by kernel_rfl) ?_
  refine LAt.doneU [3, 2] [3, 2] (by kernel_rfl) ?_
  refine Tr.rs ?_
  refine LAt.runU tOk 2 (by kernel_rfl) ?_
  refine LAt.doneU [2] [2] (by kernel_rfl) ?_
  refine Tr.ret ?_
  have H := Option.some.inj H
  subst H
  exact Fin.of _ [(true, [.lit (.int .i64 x0.Id), .lit (.string x0.Name), .sl true 8 (r1.map Pt.row), .sl true 5 (r2.map Fent.row), .sl true 3 (r3.Rows.map Vrow.row), .sl true 1 (r3.Pvid.map intRow), .lit (.int .i64 x0.Ticks), .lit (.int .i64 x0.Parse), .lit (.int .i64 x0.Word), .lit (.int .i64 x0.Drops), .lit (.int .i64 x0.Vers)])] (by kernel_rfl) rfl rfl

def laws_toBridgeS_J1 (n : Nat) (y4 : (List Bridge)) : Option ((List Bridge)) :=
  (some y4)
def laws_toBridgeS_L2 (n : Nat) : Nat → (List Bridge) → Int → (List Bridge) → Option (((List Bridge)) ⊕ ((List Bridge)))
  | 0, _, _, _ => none
  | mo5 + 1, x0, y2, y3 => (bif (decide (y2 < (x0.length : Int))) then ((idx x0 y2).bind fun v6 => ((laws_toBridgeF n v6).bind fun r7 => ((idx y3 y2).bind fun v8 => (laws_toBridgeS_L2 n mo5 x0 (IntKind.wrap .i64 (y2 + 1)) (y3.set (y2.toNat) r7))))) else (some (Sum.inl y3)))
def laws_toBridgeSF (n : Nat) (x0 : (List Bridge)) : Option ((List Bridge)) :=
  (bif (decide (0 ≤ (x0.length : Int)) && decide ((x0.length : Int) ≤ 268435456)) then ((laws_toBridgeS_L2 n n x0 0 (List.replicate ((x0.length : Int)).toNat (⟨0, (⟨#[]⟩ : ByteArray), ([] : List Pt), ([] : List Fent), (⟨([] : List Vrow), ([] : List Int)⟩ : Vtab), 0, 0, 0, 0, 0⟩ : Bridge))).bind fun o => match o with | .inl y4 => (laws_toBridgeS_J1 n y4) | .inr r => some r) else none)
/-- loop.example/g00326/laws.toBridgeS -/
theorem laws_toBridgeS (n : Nat) (x0 : (List Bridge)) (r : (List Bridge)) (H : laws_toBridgeSF n x0 = some r) : LCall Try.prog 67 [.val false [.sl false 11 (CV.frzEs (x0.map Bridge.row))]] [.val false [.sl true 11 (r.map Bridge.row)]] [] := by
  refine LCall.of_body tOk Try.func67 rfl (c := (.seq (.region 0 (rg Try.f67 0) false) (.seq (.region 1 (rg Try.f67 1) false) (.seq (.seq (.region 2 (rg Try.f67 2) false) (.block 0 (.loop (.seq (.seq (.region 3 (rg Try.f67 3) false) (.cond (.tmp 11) .skip (.exit 0))) (.seq (.block 1 (.region 5 (rg Try.f67 5) false)) (.region 4 (rg Try.f67 4) false)))))) (.seq (.region 6 (rg Try.f67 6) false) .ret))))) (by kernel_rfl) (Nat.le_of_ble_eq_true (by kernel_rfl)) 0 (rs := [.tmp 2]) rfl [] .nil [(false, [.sl true 11 (r.map Bridge.row)])] [] [] fun cx => ?_
  show Tr _ _ _ ⟨23, 0, [(0, .val false [.sl false 11 (CV.frzEs (x0.map Bridge.row))])], []⟩ _
  unfold laws_toBridgeSF at H
  refine Tr.rs ?_
  refine LAt.runU tOk 1 (by kernel_rfl) ?_
  refine LAt.doneU [2, 0] [] (by kernel_rfl) ?_
  refine Tr.rs ?_
  refine LAt.runU tOk 1 (by kernel_rfl) ?_
  refine LAt.lenE tOk (t := 22) (ty := 3) (e := 53) (x := (.tmp 5)) (d := 6) (g := none) ⟨(.slot 5), [], 0, false, 11, (CV.frzEs (x0.map Bridge.row))⟩ (x0).length _ (by kernel_rfl) (by kernel_rfl) (by kernel_rfl) (by kernel_rfl) (by kernel_rfl) (frz_len _ _) rfl ?_
  obtain ⟨hg1, H⟩ := guard_some H
  refine LAt.makeG tOk (t := 30) (ty := 30) (e := 61) (x := (.tmp 6)) (d := 7) (g := none) ⟨.st [(0, 1, 3), (1, 1, 9), (2, 1, 55), (3, 1, 56), (4, 2, 59), (6, 1, 3), (7, 1, 3), (8, 1, 3), (9, 1, 3), (10, 1, 3)], 11, 160, [.lit (.int .i64 0), .lit (.string ⟨#[]⟩), .sl true 8 [], .sl true 5 [], .sl true 3 [], .sl true 1 [], .lit (.int .i64 0), .lit (.int .i64 0), .lit (.int .i64 0), .lit (.int .i64 0), .lit (.int .i64 0)]⟩ (x0.length : Int) ((List.replicate ((x0.length : Int)).toNat (⟨0, (⟨#[]⟩ : ByteArray), ([] : List Pt), ([] : List Fent), (⟨([] : List Vrow), ([] : List Int)⟩ : Vtab), 0, 0, 0, 0, 0⟩ : Bridge)).map Bridge.row) _ (by kernel_rfl) (by kernel_rfl) (by kernel_rfl) (by kernel_rfl) (by kernel_rfl) (by kernel_rfl) hg1 (by kernel_rfl) (rep_map _ rfl) rfl ?_
  refine LAt.moveU (T := lk tab) (ty := 30) (x := (.tmp 7)) (d := 3) (g := none) false [.sl true 11 ((List.replicate ((x0.length : Int)).toNat (⟨0, (⟨#[]⟩ : ByteArray), ([] : List Pt), ([] : List Fent), (⟨([] : List Vrow), ([] : List Int)⟩ : Vtab), 0, 0, 0, 0, 0⟩ : Bridge)).map Bridge.row)] (by kernel_rfl) (by kernel_rfl) (by kernel_rfl) (by kernel_rfl) (by kernel_rfl) ?_
  refine LAt.doneU [3, 2, 0] [] (by kernel_rfl) ?_
  refine Tr.seq ?_
  refine Tr.rs ?_
  refine LAt.runU tOk 1 (by kernel_rfl) ?_
  refine LAt.doneU [4, 3, 2, 0] [] (by kernel_rfl) ?_
  obtain ⟨o5, eo5, Ho5⟩ := bind_some H
  clear H
  refine Tr.mid (ι := (List Bridge)) (fun v => ⟨23, 0, [(3, .val false [.sl true 11 (v.map Bridge.row)]), (2, .val false [.sl true 11 (([] : List Bridge).map Bridge.row)])], []⟩) (fun v => laws_toBridgeS_J1 n v = some r) ?_ ?_
  · refine Tr.block ?_
    refine Tr.loop (ι := Nat × (Int × (List Bridge))) (fun v => ⟨23, 0, [(4, .val false [.lit (.int .i64 v.2.1)]), (3, .val false [.sl true 11 (v.2.2.map Bridge.row)]), (2, .val false [.sl true 11 (([] : List Bridge).map Bridge.row)]), (0, .val false [.sl false 11 (CV.frzEs (x0.map Bridge.row))])], []⟩) (fun v => laws_toBridgeS_L2 n v.1 x0 v.2.1 v.2.2 = some o5) (fun v => v.1) (n, (0, (List.replicate ((x0.length : Int)).toNat (⟨0, (⟨#[]⟩ : ByteArray), ([] : List Pt), ([] : List Fent), (⟨([] : List Vrow), ([] : List Int)⟩ : Vtab), 0, 0, 0, 0, 0⟩ : Bridge)))) eo5 (St.sub_of [4, 3, 2, 0] [] (by kernel_rfl)) ?_
    rintro ⟨mo5, y2, y3⟩ H
    have H : laws_toBridgeS_L2 n mo5 x0 y2 y3 = some o5 := H
    obtain _ | mo5 := mo5
    · cases (show (none : Option _) = some o5 from H)
    · rw [laws_toBridgeS_L2] at H
      refine Tr.seq ?_
      refine Tr.rs ?_
      refine LAt.runU tOk 2 (by kernel_rfl) ?_
      refine LAt.lenE tOk (t := 22) (ty := 3) (e := 53) (x := (.tmp 9)) (d := 10) (g := none) ⟨(.slot 9), [], 0, false, 11, (CV.frzEs (x0.map Bridge.row))⟩ (x0).length _ (by kernel_rfl) (by kernel_rfl) (by kernel_rfl) (by kernel_rfl) (by kernel_rfl) (frz_len _ _) rfl ?_
      refine LAt.runU tOk 1 (by kernel_rfl) ?_
      refine LAt.doneU [11, 10, 9, 8, 4, 3, 2, 0] [] (by kernel_rfl) ?_
      refine Tr.to ⟨23, 0, [(11, .val false [.lit (.bool (decide (y2 < (x0.length : Int))))]), (10, .val false [.lit (.int .i64 (x0.length : Int))]), (9, .val false [.sl false 11 (CV.frzEs (x0.map Bridge.row))]), (8, .val false [.lit (.int .i64 y2)]), (4, .val false [.lit (.int .i64 y2)]), (3, .val false [.sl true 11 (y3.map Bridge.row)]), (2, .val false [.sl true 11 (([] : List Bridge).map Bridge.row)]), (0, .val false [.sl false 11 (CV.frzEs (x0.map Bridge.row))])], []⟩ (by kernel_rfl) ?_
      cases h1 : (decide (y2 < (x0.length : Int)))
      · have H := bifF h1 H
        refine Tr.cond (b := false) (by kernel_rfl) (fun h => nomatch h) (fun _ => ?_)
        refine Tr.exit ?_
        refine And.intro (fun _ => ?_) (fun h => absurd rfl h)
        have H := Option.some.inj H
        subst H
        have H := Ho5
        dsimp only at H
        exact Exists.intro y3 (And.intro H (St.sub_of [3, 2] [] (by kernel_rfl)))
      · have H := bifT h1 H
        refine Tr.cond (b := true) (by kernel_rfl) (fun _ => ?_) (fun h => nomatch h)
        refine Tr.skip ?_
        show Tr _ _ _ _ _
        refine Tr.seq ?_
        refine Tr.block ?_
        refine Tr.at ?_
        refine LAt.runU tOk 4 (by kernel_rfl) ?_
        obtain ⟨v6, ev6, H⟩ := bind_some H
        refine LAt.indexF tOk (t := 22) (ty := 0) (x := (.tmp 16)) (y := (.tmp 17)) (d := 18) (g := none) ⟨(.slot 16), [], 0, false, 11, (CV.frzEs (x0.map Bridge.row))⟩ y2 (CV.frzRow (Bridge.row v6)) _ (by kernel_rfl) (by kernel_rfl) (by kernel_rfl) (by kernel_rfl) rfl (idx_isF ev6) rfl ?_
        refine LAt.runU tOk 1 (by kernel_rfl) ?_
        obtain ⟨r7, er7, H⟩ := bind_some H
        refine LAt.callU tOk [.rd] (f := 37) (av := #[.tmp 19]) (ats := #[53]) (d := (some 20)) (ty := 61) (g := none) (by kernel_rfl) (by kernel_rfl) (by kernel_rfl) [] (laws_toBridge n v6 r7 er7) (by kernel_rfl) (.inl rfl) ?_
        obtain ⟨v8, ev8, H⟩ := bind_some H
        refine LAt.indexO tOk (t := 30) (ty := 0) (x := (.tmp 14)) (y := (.tmp 15)) (d := 21) (g := none) ⟨(.slot 3), [], 0, true, 11, (y3.map Bridge.row)⟩ y2 (y2.toNat) (Bridge.row v8) _ (by kernel_rfl) (by kernel_rfl) (by kernel_rfl) (by kernel_rfl) rfl (by kernel_rfl) (idx_isE ev8) rfl rfl ?_
        refine LAt.storeK tOk (t := 61) (ty := 0) (ad := (.tmp 21)) (x := (.tmp 20)) (g := none) ⟨.st [(0, 1, 3), (1, 1, 9), (2, 1, 55), (3, 1, 56), (4, 2, 59), (6, 1, 3), (7, 1, 3), (8, 1, 3), (9, 1, 3), (10, 1, 3)], 11, 160, [.lit (.int .i64 0), .lit (.string ⟨#[]⟩), .sl true 8 [], .sl true 5 [], .sl true 3 [], .sl true 1 [], .lit (.int .i64 0), .lit (.int .i64 0), .lit (.int .i64 0), .lit (.int .i64 0), .lit (.int .i64 0)]⟩ true (Bridge.row r7) (.slot 3) [(0, (y2.toNat))] [(0, (y2.toNat))] 11 0 [.sl true 11 (y3.map Bridge.row)] (Bridge.row v8) [.sl true 11 (y3.map Bridge.row)] [.sl true 11 ((y3.set (y2.toNat) r7).map Bridge.row)] (by kernel_rfl) (by kernel_rfl) (by kernel_rfl) (by kernel_rfl) (by kernel_rfl) (by kernel_rfl) (getQ_elem rfl (idx_get ev8).2) rfl (by intro h; cases h) (by kernel_rfl) (by kernel_rfl) (by kernel_rfl) (modQ_elem (new := r7) rfl (idx_get ev8).2 rfl) (by kernel_rfl) ?_
        refine LAt.doneU [3, 19, 18, 17, 16, 15, 11, 10, 9, 8, 4, 2, 0, 14] [] (by kernel_rfl) ?_
        show Tr _ _ _ _ _
        refine Tr.at ?_
        refine LAt.runU tOk 3 (by kernel_rfl) ?_
        refine LAt.doneU [4, 13, 12, 3, 19, 18, 17, 16, 15, 11, 10, 9, 8, 2, 0, 14] [] (by kernel_rfl) ?_
        exact Exists.intro (mo5, ((IntKind.wrap .i64 (y2 + 1)), (y3.set (y2.toNat) r7))) (And.intro H (And.intro (Nat.lt_succ_self mo5) (St.sub_of [4, 3, 2, 0] [] (by kernel_rfl))))
  · rintro y4 H
    have H : (laws_toBridgeS_J1 n y4) = some r := H
    unfold laws_toBridgeS_J1 at H
    show Tr _ _ _ _ _
    refine Tr.rs ?_
    refine LAt.runU tOk 2 (by kernel_rfl) ?_
    refine LAt.doneU [2, 3] [] (by kernel_rfl) ?_
    refine Tr.ret ?_
    have H := Option.some.inj H
    subst H
    exact Fin.of _ [(false, [.sl true 11 (y4.map Bridge.row)])] (by kernel_rfl) rfl rfl

def laws_toLinkF (n : Nat) (x0 : Link) : Option (Link) :=
  (some x0)
/-- loop.example/g00326/laws.toLink -/
theorem laws_toLink (n : Nat) (x0 : Link) (r : Link) (H : laws_toLinkF n x0 = some r) : LCall Try.prog 132 [.val true (CV.frzRow (Link.row x0))] [.val true (Link.row r)] [] := by
  refine LCall.of_body tOk Try.func132 rfl (c := (.seq (.region 0 (rg Try.f132 0) false) (.seq (.region 1 (rg Try.f132 1) false) (.seq (.region 2 (rg Try.f132 2) false) (.seq (.region 3 (rg Try.f132 3) false) (.seq (.region 4 (rg Try.f132 4) false) (.seq (.region 5 (rg Try.f132 5) false) (.seq (.region 6 (rg Try.f132 6) false) .ret)))))))) (by kernel_rfl) (Nat.le_of_ble_eq_true (by kernel_rfl)) 0 (rs := [.cell 2 96]) rfl [] .nil [(true, (Link.row r))] [] [] fun cx => ?_
  show Tr _ _ _ ⟨17, 0, [(0, .val true (Link.row x0))], []⟩ _
  unfold laws_toLinkF at H
  refine Tr.rs ?_
  refine LAt.runU tOk 2 (by kernel_rfl) ?_
  refine LAt.doneU [2, 1] [2, 1] (by kernel_rfl) ?_
  refine Tr.rs ?_
  refine LAt.runU tOk 1 (by kernel_rfl) ?_
  refine LAt.doneU [3, 2, 1] [3, 2, 1] (by kernel_rfl) ?_
  refine Tr.rs ?_
  refine LAt.runU tOk 4 (by kernel_rfl) ?_
  refine LAt.doneU [3, 2, 1] [3, 2, 1] (by kernel_rfl) ?_
  refine Tr.rs ?_
  refine LAt.runU tOk 4 (by kernel_rfl) ?_
  refine LAt.doneU [3, 2, 1] [3, 2, 1] (by kernel_rfl) ?_
  refine Tr.rs ?_
  refine LAt.runU tOk 4 (by kernel_rfl) ?_
  refine LAt.doneU [3, 2, 1] [3, 2, 1] (by kernel_rfl) ?_
  refine Tr.rs ?_
  refine LAt.runU tOk 4 (by kernel_rfl) ?_
  refine LAt.doneU [3, 2] [3, 2] (by kernel_rfl) ?_
  refine Tr.rs ?_
  refine LAt.runU tOk 2 (by kernel_rfl) ?_
  refine LAt.doneU [2] [2] (by kernel_rfl) ?_
  refine Tr.ret ?_
  have H := Option.some.inj H
  subst H
  exact Fin.of _ [(true, (Link.row x0))] (by kernel_rfl) rfl rfl

def laws_toLinkS_J1 (n : Nat) (y4 : (List Link)) : Option ((List Link)) :=
  (some y4)
def laws_toLinkS_L2 (n : Nat) : Nat → (List Link) → Int → (List Link) → Option (((List Link)) ⊕ ((List Link)))
  | 0, _, _, _ => none
  | mo5 + 1, x0, y2, y3 => (bif (decide (y2 < (x0.length : Int))) then ((idx x0 y2).bind fun v6 => ((laws_toLinkF n v6).bind fun r7 => ((idx y3 y2).bind fun v8 => (laws_toLinkS_L2 n mo5 x0 (IntKind.wrap .i64 (y2 + 1)) (y3.set (y2.toNat) r7))))) else (some (Sum.inl y3)))
def laws_toLinkSF (n : Nat) (x0 : (List Link)) : Option ((List Link)) :=
  (bif (decide (0 ≤ (x0.length : Int)) && decide ((x0.length : Int) ≤ 268435456)) then ((laws_toLinkS_L2 n n x0 0 (List.replicate ((x0.length : Int)).toNat (⟨0, 0, 0, 0⟩ : Link))).bind fun o => match o with | .inl y4 => (laws_toLinkS_J1 n y4) | .inr r => some r) else none)
/-- loop.example/g00326/laws.toLinkS -/
theorem laws_toLinkS (n : Nat) (x0 : (List Link)) (r : (List Link)) (H : laws_toLinkSF n x0 = some r) : LCall Try.prog 68 [.val false [.sl false 4 (CV.frzEs (x0.map Link.row))]] [.val false [.sl true 4 (r.map Link.row)]] [] := by
  refine LCall.of_body tOk Try.func68 rfl (c := (.seq (.region 0 (rg Try.f68 0) false) (.seq (.region 1 (rg Try.f68 1) false) (.seq (.seq (.region 2 (rg Try.f68 2) false) (.block 0 (.loop (.seq (.seq (.region 3 (rg Try.f68 3) false) (.cond (.tmp 11) .skip (.exit 0))) (.seq (.block 1 (.region 5 (rg Try.f68 5) false)) (.region 4 (rg Try.f68 4) false)))))) (.seq (.region 6 (rg Try.f68 6) false) .ret))))) (by kernel_rfl) (Nat.le_of_ble_eq_true (by kernel_rfl)) 0 (rs := [.tmp 2]) rfl [] .nil [(false, [.sl true 4 (r.map Link.row)])] [] [] fun cx => ?_
  show Tr _ _ _ ⟨23, 0, [(0, .val false [.sl false 4 (CV.frzEs (x0.map Link.row))])], []⟩ _
  unfold laws_toLinkSF at H
  refine Tr.rs ?_
  refine LAt.runU tOk 1 (by kernel_rfl) ?_
  refine LAt.doneU [2, 0] [] (by kernel_rfl) ?_
  refine Tr.rs ?_
  refine LAt.runU tOk 1 (by kernel_rfl) ?_
  refine LAt.lenE tOk (t := 23) (ty := 3) (e := 146) (x := (.tmp 5)) (d := 6) (g := none) ⟨(.slot 5), [], 0, false, 4, (CV.frzEs (x0.map Link.row))⟩ (x0).length _ (by kernel_rfl) (by kernel_rfl) (by kernel_rfl) (by kernel_rfl) (by kernel_rfl) (frz_len _ _) rfl ?_
  obtain ⟨hg1, H⟩ := guard_some H
  refine LAt.makeG tOk (t := 31) (ty := 31) (e := 96) (x := (.tmp 6)) (d := 7) (g := none) ⟨.st [(0, 1, 3), (1, 1, 3), (2, 1, 3), (3, 1, 3)], 4, 32, [.lit (.int .i64 0), .lit (.int .i64 0), .lit (.int .i64 0), .lit (.int .i64 0)]⟩ (x0.length : Int) ((List.replicate ((x0.length : Int)).toNat (⟨0, 0, 0, 0⟩ : Link)).map Link.row) _ (by kernel_rfl) (by kernel_rfl) (by kernel_rfl) (by kernel_rfl) (by kernel_rfl) (by kernel_rfl) hg1 (by kernel_rfl) (rep_map _ rfl) rfl ?_
  refine LAt.moveU (T := lk tab) (ty := 31) (x := (.tmp 7)) (d := 3) (g := none) false [.sl true 4 ((List.replicate ((x0.length : Int)).toNat (⟨0, 0, 0, 0⟩ : Link)).map Link.row)] (by kernel_rfl) (by kernel_rfl) (by kernel_rfl) (by kernel_rfl) (by kernel_rfl) ?_
  refine LAt.doneU [3, 2, 0] [] (by kernel_rfl) ?_
  refine Tr.seq ?_
  refine Tr.rs ?_
  refine LAt.runU tOk 1 (by kernel_rfl) ?_
  refine LAt.doneU [4, 3, 2, 0] [] (by kernel_rfl) ?_
  obtain ⟨o5, eo5, Ho5⟩ := bind_some H
  clear H
  refine Tr.mid (ι := (List Link)) (fun v => ⟨23, 0, [(3, .val false [.sl true 4 (v.map Link.row)]), (2, .val false [.sl true 4 (([] : List Link).map Link.row)])], []⟩) (fun v => laws_toLinkS_J1 n v = some r) ?_ ?_
  · refine Tr.block ?_
    refine Tr.loop (ι := Nat × (Int × (List Link))) (fun v => ⟨23, 0, [(4, .val false [.lit (.int .i64 v.2.1)]), (3, .val false [.sl true 4 (v.2.2.map Link.row)]), (2, .val false [.sl true 4 (([] : List Link).map Link.row)]), (0, .val false [.sl false 4 (CV.frzEs (x0.map Link.row))])], []⟩) (fun v => laws_toLinkS_L2 n v.1 x0 v.2.1 v.2.2 = some o5) (fun v => v.1) (n, (0, (List.replicate ((x0.length : Int)).toNat (⟨0, 0, 0, 0⟩ : Link)))) eo5 (St.sub_of [4, 3, 2, 0] [] (by kernel_rfl)) ?_
    rintro ⟨mo5, y2, y3⟩ H
    have H : laws_toLinkS_L2 n mo5 x0 y2 y3 = some o5 := H
    obtain _ | mo5 := mo5
    · cases (show (none : Option _) = some o5 from H)
    · rw [laws_toLinkS_L2] at H
      refine Tr.seq ?_
      refine Tr.rs ?_
      refine LAt.runU tOk 2 (by kernel_rfl) ?_
      refine LAt.lenE tOk (t := 23) (ty := 3) (e := 146) (x := (.tmp 9)) (d := 10) (g := none) ⟨(.slot 9), [], 0, false, 4, (CV.frzEs (x0.map Link.row))⟩ (x0).length _ (by kernel_rfl) (by kernel_rfl) (by kernel_rfl) (by kernel_rfl) (by kernel_rfl) (frz_len _ _) rfl ?_
      refine LAt.runU tOk 1 (by kernel_rfl) ?_
      refine LAt.doneU [11, 10, 9, 8, 4, 3, 2, 0] [] (by kernel_rfl) ?_
      refine Tr.to ⟨23, 0, [(11, .val false [.lit (.bool (decide (y2 < (x0.length : Int))))]), (10, .val false [.lit (.int .i64 (x0.length : Int))]), (9, .val false [.sl false 4 (CV.frzEs (x0.map Link.row))]), (8, .val false [.lit (.int .i64 y2)]), (4, .val false [.lit (.int .i64 y2)]), (3, .val false [.sl true 4 (y3.map Link.row)]), (2, .val false [.sl true 4 (([] : List Link).map Link.row)]), (0, .val false [.sl false 4 (CV.frzEs (x0.map Link.row))])], []⟩ (by kernel_rfl) ?_
      cases h1 : (decide (y2 < (x0.length : Int)))
      · have H := bifF h1 H
        refine Tr.cond (b := false) (by kernel_rfl) (fun h => nomatch h) (fun _ => ?_)
        refine Tr.exit ?_
        refine And.intro (fun _ => ?_) (fun h => absurd rfl h)
        have H := Option.some.inj H
        subst H
        have H := Ho5
        dsimp only at H
        exact Exists.intro y3 (And.intro H (St.sub_of [3, 2] [] (by kernel_rfl)))
      · have H := bifT h1 H
        refine Tr.cond (b := true) (by kernel_rfl) (fun _ => ?_) (fun h => nomatch h)
        refine Tr.skip ?_
        show Tr _ _ _ _ _
        refine Tr.seq ?_
        refine Tr.block ?_
        refine Tr.at ?_
        refine LAt.runU tOk 4 (by kernel_rfl) ?_
        obtain ⟨v6, ev6, H⟩ := bind_some H
        refine LAt.indexF tOk (t := 23) (ty := 0) (x := (.tmp 16)) (y := (.tmp 17)) (d := 18) (g := none) ⟨(.slot 16), [], 0, false, 4, (CV.frzEs (x0.map Link.row))⟩ y2 (Link.row v6) _ (by kernel_rfl) (by kernel_rfl) (by kernel_rfl) (by kernel_rfl) rfl (idx_isF ev6) rfl ?_
        refine LAt.runU tOk 1 (by kernel_rfl) ?_
        obtain ⟨r7, er7, H⟩ := bind_some H
        refine LAt.callU tOk [.rd] (f := 132) (av := #[.tmp 19]) (ats := #[146]) (d := (some 20)) (ty := 96) (g := none) (by kernel_rfl) (by kernel_rfl) (by kernel_rfl) [] (laws_toLink n v6 r7 er7) (by kernel_rfl) (.inl rfl) ?_
        obtain ⟨v8, ev8, H⟩ := bind_some H
        refine LAt.indexO tOk (t := 31) (ty := 0) (x := (.tmp 14)) (y := (.tmp 15)) (d := 21) (g := none) ⟨(.slot 3), [], 0, true, 4, (y3.map Link.row)⟩ y2 (y2.toNat) (Link.row v8) _ (by kernel_rfl) (by kernel_rfl) (by kernel_rfl) (by kernel_rfl) rfl (by kernel_rfl) (idx_isE ev8) rfl rfl ?_
        refine LAt.storeK tOk (t := 96) (ty := 0) (ad := (.tmp 21)) (x := (.tmp 20)) (g := none) ⟨.st [(0, 1, 3), (1, 1, 3), (2, 1, 3), (3, 1, 3)], 4, 32, [.lit (.int .i64 0), .lit (.int .i64 0), .lit (.int .i64 0), .lit (.int .i64 0)]⟩ true (Link.row r7) (.slot 3) [(0, (y2.toNat))] [(0, (y2.toNat))] 4 0 [.sl true 4 (y3.map Link.row)] (Link.row v8) [.sl true 4 (y3.map Link.row)] [.sl true 4 ((y3.set (y2.toNat) r7).map Link.row)] (by kernel_rfl) (by kernel_rfl) (by kernel_rfl) (by kernel_rfl) (by kernel_rfl) (by kernel_rfl) (getQ_elem rfl (idx_get ev8).2) rfl (by intro h; cases h) (by kernel_rfl) (by kernel_rfl) (by kernel_rfl) (modQ_elem (new := r7) rfl (idx_get ev8).2 rfl) (by kernel_rfl) ?_
        refine LAt.doneU [3, 21, 20, 19, 18, 17, 16, 15, 11, 10, 9, 8, 4, 2, 0, 14] [] (by kernel_rfl) ?_
        show Tr _ _ _ _ _
        refine Tr.at ?_
        refine LAt.runU tOk 3 (by kernel_rfl) ?_
        refine LAt.doneU [4, 13, 12, 3, 21, 20, 19, 18, 17, 16, 15, 11, 10, 9, 8, 2, 0, 14] [] (by kernel_rfl) ?_
        exact Exists.intro (mo5, ((IntKind.wrap .i64 (y2 + 1)), (y3.set (y2.toNat) r7))) (And.intro H (And.intro (Nat.lt_succ_self mo5) (St.sub_of [4, 3, 2, 0] [] (by kernel_rfl))))
  · rintro y4 H
    have H : (laws_toLinkS_J1 n y4) = some r := H
    unfold laws_toLinkS_J1 at H
    show Tr _ _ _ _ _
    refine Tr.rs ?_
    refine LAt.runU tOk 2 (by kernel_rfl) ?_
    refine LAt.doneU [2, 3] [] (by kernel_rfl) ?_
    refine Tr.ret ?_
    have H := Option.some.inj H
    subst H
    exact Fin.of _ [(false, [.sl true 4 (y4.map Link.row)])] (by kernel_rfl) rfl rfl

def laws_toSayF (n : Nat) (x0 : Say) : Option (Say) :=
  ((laws_toVecF n x0.V).bind fun r1 => (some (⟨x0.Link, x0.Back, r1⟩ : Say)))
/-- loop.example/g00326/laws.toSay -/
theorem laws_toSay (n : Nat) (x0 : Say) (r : Say) (H : laws_toSayF n x0 = some r) : LCall Try.prog 133 [.val true (CV.frzRow (Say.row x0))] [.val true (Say.row r)] [] := by
  refine LCall.of_body tOk Try.func133 rfl (c := (.seq (.region 0 (rg Try.f133 0) false) (.seq (.region 1 (rg Try.f133 1) false) (.seq (.region 2 (rg Try.f133 2) false) (.seq (.region 3 (rg Try.f133 3) false) (.seq (.region 4 (rg Try.f133 4) false) (.seq (.region 5 (rg Try.f133 5) false) .ret))))))) (by kernel_rfl) (Nat.le_of_ble_eq_true (by kernel_rfl)) 0 (rs := [.cell 2 116]) rfl [] .nil [(true, (Say.row r))] [] [] fun cx => ?_
  show Tr _ _ _ ⟨15, 0, [(0, .val true (Say.row x0))], []⟩ _
  unfold laws_toSayF at H
  refine Tr.rs ?_
  refine LAt.runU tOk 2 (by kernel_rfl) ?_
  refine LAt.doneU [2, 1] [2, 1] (by kernel_rfl) ?_
  refine Tr.rs ?_
  refine LAt.runU tOk 1 (by kernel_rfl) ?_
  refine LAt.doneU [3, 2, 1] [3, 2, 1] (by kernel_rfl) ?_
  refine Tr.rs ?_
  refine LAt.runU tOk 4 (by kernel_rfl) ?_
  refine LAt.doneU [3, 2, 1] [3, 2, 1] (by kernel_rfl) ?_
  refine Tr.rs ?_
  refine LAt.runU tOk 4 (by kernel_rfl) ?_
  refine LAt.doneU [3, 2, 1] [3, 2, 1] (by kernel_rfl) ?_
  refine Tr.rs ?_
  refine LAt.runU tOk 2 (by kernel_rfl) ?_
  obtain ⟨r1, er1, H⟩ := bind_some H
  refine LAt.callU tOk [.rd] (f := 43) (av := #[.tmp 11]) (ats := #[68]) (d := (some 12)) (ty := 70) (g := none) (by kernel_rfl) (by kernel_rfl) (by kernel_rfl) [] (laws_toVec n x0.V r1 er1) (by kernel_rfl) (.inl rfl) ?_
  refine LAt.runU tOk 2 (by kernel_rfl) ?_
  refine LAt.doneU [3, 2] [3, 2] (by kernel_rfl) ?_
  refine Tr.rs ?_
  refine LAt.runU tOk 2 (by kernel_rfl) ?_
  refine LAt.doneU [2] [2] (by kernel_rfl) ?_
  refine Tr.ret ?_
  have H := Option.some.inj H
  subst H
  exact Fin.of _ [(true, [.lit (.int .i64 x0.Link), .lit (.bool x0.Back), .lit (.int .i64 r1.Root), .lit (.int .i64 r1.Cost), .lit (.int .i64 r1.Hops), .lit (.int .i64 r1.Bridge), .lit (.int .i64 r1.Port)])] (by kernel_rfl) rfl rfl

def laws_toSayS_J1 (n : Nat) (y4 : (List Say)) : Option ((List Say)) :=
  (some y4)
def laws_toSayS_L2 (n : Nat) : Nat → (List Say) → Int → (List Say) → Option (((List Say)) ⊕ ((List Say)))
  | 0, _, _, _ => none
  | mo5 + 1, x0, y2, y3 => (bif (decide (y2 < (x0.length : Int))) then ((idx x0 y2).bind fun v6 => ((laws_toSayF n v6).bind fun r7 => ((idx y3 y2).bind fun v8 => (laws_toSayS_L2 n mo5 x0 (IntKind.wrap .i64 (y2 + 1)) (y3.set (y2.toNat) r7))))) else (some (Sum.inl y3)))
def laws_toSaySF (n : Nat) (x0 : (List Say)) : Option ((List Say)) :=
  (bif (decide (0 ≤ (x0.length : Int)) && decide ((x0.length : Int) ≤ 268435456)) then ((laws_toSayS_L2 n n x0 0 (List.replicate ((x0.length : Int)).toNat (⟨0, false, (⟨0, 0, 0, 0, 0⟩ : Vec)⟩ : Say))).bind fun o => match o with | .inl y4 => (laws_toSayS_J1 n y4) | .inr r => some r) else none)
/-- loop.example/g00326/laws.toSayS -/
theorem laws_toSayS (n : Nat) (x0 : (List Say)) (r : (List Say)) (H : laws_toSaySF n x0 = some r) : LCall Try.prog 69 [.val false [.sl false 7 (CV.frzEs (x0.map Say.row))]] [.val false [.sl true 7 (r.map Say.row)]] [] := by
  refine LCall.of_body tOk Try.func69 rfl (c := (.seq (.region 0 (rg Try.f69 0) false) (.seq (.region 1 (rg Try.f69 1) false) (.seq (.seq (.region 2 (rg Try.f69 2) false) (.block 0 (.loop (.seq (.seq (.region 3 (rg Try.f69 3) false) (.cond (.tmp 11) .skip (.exit 0))) (.seq (.block 1 (.region 5 (rg Try.f69 5) false)) (.region 4 (rg Try.f69 4) false)))))) (.seq (.region 6 (rg Try.f69 6) false) .ret))))) (by kernel_rfl) (Nat.le_of_ble_eq_true (by kernel_rfl)) 0 (rs := [.tmp 2]) rfl [] .nil [(false, [.sl true 7 (r.map Say.row)])] [] [] fun cx => ?_
  show Tr _ _ _ ⟨23, 0, [(0, .val false [.sl false 7 (CV.frzEs (x0.map Say.row))])], []⟩ _
  unfold laws_toSaySF at H
  refine Tr.rs ?_
  refine LAt.runU tOk 1 (by kernel_rfl) ?_
  refine LAt.doneU [2, 0] [] (by kernel_rfl) ?_
  refine Tr.rs ?_
  refine LAt.runU tOk 1 (by kernel_rfl) ?_
  refine LAt.lenE tOk (t := 24) (ty := 3) (e := 149) (x := (.tmp 5)) (d := 6) (g := none) ⟨(.slot 5), [], 0, false, 7, (CV.frzEs (x0.map Say.row))⟩ (x0).length _ (by kernel_rfl) (by kernel_rfl) (by kernel_rfl) (by kernel_rfl) (by kernel_rfl) (frz_len _ _) rfl ?_
  obtain ⟨hg1, H⟩ := guard_some H
  refine LAt.makeG tOk (t := 32) (ty := 32) (e := 116) (x := (.tmp 6)) (d := 7) (g := none) ⟨.st [(0, 1, 3), (1, 1, 4), (2, 5, 70)], 7, 56, [.lit (.int .i64 0), .lit (.bool false), .lit (.int .i64 0), .lit (.int .i64 0), .lit (.int .i64 0), .lit (.int .i64 0), .lit (.int .i64 0)]⟩ (x0.length : Int) ((List.replicate ((x0.length : Int)).toNat (⟨0, false, (⟨0, 0, 0, 0, 0⟩ : Vec)⟩ : Say)).map Say.row) _ (by kernel_rfl) (by kernel_rfl) (by kernel_rfl) (by kernel_rfl) (by kernel_rfl) (by kernel_rfl) hg1 (by kernel_rfl) (rep_map _ rfl) rfl ?_
  refine LAt.moveU (T := lk tab) (ty := 32) (x := (.tmp 7)) (d := 3) (g := none) false [.sl true 7 ((List.replicate ((x0.length : Int)).toNat (⟨0, false, (⟨0, 0, 0, 0, 0⟩ : Vec)⟩ : Say)).map Say.row)] (by kernel_rfl) (by kernel_rfl) (by kernel_rfl) (by kernel_rfl) (by kernel_rfl) ?_
  refine LAt.doneU [3, 2, 0] [] (by kernel_rfl) ?_
  refine Tr.seq ?_
  refine Tr.rs ?_
  refine LAt.runU tOk 1 (by kernel_rfl) ?_
  refine LAt.doneU [4, 3, 2, 0] [] (by kernel_rfl) ?_
  obtain ⟨o5, eo5, Ho5⟩ := bind_some H
  clear H
  refine Tr.mid (ι := (List Say)) (fun v => ⟨23, 0, [(3, .val false [.sl true 7 (v.map Say.row)]), (2, .val false [.sl true 7 (([] : List Say).map Say.row)])], []⟩) (fun v => laws_toSayS_J1 n v = some r) ?_ ?_
  · refine Tr.block ?_
    refine Tr.loop (ι := Nat × (Int × (List Say))) (fun v => ⟨23, 0, [(4, .val false [.lit (.int .i64 v.2.1)]), (3, .val false [.sl true 7 (v.2.2.map Say.row)]), (2, .val false [.sl true 7 (([] : List Say).map Say.row)]), (0, .val false [.sl false 7 (CV.frzEs (x0.map Say.row))])], []⟩) (fun v => laws_toSayS_L2 n v.1 x0 v.2.1 v.2.2 = some o5) (fun v => v.1) (n, (0, (List.replicate ((x0.length : Int)).toNat (⟨0, false, (⟨0, 0, 0, 0, 0⟩ : Vec)⟩ : Say)))) eo5 (St.sub_of [4, 3, 2, 0] [] (by kernel_rfl)) ?_
    rintro ⟨mo5, y2, y3⟩ H
    have H : laws_toSayS_L2 n mo5 x0 y2 y3 = some o5 := H
    obtain _ | mo5 := mo5
    · cases (show (none : Option _) = some o5 from H)
    · rw [laws_toSayS_L2] at H
      refine Tr.seq ?_
      refine Tr.rs ?_
      refine LAt.runU tOk 2 (by kernel_rfl) ?_
      refine LAt.lenE tOk (t := 24) (ty := 3) (e := 149) (x := (.tmp 9)) (d := 10) (g := none) ⟨(.slot 9), [], 0, false, 7, (CV.frzEs (x0.map Say.row))⟩ (x0).length _ (by kernel_rfl) (by kernel_rfl) (by kernel_rfl) (by kernel_rfl) (by kernel_rfl) (frz_len _ _) rfl ?_
      refine LAt.runU tOk 1 (by kernel_rfl) ?_
      refine LAt.doneU [11, 10, 9, 8, 4, 3, 2, 0] [] (by kernel_rfl) ?_
      refine Tr.to ⟨23, 0, [(11, .val false [.lit (.bool (decide (y2 < (x0.length : Int))))]), (10, .val false [.lit (.int .i64 (x0.length : Int))]), (9, .val false [.sl false 7 (CV.frzEs (x0.map Say.row))]), (8, .val false [.lit (.int .i64 y2)]), (4, .val false [.lit (.int .i64 y2)]), (3, .val false [.sl true 7 (y3.map Say.row)]), (2, .val false [.sl true 7 (([] : List Say).map Say.row)]), (0, .val false [.sl false 7 (CV.frzEs (x0.map Say.row))])], []⟩ (by kernel_rfl) ?_
      cases h1 : (decide (y2 < (x0.length : Int)))
      · have H := bifF h1 H
        refine Tr.cond (b := false) (by kernel_rfl) (fun h => nomatch h) (fun _ => ?_)
        refine Tr.exit ?_
        refine And.intro (fun _ => ?_) (fun h => absurd rfl h)
        have H := Option.some.inj H
        subst H
        have H := Ho5
        dsimp only at H
        exact Exists.intro y3 (And.intro H (St.sub_of [3, 2] [] (by kernel_rfl)))
      · have H := bifT h1 H
        refine Tr.cond (b := true) (by kernel_rfl) (fun _ => ?_) (fun h => nomatch h)
        refine Tr.skip ?_
        show Tr _ _ _ _ _
        refine Tr.seq ?_
        refine Tr.block ?_
        refine Tr.at ?_
        refine LAt.runU tOk 4 (by kernel_rfl) ?_
        obtain ⟨v6, ev6, H⟩ := bind_some H
        refine LAt.indexF tOk (t := 24) (ty := 0) (x := (.tmp 16)) (y := (.tmp 17)) (d := 18) (g := none) ⟨(.slot 16), [], 0, false, 7, (CV.frzEs (x0.map Say.row))⟩ y2 (Say.row v6) _ (by kernel_rfl) (by kernel_rfl) (by kernel_rfl) (by kernel_rfl) rfl (idx_isF ev6) rfl ?_
        refine LAt.runU tOk 1 (by kernel_rfl) ?_
        obtain ⟨r7, er7, H⟩ := bind_some H
        refine LAt.callU tOk [.rd] (f := 133) (av := #[.tmp 19]) (ats := #[149]) (d := (some 20)) (ty := 116) (g := none) (by kernel_rfl) (by kernel_rfl) (by kernel_rfl) [] (laws_toSay n v6 r7 er7) (by kernel_rfl) (.inl rfl) ?_
        obtain ⟨v8, ev8, H⟩ := bind_some H
        refine LAt.indexO tOk (t := 32) (ty := 0) (x := (.tmp 14)) (y := (.tmp 15)) (d := 21) (g := none) ⟨(.slot 3), [], 0, true, 7, (y3.map Say.row)⟩ y2 (y2.toNat) (Say.row v8) _ (by kernel_rfl) (by kernel_rfl) (by kernel_rfl) (by kernel_rfl) rfl (by kernel_rfl) (idx_isE ev8) rfl rfl ?_
        refine LAt.storeK tOk (t := 116) (ty := 0) (ad := (.tmp 21)) (x := (.tmp 20)) (g := none) ⟨.st [(0, 1, 3), (1, 1, 4), (2, 5, 70)], 7, 56, [.lit (.int .i64 0), .lit (.bool false), .lit (.int .i64 0), .lit (.int .i64 0), .lit (.int .i64 0), .lit (.int .i64 0), .lit (.int .i64 0)]⟩ true (Say.row r7) (.slot 3) [(0, (y2.toNat))] [(0, (y2.toNat))] 7 0 [.sl true 7 (y3.map Say.row)] (Say.row v8) [.sl true 7 (y3.map Say.row)] [.sl true 7 ((y3.set (y2.toNat) r7).map Say.row)] (by kernel_rfl) (by kernel_rfl) (by kernel_rfl) (by kernel_rfl) (by kernel_rfl) (by kernel_rfl) (getQ_elem rfl (idx_get ev8).2) rfl (by intro h; cases h) (by kernel_rfl) (by kernel_rfl) (by kernel_rfl) (modQ_elem (new := r7) rfl (idx_get ev8).2 rfl) (by kernel_rfl) ?_
        refine LAt.doneU [3, 21, 20, 19, 18, 17, 16, 15, 11, 10, 9, 8, 4, 2, 0, 14] [] (by kernel_rfl) ?_
        show Tr _ _ _ _ _
        refine Tr.at ?_
        refine LAt.runU tOk 3 (by kernel_rfl) ?_
        refine LAt.doneU [4, 13, 12, 3, 21, 20, 19, 18, 17, 16, 15, 11, 10, 9, 8, 2, 0, 14] [] (by kernel_rfl) ?_
        exact Exists.intro (mo5, ((IntKind.wrap .i64 (y2 + 1)), (y3.set (y2.toNat) r7))) (And.intro H (And.intro (Nat.lt_succ_self mo5) (St.sub_of [4, 3, 2, 0] [] (by kernel_rfl))))
  · rintro y4 H
    have H : (laws_toSayS_J1 n y4) = some r := H
    unfold laws_toSayS_J1 at H
    show Tr _ _ _ _ _
    refine Tr.rs ?_
    refine LAt.runU tOk 2 (by kernel_rfl) ?_
    refine LAt.doneU [2, 3] [] (by kernel_rfl) ?_
    refine Tr.ret ?_
    have H := Option.some.inj H
    subst H
    exact Fin.of _ [(false, [.sl true 7 (y4.map Say.row)])] (by kernel_rfl) rfl rfl

def laws_toNetF (n : Nat) (x0 : Net) : Option (Net) :=
  ((laws_toBridgeSF n x0.Bridges).bind fun r1 => ((laws_toLinkSF n x0.Links).bind fun r2 => ((laws_toSaySF n x0.Said).bind fun r3 => (some (⟨r1, r2, r3⟩ : Net)))))
/-- loop.example/g00326/laws.toNet -/
theorem laws_toNet (n : Nat) (x0 : Net) (r : Net) (H : laws_toNetF n x0 = some r) : LCall Try.prog 17 [.val true (CV.frzRow (Net.row x0))] [.val true (Net.row r)] [] := by
  refine LCall.of_body tOk Try.func17 rfl (c := (.seq (.region 0 (rg Try.f17 0) false) (.seq (.region 1 (rg Try.f17 1) false) (.seq (.region 2 (rg Try.f17 2) false) (.seq (.region 3 (rg Try.f17 3) false) (.seq (.region 4 (rg Try.f17 4) false) (.seq (.region 5 (rg Try.f17 5) false) .ret))))))) (by kernel_rfl) (Nat.le_of_ble_eq_true (by kernel_rfl)) 0 (rs := [.cell 2 34]) rfl [] .nil [(true, (Net.row r))] [] [] fun cx => ?_
  show Tr _ _ _ ⟨17, 0, [(0, .val true (CV.frzRow (Net.row x0)))], []⟩ _
  unfold laws_toNetF at H
  refine Tr.rs ?_
  refine LAt.runU tOk 2 (by kernel_rfl) ?_
  refine LAt.doneU [2, 1] [2, 1] (by kernel_rfl) ?_
  refine Tr.rs ?_
  refine LAt.runU tOk 1 (by kernel_rfl) ?_
  refine LAt.doneU [3, 2, 1] [3, 2, 1] (by kernel_rfl) ?_
  refine Tr.rs ?_
  refine LAt.runU tOk 2 (by kernel_rfl) ?_
  obtain ⟨r1, er1, H⟩ := bind_some H
  refine LAt.callU tOk [.rd] (f := 67) (av := #[.tmp 5]) (ats := #[22]) (d := (some 6)) (ty := 30) (g := none) (by kernel_rfl) (by kernel_rfl) (by kernel_rfl) [] (laws_toBridgeS n x0.Bridges r1 er1) (by kernel_rfl) (.inl rfl) ?_
  refine LAt.runU tOk 2 (by kernel_rfl) ?_
  refine LAt.doneU [3, 2, 1] [3, 2, 1] (by kernel_rfl) ?_
  refine Tr.rs ?_
  refine LAt.runU tOk 2 (by kernel_rfl) ?_
  obtain ⟨r2, er2, H⟩ := bind_some H
  refine LAt.callU tOk [.rd] (f := 68) (av := #[.tmp 9]) (ats := #[23]) (d := (some 10)) (ty := 31) (g := none) (by kernel_rfl) (by kernel_rfl) (by kernel_rfl) [] (laws_toLinkS n x0.Links r2 er2) (by kernel_rfl) (.inl rfl) ?_
  refine LAt.runU tOk 2 (by kernel_rfl) ?_
  refine LAt.doneU [3, 2, 1] [3, 2, 1] (by kernel_rfl) ?_
  refine Tr.rs ?_
  refine LAt.runU tOk 2 (by kernel_rfl) ?_
  obtain ⟨r3, er3, H⟩ := bind_some H
  refine LAt.callU tOk [.rd] (f := 69) (av := #[.tmp 13]) (ats := #[24]) (d := (some 14)) (ty := 32) (g := none) (by kernel_rfl) (by kernel_rfl) (by kernel_rfl) [] (laws_toSayS n x0.Said r3 er3) (by kernel_rfl) (.inl rfl) ?_
  refine LAt.runU tOk 2 (by kernel_rfl) ?_
  refine LAt.doneU [3, 2] [3, 2] (by kernel_rfl) ?_
  refine Tr.rs ?_
  refine LAt.runU tOk 2 (by kernel_rfl) ?_
  refine LAt.doneU [2] [2] (by kernel_rfl) ?_
  refine Tr.ret ?_
  have H := Option.some.inj H
  subst H
  exact Fin.of _ [(true, [.sl true 11 (r1.map Bridge.row), .sl true 4 (r2.map Link.row), .sl true 7 (r3.map Say.row)])] (by kernel_rfl) rfl rfl

def spec_l1InF (n : Nat) (x0 : Int) (x1 : Int) (x2 : Int) : Option (Bool) :=
  (bif (decide (x0 ≥ x1)) then (some (decide (x0 ≤ x2))) else (some false))
/-- loop.example/g00326/spec.l1In -/
theorem spec_l1In (n : Nat) (x0 : Int) (x1 : Int) (x2 : Int) (r : Bool) (H : spec_l1InF n x0 x1 x2 = some r) : LCall Try.prog 65 [.val false [.lit (.int .i64 x0)], .val false [.lit (.int .i64 x1)], .val false [.lit (.int .i64 x2)]] [.val false [.lit (.bool r)]] [] := by
  refine LCall.of_body tOk Try.func65 rfl (c := (.seq (.region 0 (rg Try.f65 0) false) (.seq (.region 1 (rg Try.f65 1) false) .ret))) (by kernel_rfl) (Nat.le_of_ble_eq_true (by kernel_rfl)) 0 (rs := [.tmp 6]) rfl [] .nil [(false, [.lit (.bool r)])] [] [] fun cx => ?_
  show Tr _ _ _ ⟨15, 0, [(0, .val false [.lit (.int .i64 x0)]), (1, .val false [.lit (.int .i64 x1)]), (2, .val false [.lit (.int .i64 x2)])], []⟩ _
  unfold spec_l1InF at H
  refine Tr.rs ?_
  refine LAt.runU tOk 1 (by kernel_rfl) ?_
  refine LAt.doneU [6, 0, 1, 2] [] (by kernel_rfl) ?_
  refine Tr.rs ?_
  refine LAt.runU tOk 4 (by kernel_rfl) ?_
  refine LAt.to ⟨15, 0, [(10, .val false [.lit (.bool (decide (x0 ≥ x1)))]), (9, .val false [.lit (.bool (decide (x0 ≥ x1)))]), (8, .val false [.lit (.int .i64 x1)]), (7, .val false [.lit (.int .i64 x0)]), (6, .val false [.lit (.bool false)]), (0, .val false [.lit (.int .i64 x0)]), (1, .val false [.lit (.int .i64 x1)]), (2, .val false [.lit (.int .i64 x2)])], []⟩ (by kernel_rfl) ?_
  cases h1 : (decide (x0 ≥ x1))
  · have H := bifF h1 H
    refine LAt.runU tOk 5 (by kernel_rfl) ?_
    refine LAt.doneU [6] [] (by kernel_rfl) ?_
    refine Tr.ret ?_
    have H := Option.some.inj H
    subst H
    exact Fin.of _ [(false, [.lit (.bool false)])] (by kernel_rfl) rfl rfl
  · have H := bifT h1 H
    refine LAt.runU tOk 5 (by kernel_rfl) ?_
    refine LAt.doneU [6] [] (by kernel_rfl) ?_
    refine Tr.ret ?_
    have H := Option.some.inj H
    subst H
    exact Fin.of _ [(false, [.lit (.bool (decide (x0 ≤ x2)))])] (by kernel_rfl) rfl rfl

def spec_l13UpF (n : Nat) (x0 : Net) (x1 : Int) (x2 : Int) : Option (Bool) :=
  ((spec_l1InF n x1 0 (IntKind.wrap .i64 ((x0.Bridges.length : Int) - 1))).bind fun r1 => (bif r1 then ((idx x0.Bridges x1).bind fun v2 => ((spec_l1InF n x2 0 (IntKind.wrap .i64 ((v2.Ports.length : Int) - 1))).bind fun r3 => (bif r3 then ((idx x0.Bridges x1).bind fun v4 => ((idx v4.Ports x2).bind fun v5 => (some v5.Up))) else (some false)))) else (some false)))
/-- loop.example/g00326/spec.l13Up -/
theorem spec_l13Up (n : Nat) (x0 : Net) (x1 : Int) (x2 : Int) (r : Bool) (H : spec_l13UpF n x0 x1 x2 = some r) : LCall Try.prog 136 [.val true (CV.frzRow (Net.row x0)), .val false [.lit (.int .i64 x1)], .val false [.lit (.int .i64 x2)]] [.val false [.lit (.bool r)]] [] := by
  refine LCall.of_body tOk Try.func136 rfl (c := (.seq (.region 0 (rg Try.f136 0) false) (.seq (.region 1 (rg Try.f136 1) false) .ret))) (by kernel_rfl) (Nat.le_of_ble_eq_true (by kernel_rfl)) 0 (rs := [.tmp 6]) rfl [] .nil [(false, [.lit (.bool r)])] [] [] fun cx => ?_
  show Tr _ _ _ ⟨37, 0, [(0, .val true (CV.frzRow (Net.row x0))), (1, .val false [.lit (.int .i64 x1)]), (2, .val false [.lit (.int .i64 x2)])], []⟩ _
  unfold spec_l13UpF at H
  refine Tr.rs ?_
  refine LAt.runU tOk 2 (by kernel_rfl) ?_
  refine LAt.doneU [6, 3, 1, 2] [3] (by kernel_rfl) ?_
  refine Tr.rs ?_
  refine LAt.runU tOk 3 (by kernel_rfl) ?_
  refine LAt.lenE tOk (t := 30) (ty := 3) (e := 61) (x := (.tmp 9)) (d := 10) (g := none) ⟨(.slot 9), [], 0, false, 11, (CV.frzEs (x0.Bridges.map Bridge.row))⟩ (x0.Bridges).length _ (by kernel_rfl) (by kernel_rfl) (by kernel_rfl) (by kernel_rfl) (by kernel_rfl) (frz_len _ _) rfl ?_
  refine LAt.runU tOk 1 (by kernel_rfl) ?_
  obtain ⟨r1, er1, H⟩ := bind_some H
  refine LAt.callU tOk [.rd, .rd, .rd] (f := 65) (av := #[.tmp 7, .const (.int .i64 0), .tmp 11]) (ats := #[3, 3, 3]) (d := (some 12)) (ty := 4) (g := none) (by kernel_rfl) (by kernel_rfl) (by kernel_rfl) [] (spec_l1In n x1 0 (IntKind.wrap .i64 ((x0.Bridges.length : Int) - 1)) r1 er1) (by kernel_rfl) (.inl rfl) ?_
  refine LAt.runU tOk 1 (by kernel_rfl) ?_
  refine LAt.to ⟨37, 0, [(13, .val false [.lit (.bool r1)]), (12, .val false [.lit (.bool r1)]), (11, .val false [.lit (.int .i64 (IntKind.wrap .i64 ((x0.Bridges.length : Int) - 1)))]), (10, .val false [.lit (.int .i64 (x0.Bridges.length : Int))]), (9, .val false [.sl false 11 (CV.frzEs (x0.Bridges.map Bridge.row))]), (8, .adr (.box 3) [(0, 0)] 3 0), (7, .val false [.lit (.int .i64 x1)]), (6, .val false [.lit (.bool false)]), (3, .adr (.box 3) [(0, 0)] 3 0), (1, .val false [.lit (.int .i64 x1)]), (2, .val false [.lit (.int .i64 x2)])], [(3, (CV.frzRow (Net.row x0)))]⟩ (by kernel_rfl) ?_
  cases h1 : r1
  · have H := bifF h1 H
    refine LAt.runU tOk 24 (by kernel_rfl) ?_
    refine LAt.doneU [6] [] (by kernel_rfl) ?_
    refine Tr.ret ?_
    have H := Option.some.inj H
    subst H
    exact Fin.of _ [(false, [.lit (.bool false)])] (by kernel_rfl) rfl rfl
  · have H := bifT h1 H
    refine LAt.runU tOk 4 (by kernel_rfl) ?_
    obtain ⟨v2, ev2, H⟩ := bind_some H
    refine LAt.indexF tOk (t := 30) (ty := 0) (x := (.tmp 16)) (y := (.tmp 17)) (d := 18) (g := (some (6, true))) ⟨(.slot 16), [], 0, false, 11, (CV.frzEs (x0.Bridges.map Bridge.row))⟩ x1 (CV.frzRow (Bridge.row v2)) _ (by kernel_rfl) (by kernel_rfl) (by kernel_rfl) (by kernel_rfl) rfl (idx_isF ev2) rfl ?_
    refine LAt.runU tOk 2 (by kernel_rfl) ?_
    refine LAt.lenE tOk (t := 55) (ty := 3) (e := 114) (x := (.tmp 20)) (d := 21) (g := (some (6, true))) ⟨(.slot 20), [], 0, false, 8, (CV.frzEs (v2.Ports.map Pt.row))⟩ (v2.Ports).length _ (by kernel_rfl) (by kernel_rfl) (by kernel_rfl) (by kernel_rfl) (by kernel_rfl) (frz_len _ _) rfl ?_
    refine LAt.runU tOk 1 (by kernel_rfl) ?_
    obtain ⟨r3, er3, H⟩ := bind_some H
    refine LAt.callU tOk [.rd, .rd, .rd] (f := 65) (av := #[.tmp 14, .const (.int .i64 0), .tmp 22]) (ats := #[3, 3, 3]) (d := (some 23)) (ty := 4) (g := (some (6, true))) (by kernel_rfl) (by kernel_rfl) (by kernel_rfl) [] (spec_l1In n x2 0 (IntKind.wrap .i64 ((v2.Ports.length : Int) - 1)) r3 er3) (by kernel_rfl) (.inl rfl) ?_
    refine LAt.runU tOk 2 (by kernel_rfl) ?_
    refine LAt.to ⟨37, 0, [(25, .val false [.lit (.bool r3)]), (24, .val false [.lit (.bool r3)]), (23, .val false [.lit (.bool r3)]), (22, .val false [.lit (.int .i64 (IntKind.wrap .i64 ((v2.Ports.length : Int) - 1)))]), (21, .val false [.lit (.int .i64 (v2.Ports.length : Int))]), (20, .val false [.sl false 8 (CV.frzEs (v2.Ports.map Pt.row))]), (19, .fad (((CV.frzRow (Bridge.row v2)).drop 2))), (18, .fad ((CV.frzRow (Bridge.row v2)))), (17, .val false [.lit (.int .i64 x1)]), (16, .val false [.sl false 11 (CV.frzEs (x0.Bridges.map Bridge.row))]), (15, .adr (.box 3) [(0, 0)] 3 0), (14, .val false [.lit (.int .i64 x2)]), (13, .val false [.lit (.bool true)]), (12, .val false [.lit (.bool true)]), (11, .val false [.lit (.int .i64 (IntKind.wrap .i64 ((x0.Bridges.length : Int) - 1)))]), (10, .val false [.lit (.int .i64 (x0.Bridges.length : Int))]), (9, .val false [.sl false 11 (CV.frzEs (x0.Bridges.map Bridge.row))]), (8, .adr (.box 3) [(0, 0)] 3 0), (7, .val false [.lit (.int .i64 x1)]), (6, .val false [.lit (.bool false)]), (3, .adr (.box 3) [(0, 0)] 3 0), (1, .val false [.lit (.int .i64 x1)]), (2, .val false [.lit (.int .i64 x2)])], [(3, (CV.frzRow (Net.row x0)))]⟩ (by kernel_rfl) ?_
    cases h2 : r3
    · have H := bifF h2 H
      refine LAt.runU tOk 12 (by kernel_rfl) ?_
      refine LAt.doneU [6] [] (by kernel_rfl) ?_
      refine Tr.ret ?_
      have H := Option.some.inj H
      subst H
      exact Fin.of _ [(false, [.lit (.bool false)])] (by kernel_rfl) rfl rfl
    · have H := bifT h2 H
      refine LAt.runU tOk 3 (by kernel_rfl) ?_
      obtain ⟨v4, ev4, H⟩ := bind_some H
      refine LAt.indexF tOk (t := 30) (ty := 0) (x := (.tmp 27)) (y := (.tmp 28)) (d := 29) (g := (some (18, true))) ⟨(.slot 27), [], 0, false, 11, (CV.frzEs (x0.Bridges.map Bridge.row))⟩ x1 (CV.frzRow (Bridge.row v4)) _ (by kernel_rfl) (by kernel_rfl) (by kernel_rfl) (by kernel_rfl) rfl (idx_isF ev4) rfl ?_
      refine LAt.runU tOk 3 (by kernel_rfl) ?_
      obtain ⟨v5, ev5, H⟩ := bind_some H
      refine LAt.indexF tOk (t := 55) (ty := 0) (x := (.tmp 31)) (y := (.tmp 32)) (d := 33) (g := (some (18, true))) ⟨(.slot 31), [], 0, false, 8, (CV.frzEs (v4.Ports.map Pt.row))⟩ x2 (Pt.row v5) _ (by kernel_rfl) (by kernel_rfl) (by kernel_rfl) (by kernel_rfl) rfl (idx_isF ev5) rfl ?_
      refine LAt.runU tOk 4 (by kernel_rfl) ?_
      refine LAt.doneU [6] [] (by kernel_rfl) ?_
      refine Tr.ret ?_
      have H := Option.some.inj H
      subst H
      exact Fin.of _ [(false, [.lit (.bool v5.Up)])] (by kernel_rfl) rfl rfl

def spec_LinkUpF (n : Nat) (x0 : Net) (x1 : Int) : Option (Bool) :=
  ((spec_l1InF n x1 0 (IntKind.wrap .i64 ((x0.Links.length : Int) - 1))).bind fun r1 => (bif (!r1) then (some false) else ((idx x0.Links x1).bind fun v2 => ((spec_l13UpF n x0 v2.A v2.P).bind fun r3 => (bif r3 then ((spec_l13UpF n x0 v2.B v2.Q).bind fun r4 => (some r4)) else (some false))))))
/-- loop.example/g00326/spec.LinkUp -/
theorem spec_LinkUp (n : Nat) (x0 : Net) (x1 : Int) (r : Bool) (H : spec_LinkUpF n x0 x1 = some r) : LCall Try.prog 76 [.val true (CV.frzRow (Net.row x0)), .val false [.lit (.int .i64 x1)]] [.val false [.lit (.bool r)]] [] := by
  refine LCall.of_body tOk Try.func76 rfl (c := (.seq (.region 0 (rg Try.f76 0) false) (.seq (.seq (.region 1 (rg Try.f76 1) false) (.cond (.tmp 12) (.seq (.region 2 (rg Try.f76 2) false) .ret) .skip)) (.seq (.region 3 (rg Try.f76 3) false) (.seq (.region 4 (rg Try.f76 4) false) .ret))))) (by kernel_rfl) (Nat.le_of_ble_eq_true (by kernel_rfl)) 0 (rs := [.tmp 4]) rfl [] .nil [(false, [.lit (.bool r)])] [] [] fun cx => ?_
  show Tr _ _ _ ⟨32, 0, [(0, .val true (CV.frzRow (Net.row x0))), (1, .val false [.lit (.int .i64 x1)])], []⟩ _
  unfold spec_LinkUpF at H
  refine Tr.rs ?_
  refine LAt.runU tOk 2 (by kernel_rfl) ?_
  refine LAt.doneU [4, 2, 1] [2] (by kernel_rfl) ?_
  refine Tr.seq ?_
  refine Tr.rs ?_
  refine LAt.runU tOk 3 (by kernel_rfl) ?_
  refine LAt.lenE tOk (t := 31) (ty := 3) (e := 96) (x := (.tmp 8)) (d := 9) (g := none) ⟨(.slot 8), [], 0, false, 4, (CV.frzEs (x0.Links.map Link.row))⟩ (x0.Links).length _ (by kernel_rfl) (by kernel_rfl) (by kernel_rfl) (by kernel_rfl) (by kernel_rfl) (frz_len _ _) rfl ?_
  refine LAt.runU tOk 1 (by kernel_rfl) ?_
  obtain ⟨r1, er1, H⟩ := bind_some H
  refine LAt.callU tOk [.rd, .rd, .rd] (f := 65) (av := #[.tmp 6, .const (.int .i64 0), .tmp 10]) (ats := #[3, 3, 3]) (d := (some 11)) (ty := 4) (g := none) (by kernel_rfl) (by kernel_rfl) (by kernel_rfl) [] (spec_l1In n x1 0 (IntKind.wrap .i64 ((x0.Links.length : Int) - 1)) r1 er1) (by kernel_rfl) (.inl rfl) ?_
  refine LAt.runU tOk 1 (by kernel_rfl) ?_
  refine LAt.doneU [12, 4, 2, 1] [2] (by kernel_rfl) ?_
  refine Tr.to ⟨32, 0, [(12, .val false [.lit (.bool (!r1))]), (4, .val false [.lit (.bool false)]), (2, .adr (.box 2) [(0, 0)] 3 0), (1, .val false [.lit (.int .i64 x1)])], [(2, (CV.frzRow (Net.row x0)))]⟩ (by kernel_rfl) ?_
  cases h1 : (!r1)
  · have H := bifF h1 H
    refine Tr.cond (b := false) (by kernel_rfl) (fun h => nomatch h) (fun _ => ?_)
    refine Tr.skip ?_
    show Tr _ _ _ _ _
    refine Tr.rs ?_
    refine LAt.runU tOk 3 (by kernel_rfl) ?_
    obtain ⟨v2, ev2, H⟩ := bind_some H
    refine LAt.indexF tOk (t := 31) (ty := 0) (x := (.tmp 14)) (y := (.tmp 15)) (d := 16) (g := none) ⟨(.slot 14), [], 0, false, 4, (CV.frzEs (x0.Links.map Link.row))⟩ x1 (Link.row v2) _ (by kernel_rfl) (by kernel_rfl) (by kernel_rfl) (by kernel_rfl) rfl (idx_isF ev2) rfl ?_
    refine LAt.runU tOk 3 (by kernel_rfl) ?_
    refine LAt.doneU [5, 4, 2] [5, 2] (by kernel_rfl) ?_
    refine Tr.rs ?_
    refine LAt.runU tOk 5 (by kernel_rfl) ?_
    obtain ⟨r3, er3, H⟩ := bind_some H
    refine LAt.callU tOk [.rd, .rd, .rd] (f := 136) (av := #[.tmp 18, .tmp 20, .tmp 22]) (ats := #[34, 3, 3]) (d := (some 23)) (ty := 4) (g := none) (by kernel_rfl) (by kernel_rfl) (by kernel_rfl) [] (spec_l13Up n x0 v2.A v2.P r3 er3) (by kernel_rfl) (.inl rfl) ?_
    refine LAt.runU tOk 1 (by kernel_rfl) ?_
    refine LAt.to ⟨32, 0, [(24, .val false [.lit (.bool r3)]), (23, .val false [.lit (.bool r3)]), (22, .val false [.lit (.int .i64 v2.P)]), (21, .adr (.box 5) [(0, 0)] 4 1), (20, .val false [.lit (.int .i64 v2.A)]), (19, .adr (.box 5) [(0, 0)] 4 0), (18, .val true (CV.frzRow (Net.row x0))), (5, .adr (.box 5) [(0, 0)] 4 0), (4, .val false [.lit (.bool false)]), (2, .adr (.box 2) [(0, 0)] 3 0)], [(5, (Link.row v2)), (2, (CV.frzRow (Net.row x0)))]⟩ (by kernel_rfl) ?_
    cases h2 : r3
    · have H := bifF h2 H
      refine LAt.runU tOk 8 (by kernel_rfl) ?_
      refine LAt.doneU [4] [] (by kernel_rfl) ?_
      refine Tr.ret ?_
      have H := Option.some.inj H
      subst H
      exact Fin.of _ [(false, [.lit (.bool false)])] (by kernel_rfl) rfl rfl
    · have H := bifT h2 H
      refine LAt.runU tOk 5 (by kernel_rfl) ?_
      obtain ⟨r4, er4, H⟩ := bind_some H
      refine LAt.callU tOk [.rd, .rd, .rd] (f := 136) (av := #[.tmp 25, .tmp 27, .tmp 29]) (ats := #[34, 3, 3]) (d := (some 30)) (ty := 4) (g := (some (6, true))) (by kernel_rfl) (by kernel_rfl) (by kernel_rfl) [] (spec_l13Up n x0 v2.B v2.Q r4 er4) (by kernel_rfl) (.inl rfl) ?_
      refine LAt.runU tOk 2 (by kernel_rfl) ?_
      refine LAt.doneU [4] [] (by kernel_rfl) ?_
      refine Tr.ret ?_
      have H := Option.some.inj H
      subst H
      exact Fin.of _ [(false, [.lit (.bool r4)])] (by kernel_rfl) rfl rfl
  · have H := bifT h1 H
    refine Tr.cond (b := true) (by kernel_rfl) (fun _ => ?_) (fun h => nomatch h)
    refine Tr.rs ?_
    refine LAt.runU tOk 1 (by kernel_rfl) ?_
    refine LAt.doneU [4, 2, 1] [2] (by kernel_rfl) ?_
    refine Tr.ret ?_
    have H := Option.some.inj H
    subst H
    exact Fin.of _ [(false, [.lit (.bool false)])] (by kernel_rfl) rfl rfl

def spec_UpLinks_J1 (n : Nat) (y3 : (List Int)) : Option ((List Int)) :=
  (some y3)
def spec_UpLinks_L2 (n : Nat) : Nat → Net → Int → (List Int) → Option (((List Int)) ⊕ ((List Int)))
  | 0, _, _, _ => none
  | mo4 + 1, x0, y1, y2 => (bif (decide (y1 < (x0.Links.length : Int))) then ((spec_LinkUpF n x0 y1).bind fun r5 => (bif r5 then (bif (decide (y2.length + [y1].length ≤ 268435456)) then (spec_UpLinks_L2 n mo4 x0 (IntKind.wrap .i64 (y1 + 1)) (y2 ++ [y1])) else none) else (spec_UpLinks_L2 n mo4 x0 (IntKind.wrap .i64 (y1 + 1)) y2))) else (some (Sum.inl y2)))
def spec_UpLinksF (n : Nat) (x0 : Net) : Option ((List Int)) :=
  ((spec_UpLinks_L2 n n x0 0 ([] : List Int)).bind fun o => match o with | .inl y3 => (spec_UpLinks_J1 n y3) | .inr r => some r)
/-- loop.example/g00326/spec.UpLinks -/
theorem spec_UpLinks (n : Nat) (x0 : Net) (r : (List Int)) (H : spec_UpLinksF n x0 = some r) : LCall Try.prog 24 [.val true (CV.frzRow (Net.row x0))] [.val false [.sl true 1 (r.map intRow)]] [] := by
  refine LCall.of_body tOk Try.func24 rfl (c := (.seq (.region 0 (rg Try.f24 0) false) (.seq (.region 1 (rg Try.f24 1) false) (.seq (.seq (.region 2 (rg Try.f24 2) false) (.block 0 (.loop (.seq (.seq (.region 3 (rg Try.f24 3) false) (.cond (.tmp 10) .skip (.exit 0))) (.seq (.block 1 (.seq (.region 5 (rg Try.f24 5) false) (.cond (.tmp 15) (.region 6 (rg Try.f24 6) false) .skip))) (.region 4 (rg Try.f24 4) false)))))) (.seq (.region 7 (rg Try.f24 7) false) .ret))))) (by kernel_rfl) (Nat.le_of_ble_eq_true (by kernel_rfl)) 0 (rs := [.tmp 2]) rfl [] .nil [(false, [.sl true 1 (r.map intRow)])] [] [] fun cx => ?_
  show Tr _ _ _ ⟨21, 0, [(0, .val true (CV.frzRow (Net.row x0)))], []⟩ _
  unfold spec_UpLinksF at H
  refine Tr.rs ?_
  refine LAt.runU tOk 2 (by kernel_rfl) ?_
  refine LAt.doneU [2, 1] [1] (by kernel_rfl) ?_
  refine Tr.rs ?_
  refine LAt.runU tOk 1 (by kernel_rfl) ?_
  refine LAt.moveU (T := lk tab) (ty := 27) (x := (.tmp 5)) (d := 3) (g := none) false [.sl true 1 (([] : List Int).map intRow)] (by kernel_rfl) (by kernel_rfl) (by kernel_rfl) (by kernel_rfl) (by kernel_rfl) ?_
  refine LAt.doneU [3, 2, 1] [1] (by kernel_rfl) ?_
  refine Tr.seq ?_
  refine Tr.rs ?_
  refine LAt.runU tOk 1 (by kernel_rfl) ?_
  refine LAt.doneU [4, 3, 2, 1] [1] (by kernel_rfl) ?_
  obtain ⟨o4, eo4, Ho4⟩ := bind_some H
  clear H
  refine Tr.mid (ι := (List Int)) (fun v => ⟨21, 0, [(3, .val false [.sl true 1 (v.map intRow)]), (2, .val false [.sl true 1 (([] : List Int).map intRow)])], []⟩) (fun v => spec_UpLinks_J1 n v = some r) ?_ ?_
  · refine Tr.block ?_
    refine Tr.loop (ι := Nat × (Int × (List Int))) (fun v => ⟨21, 0, [(4, .val false [.lit (.int .i64 v.2.1)]), (3, .val false [.sl true 1 (v.2.2.map intRow)]), (2, .val false [.sl true 1 (([] : List Int).map intRow)]), (1, .adr (.box 1) [(0, 0)] 3 0)], [(1, (CV.frzRow (Net.row x0)))]⟩) (fun v => spec_UpLinks_L2 n v.1 x0 v.2.1 v.2.2 = some o4) (fun v => v.1) (n, (0, ([] : List Int))) eo4 (St.sub_of [4, 3, 2, 1] [1] (by kernel_rfl)) ?_
    rintro ⟨mo4, y1, y2⟩ H
    have H : spec_UpLinks_L2 n mo4 x0 y1 y2 = some o4 := H
    obtain _ | mo4 := mo4
    · cases (show (none : Option _) = some o4 from H)
    · rw [spec_UpLinks_L2] at H
      refine Tr.seq ?_
      refine Tr.rs ?_
      refine LAt.runU tOk 3 (by kernel_rfl) ?_
      refine LAt.lenE tOk (t := 31) (ty := 3) (e := 96) (x := (.tmp 8)) (d := 9) (g := none) ⟨(.slot 8), [], 0, false, 4, (CV.frzEs (x0.Links.map Link.row))⟩ (x0.Links).length _ (by kernel_rfl) (by kernel_rfl) (by kernel_rfl) (by kernel_rfl) (by kernel_rfl) (frz_len _ _) rfl ?_
      refine LAt.runU tOk 1 (by kernel_rfl) ?_
      refine LAt.doneU [10, 9, 8, 7, 6, 4, 3, 2, 1] [1] (by kernel_rfl) ?_
      refine Tr.to ⟨21, 0, [(10, .val false [.lit (.bool (decide (y1 < (x0.Links.length : Int))))]), (9, .val false [.lit (.int .i64 (x0.Links.length : Int))]), (8, .val false [.sl false 4 (CV.frzEs (x0.Links.map Link.row))]), (7, .adr (.box 1) [(0, 0)] 3 1), (6, .val false [.lit (.int .i64 y1)]), (4, .val false [.lit (.int .i64 y1)]), (3, .val false [.sl true 1 (y2.map intRow)]), (2, .val false [.sl true 1 (([] : List Int).map intRow)]), (1, .adr (.box 1) [(0, 0)] 3 0)], [(1, (CV.frzRow (Net.row x0)))]⟩ (by kernel_rfl) ?_
      cases h1 : (decide (y1 < (x0.Links.length : Int)))
      · have H := bifF h1 H
        refine Tr.cond (b := false) (by kernel_rfl) (fun h => nomatch h) (fun _ => ?_)
        refine Tr.exit ?_
        refine And.intro (fun _ => ?_) (fun h => absurd rfl h)
        have H := Option.some.inj H
        subst H
        have H := Ho4
        dsimp only at H
        exact Exists.intro y2 (And.intro H (St.sub_of [3, 2] [] (by kernel_rfl)))
      · have H := bifT h1 H
        refine Tr.cond (b := true) (by kernel_rfl) (fun _ => ?_) (fun h => nomatch h)
        refine Tr.skip ?_
        show Tr _ _ _ _ _
        refine Tr.seq ?_
        refine Tr.block ?_
        refine Tr.rs ?_
        refine LAt.runU tOk 2 (by kernel_rfl) ?_
        obtain ⟨r5, er5, H⟩ := bind_some H
        refine LAt.callU tOk [.rd, .rd] (f := 76) (av := #[.tmp 13, .tmp 14]) (ats := #[34, 3]) (d := (some 15)) (ty := 4) (g := none) (by kernel_rfl) (by kernel_rfl) (by kernel_rfl) [] (spec_LinkUp n x0 y1 r5 er5) (by kernel_rfl) (.inl rfl) ?_
        refine LAt.doneU [15, 14, 13, 10, 9, 8, 7, 6, 4, 3, 2, 1] [1] (by kernel_rfl) ?_
        refine Tr.to ⟨21, 0, [(15, .val false [.lit (.bool r5)]), (14, .val false [.lit (.int .i64 y1)]), (13, .val true (CV.frzRow (Net.row x0))), (10, .val false [.lit (.bool true)]), (9, .val false [.lit (.int .i64 (x0.Links.length : Int))]), (8, .val false [.sl false 4 (CV.frzEs (x0.Links.map Link.row))]), (7, .adr (.box 1) [(0, 0)] 3 1), (6, .val false [.lit (.int .i64 y1)]), (4, .val false [.lit (.int .i64 y1)]), (3, .val false [.sl true 1 (y2.map intRow)]), (2, .val false [.sl true 1 (([] : List Int).map intRow)]), (1, .adr (.box 1) [(0, 0)] 3 0)], [(1, (CV.frzRow (Net.row x0)))]⟩ (by kernel_rfl) ?_
        cases h2 : r5
        · have H := bifF h2 H
          refine Tr.cond (b := false) (by kernel_rfl) (fun h => nomatch h) (fun _ => ?_)
          refine Tr.skip ?_
          show Tr _ _ _ _ _
          refine Tr.at ?_
          refine LAt.runU tOk 3 (by kernel_rfl) ?_
          refine LAt.doneU [4, 12, 11, 15, 14, 13, 10, 9, 8, 7, 6, 3, 2, 1] [1] (by kernel_rfl) ?_
          exact Exists.intro (mo4, ((IntKind.wrap .i64 (y1 + 1)), y2)) (And.intro H (And.intro (Nat.lt_succ_self mo4) (St.sub_of [4, 3, 2, 1] [1] (by kernel_rfl))))
        · have H := bifT h2 H
          refine Tr.cond (b := true) (by kernel_rfl) (fun _ => ?_) (fun h => nomatch h)
          refine Tr.at ?_
          refine LAt.runU tOk 3 (by kernel_rfl) ?_
          obtain ⟨hg6, H⟩ := guard_some H
          refine LAt.appMU tOk (t := 27) (ty := 27) (e := 3) (x := (.tmp 16)) (y := (.tmp 18)) (d := 19) (g := none) ⟨.int .i64, 1, 8, [.lit (.int .i64 0)]⟩ intRow y2 [y1] (by kernel_rfl) (by kernel_rfl) (by kernel_rfl) (by kernel_rfl) (by kernel_rfl) (by kernel_rfl) (by kernel_rfl) (by kernel_rfl) (by kernel_rfl) (by kernel_rfl) hg6 ?_
          refine LAt.moveU (T := lk tab) (ty := 27) (x := (.tmp 19)) (d := 3) (g := none) false [.sl true 1 ((y2 ++ [y1]).map intRow)] (by kernel_rfl) (by kernel_rfl) (by kernel_rfl) (by kernel_rfl) (by kernel_rfl) ?_
          refine LAt.doneU [3, 17, 15, 14, 13, 10, 9, 8, 7, 6, 4, 2, 1] [1] (by kernel_rfl) ?_
          show Tr _ _ _ _ _
          refine Tr.at ?_
          refine LAt.runU tOk 3 (by kernel_rfl) ?_
          refine LAt.doneU [4, 12, 11, 3, 17, 15, 14, 13, 10, 9, 8, 7, 6, 2, 1] [1] (by kernel_rfl) ?_
          exact Exists.intro (mo4, ((IntKind.wrap .i64 (y1 + 1)), (y2 ++ [y1]))) (And.intro H (And.intro (Nat.lt_succ_self mo4) (St.sub_of [4, 3, 2, 1] [1] (by kernel_rfl))))
  · rintro y3 H
    have H : (spec_UpLinks_J1 n y3) = some r := H
    unfold spec_UpLinks_J1 at H
    show Tr _ _ _ _ _
    refine Tr.rs ?_
    refine LAt.runU tOk 2 (by kernel_rfl) ?_
    refine LAt.doneU [2, 3] [] (by kernel_rfl) ?_
    refine Tr.ret ?_
    have H := Option.some.inj H
    subst H
    exact Fin.of _ [(false, [.sl true 1 (y3.map intRow)])] (by kernel_rfl) rfl rfl

def impl_inF (n : Nat) (x0 : Int) (x1 : Int) (x2 : Int) : Option (Bool) :=
  (bif (decide (x0 ≥ x1)) then (some (decide (x0 ≤ x2))) else (some false))
/-- loop.example/g00326/impl.in -/
theorem impl_in (n : Nat) (x0 : Int) (x1 : Int) (x2 : Int) (r : Bool) (H : impl_inF n x0 x1 x2 = some r) : LCall Try.prog 70 [.val false [.lit (.int .i64 x0)], .val false [.lit (.int .i64 x1)], .val false [.lit (.int .i64 x2)]] [.val false [.lit (.bool r)]] [] := by
  refine LCall.of_body tOk Try.func70 rfl (c := (.seq (.region 0 (rg Try.f70 0) false) (.seq (.region 1 (rg Try.f70 1) false) .ret))) (by kernel_rfl) (Nat.le_of_ble_eq_true (by kernel_rfl)) 0 (rs := [.tmp 6]) rfl [] .nil [(false, [.lit (.bool r)])] [] [] fun cx => ?_
  show Tr _ _ _ ⟨15, 0, [(0, .val false [.lit (.int .i64 x0)]), (1, .val false [.lit (.int .i64 x1)]), (2, .val false [.lit (.int .i64 x2)])], []⟩ _
  unfold impl_inF at H
  refine Tr.rs ?_
  refine LAt.runU tOk 1 (by kernel_rfl) ?_
  refine LAt.doneU [6, 0, 1, 2] [] (by kernel_rfl) ?_
  refine Tr.rs ?_
  refine LAt.runU tOk 4 (by kernel_rfl) ?_
  refine LAt.to ⟨15, 0, [(10, .val false [.lit (.bool (decide (x0 ≥ x1)))]), (9, .val false [.lit (.bool (decide (x0 ≥ x1)))]), (8, .val false [.lit (.int .i64 x1)]), (7, .val false [.lit (.int .i64 x0)]), (6, .val false [.lit (.bool false)]), (0, .val false [.lit (.int .i64 x0)]), (1, .val false [.lit (.int .i64 x1)]), (2, .val false [.lit (.int .i64 x2)])], []⟩ (by kernel_rfl) ?_
  cases h1 : (decide (x0 ≥ x1))
  · have H := bifF h1 H
    refine LAt.runU tOk 5 (by kernel_rfl) ?_
    refine LAt.doneU [6] [] (by kernel_rfl) ?_
    refine Tr.ret ?_
    have H := Option.some.inj H
    subst H
    exact Fin.of _ [(false, [.lit (.bool false)])] (by kernel_rfl) rfl rfl
  · have H := bifT h1 H
    refine LAt.runU tOk 5 (by kernel_rfl) ?_
    refine LAt.doneU [6] [] (by kernel_rfl) ?_
    refine Tr.ret ?_
    have H := Option.some.inj H
    subst H
    exact Fin.of _ [(false, [.lit (.bool (decide (x0 ≤ x2)))])] (by kernel_rfl) rfl rfl

def impl_portAtF (n : Nat) (x0 : Net) (x1 : Int) (x2 : Int) : Option (Pt × Bool) :=
  ((impl_inF n x1 0 (IntKind.wrap .i64 ((x0.Bridges.length : Int) - 1))).bind fun r1 => (bif (!r1) then (some ((⟨false, 0, false, (⟨0, 0, 0, 0, 0⟩ : Vec)⟩ : Pt), false)) else ((idx x0.Bridges x1).bind fun v2 => ((impl_inF n x2 0 (IntKind.wrap .i64 ((v2.Ports.length : Int) - 1))).bind fun r3 => (bif (!r3) then (some ((⟨false, 0, false, (⟨0, 0, 0, 0, 0⟩ : Vec)⟩ : Pt), false)) else ((idx x0.Bridges x1).bind fun v4 => ((idx v4.Ports x2).bind fun v5 => (some (v5, true)))))))))
/-- loop.example/g00326/impl.portAt -/
theorem impl_portAt (n : Nat) (x0 : Net) (x1 : Int) (x2 : Int) (r : Pt × Bool) (H : impl_portAtF n x0 x1 x2 = some r) : LCall Try.prog 138 [.val true (CV.frzRow (Net.row x0)), .val false [.lit (.int .i64 x1)], .val false [.lit (.int .i64 x2)]] [.val true (Pt.row r.1), .val false [.lit (.bool r.2)]] [] := by
  refine LCall.of_body tOk Try.func138 rfl (c := (.seq (.region 0 (rg Try.f138 0) false) (.seq (.seq (.region 1 (rg Try.f138 1) false) (.cond (.tmp 27) (.seq (.region 2 (rg Try.f138 2) false) .ret) .skip)) (.seq (.region 3 (rg Try.f138 3) false) .ret)))) (by kernel_rfl) (Nat.le_of_ble_eq_true (by kernel_rfl)) 0 (rs := [.cell 6 114, .tmp 7]) rfl [] .nil [(true, (Pt.row r.1)), (false, [.lit (.bool r.2)])] [] [] fun cx => ?_
  show Tr _ _ _ ⟨38, 0, [(0, .val true (CV.frzRow (Net.row x0))), (1, .val false [.lit (.int .i64 x1)]), (2, .val false [.lit (.int .i64 x2)])], []⟩ _
  unfold impl_portAtF at H
  refine Tr.rs ?_
  refine LAt.runU tOk 3 (by kernel_rfl) ?_
  refine LAt.doneU [7, 6, 3, 1, 2] [6, 3] (by kernel_rfl) ?_
  refine Tr.seq ?_
  refine Tr.rs ?_
  refine LAt.runU tOk 3 (by kernel_rfl) ?_
  refine LAt.lenE tOk (t := 30) (ty := 3) (e := 61) (x := (.tmp 10)) (d := 11) (g := none) ⟨(.slot 10), [], 0, false, 11, (CV.frzEs (x0.Bridges.map Bridge.row))⟩ (x0.Bridges).length _ (by kernel_rfl) (by kernel_rfl) (by kernel_rfl) (by kernel_rfl) (by kernel_rfl) (frz_len _ _) rfl ?_
  refine LAt.runU tOk 1 (by kernel_rfl) ?_
  obtain ⟨r1, er1, H⟩ := bind_some H
  refine LAt.callU tOk [.rd, .rd, .rd] (f := 70) (av := #[.tmp 8, .const (.int .i64 0), .tmp 12]) (ats := #[3, 3, 3]) (d := (some 13)) (ty := 4) (g := none) (by kernel_rfl) (by kernel_rfl) (by kernel_rfl) [] (impl_in n x1 0 (IntKind.wrap .i64 ((x0.Bridges.length : Int) - 1)) r1 er1) (by kernel_rfl) (.inl rfl) ?_
  refine LAt.runU tOk 2 (by kernel_rfl) ?_
  refine LAt.to ⟨38, 0, [(15, .val false [.lit (.bool (!r1))]), (14, .val false [.lit (.bool (!r1))]), (13, .val false [.lit (.bool r1)]), (12, .val false [.lit (.int .i64 (IntKind.wrap .i64 ((x0.Bridges.length : Int) - 1)))]), (11, .val false [.lit (.int .i64 (x0.Bridges.length : Int))]), (10, .val false [.sl false 11 (CV.frzEs (x0.Bridges.map Bridge.row))]), (9, .adr (.box 3) [(0, 0)] 3 0), (8, .val false [.lit (.int .i64 x1)]), (7, .val false [.lit (.bool false)]), (6, .adr (.box 6) [(0, 0)] 8 0), (3, .adr (.box 3) [(0, 0)] 3 0), (1, .val false [.lit (.int .i64 x1)]), (2, .val false [.lit (.int .i64 x2)])], [(6, [.lit (.bool false), .lit (.int .i64 0), .lit (.bool false), .lit (.int .i64 0), .lit (.int .i64 0), .lit (.int .i64 0), .lit (.int .i64 0), .lit (.int .i64 0)]), (3, (CV.frzRow (Net.row x0)))]⟩ (by kernel_rfl) ?_
  cases h1 : (!r1)
  · have H := bifF h1 H
    refine LAt.runU tOk 4 (by kernel_rfl) ?_
    obtain ⟨v2, ev2, H⟩ := bind_some H
    refine LAt.indexF tOk (t := 30) (ty := 0) (x := (.tmp 18)) (y := (.tmp 19)) (d := 20) (g := (some (7, false))) ⟨(.slot 18), [], 0, false, 11, (CV.frzEs (x0.Bridges.map Bridge.row))⟩ x1 (CV.frzRow (Bridge.row v2)) _ (by kernel_rfl) (by kernel_rfl) (by kernel_rfl) (by kernel_rfl) rfl (idx_isF ev2) rfl ?_
    refine LAt.runU tOk 2 (by kernel_rfl) ?_
    refine LAt.lenE tOk (t := 55) (ty := 3) (e := 114) (x := (.tmp 22)) (d := 23) (g := (some (7, false))) ⟨(.slot 22), [], 0, false, 8, (CV.frzEs (v2.Ports.map Pt.row))⟩ (v2.Ports).length _ (by kernel_rfl) (by kernel_rfl) (by kernel_rfl) (by kernel_rfl) (by kernel_rfl) (frz_len _ _) rfl ?_
    refine LAt.runU tOk 1 (by kernel_rfl) ?_
    obtain ⟨r3, er3, H⟩ := bind_some H
    refine LAt.callU tOk [.rd, .rd, .rd] (f := 70) (av := #[.tmp 16, .const (.int .i64 0), .tmp 24]) (ats := #[3, 3, 3]) (d := (some 25)) (ty := 4) (g := (some (7, false))) (by kernel_rfl) (by kernel_rfl) (by kernel_rfl) [] (impl_in n x2 0 (IntKind.wrap .i64 ((v2.Ports.length : Int) - 1)) r3 er3) (by kernel_rfl) (.inl rfl) ?_
    refine LAt.runU tOk 2 (by kernel_rfl) ?_
    refine LAt.doneU [27, 7, 6, 3, 1, 2] [6, 3] (by kernel_rfl) ?_
    refine Tr.to ⟨38, 0, [(27, .val false [.lit (.bool (!r3))]), (7, .val false [.lit (.bool false)]), (6, .adr (.box 6) [(0, 0)] 8 0), (3, .adr (.box 3) [(0, 0)] 3 0), (1, .val false [.lit (.int .i64 x1)]), (2, .val false [.lit (.int .i64 x2)])], [(6, [.lit (.bool false), .lit (.int .i64 0), .lit (.bool false), .lit (.int .i64 0), .lit (.int .i64 0), .lit (.int .i64 0), .lit (.int .i64 0), .lit (.int .i64 0)]), (3, (CV.frzRow (Net.row x0)))]⟩ (by kernel_rfl) ?_
    cases h2 : (!r3)
    · have H := bifF h2 H
      refine Tr.cond (b := false) (by kernel_rfl) (fun h => nomatch h) (fun _ => ?_)
      refine Tr.skip ?_
      show Tr _ _ _ _ _
      refine Tr.rs ?_
      refine LAt.runU tOk 3 (by kernel_rfl) ?_
      obtain ⟨v4, ev4, H⟩ := bind_some H
      refine LAt.indexF tOk (t := 30) (ty := 0) (x := (.tmp 30)) (y := (.tmp 31)) (d := 32) (g := none) ⟨(.slot 30), [], 0, false, 11, (CV.frzEs (x0.Bridges.map Bridge.row))⟩ x1 (CV.frzRow (Bridge.row v4)) _ (by kernel_rfl) (by kernel_rfl) (by kernel_rfl) (by kernel_rfl) rfl (idx_isF ev4) rfl ?_
      refine LAt.runU tOk 3 (by kernel_rfl) ?_
      obtain ⟨v5, ev5, H⟩ := bind_some H
      refine LAt.indexF tOk (t := 55) (ty := 0) (x := (.tmp 34)) (y := (.tmp 35)) (d := 36) (g := none) ⟨(.slot 34), [], 0, false, 8, (CV.frzEs (v4.Ports.map Pt.row))⟩ x2 (Pt.row v5) _ (by kernel_rfl) (by kernel_rfl) (by kernel_rfl) (by kernel_rfl) rfl (idx_isF ev5) rfl ?_
      refine LAt.runU tOk 3 (by kernel_rfl) ?_
      refine LAt.doneU [7, 6] [6] (by kernel_rfl) ?_
      refine Tr.ret ?_
      have H := Option.some.inj H
      subst H
      exact Fin.of _ [(true, (Pt.row v5)), (false, [.lit (.bool true)])] (by kernel_rfl) rfl rfl
    · have H := bifT h2 H
      refine Tr.cond (b := true) (by kernel_rfl) (fun _ => ?_) (fun h => nomatch h)
      refine Tr.rs ?_
      refine LAt.runU tOk 3 (by kernel_rfl) ?_
      refine LAt.doneU [7, 6, 3, 1, 2] [6, 3] (by kernel_rfl) ?_
      refine Tr.ret ?_
      have H := Option.some.inj H
      subst H
      exact Fin.of _ [(true, [.lit (.bool false), .lit (.int .i64 0), .lit (.bool false), .lit (.int .i64 0), .lit (.int .i64 0), .lit (.int .i64 0), .lit (.int .i64 0), .lit (.int .i64 0)]), (false, [.lit (.bool false)])] (by kernel_rfl) rfl rfl
  · have H := bifT h1 H
    refine LAt.runU tOk 12 (by kernel_rfl) ?_
    refine LAt.doneU [27, 7, 6, 3, 1, 2] [6, 3] (by kernel_rfl) ?_
    refine Tr.cond (b := true) (by kernel_rfl) (fun _ => ?_) (fun h => nomatch h)
    refine Tr.rs ?_
    refine LAt.runU tOk 3 (by kernel_rfl) ?_
    refine LAt.doneU [7, 6, 3, 1, 2] [6, 3] (by kernel_rfl) ?_
    refine Tr.ret ?_
    have H := Option.some.inj H
    subst H
    exact Fin.of _ [(true, [.lit (.bool false), .lit (.int .i64 0), .lit (.bool false), .lit (.int .i64 0), .lit (.int .i64 0), .lit (.int .i64 0), .lit (.int .i64 0), .lit (.int .i64 0)]), (false, [.lit (.bool false)])] (by kernel_rfl) rfl rfl

def impl_LinkUpF (n : Nat) (x0 : Net) (x1 : Int) : Option (Bool) :=
  ((impl_inF n x1 0 (IntKind.wrap .i64 ((x0.Links.length : Int) - 1))).bind fun r1 => (bif (!r1) then (some false) else ((idx x0.Links x1).bind fun v2 => ((idx x0.Links x1).bind fun v3 => ((impl_portAtF n x0 v2.A v3.P).bind fun r4 => ((idx x0.Links x1).bind fun v5 => ((idx x0.Links x1).bind fun v6 => ((impl_portAtF n x0 v5.B v6.Q).bind fun r7 => (bif r4.2 then (bif r7.2 then (bif r4.1.Up then (some r7.1.Up) else (some false)) else (some false)) else (some false))))))))))
/-- loop.example/g00326/impl.LinkUp -/
theorem impl_LinkUp (n : Nat) (x0 : Net) (x1 : Int) (r : Bool) (H : impl_LinkUpF n x0 x1 = some r) : LCall Try.prog 78 [.val true (CV.frzRow (Net.row x0)), .val false [.lit (.int .i64 x1)]] [.val false [.lit (.bool r)]] [] := by
  refine LCall.of_body tOk Try.func78 rfl (c := (.seq (.region 0 (rg Try.f78 0) false) (.seq (.seq (.region 1 (rg Try.f78 1) false) (.cond (.tmp 15) (.seq (.region 2 (rg Try.f78 2) false) .ret) .skip)) (.seq (.region 3 (rg Try.f78 3) true) (.seq (.region 4 (rg Try.f78 4) true) (.seq (.region 5 (rg Try.f78 5) false) .ret)))))) (by kernel_rfl) (Nat.le_of_ble_eq_true (by kernel_rfl)) 0 (rs := [.tmp 4]) rfl [] .nil [(false, [.lit (.bool r)])] [] [] fun cx => ?_
  show Tr _ _ _ ⟨62, 0, [(0, .val true (CV.frzRow (Net.row x0))), (1, .val false [.lit (.int .i64 x1)])], []⟩ _
  unfold impl_LinkUpF at H
  refine Tr.rs ?_
  refine LAt.runU tOk 2 (by kernel_rfl) ?_
  refine LAt.doneU [4, 2, 1] [2] (by kernel_rfl) ?_
  refine Tr.seq ?_
  refine Tr.rs ?_
  refine LAt.runU tOk 3 (by kernel_rfl) ?_
  refine LAt.lenE tOk (t := 31) (ty := 3) (e := 96) (x := (.tmp 11)) (d := 12) (g := none) ⟨(.slot 11), [], 0, false, 4, (CV.frzEs (x0.Links.map Link.row))⟩ (x0.Links).length _ (by kernel_rfl) (by kernel_rfl) (by kernel_rfl) (by kernel_rfl) (by kernel_rfl) (frz_len _ _) rfl ?_
  refine LAt.runU tOk 1 (by kernel_rfl) ?_
  obtain ⟨r1, er1, H⟩ := bind_some H
  refine LAt.callU tOk [.rd, .rd, .rd] (f := 70) (av := #[.tmp 9, .const (.int .i64 0), .tmp 13]) (ats := #[3, 3, 3]) (d := (some 14)) (ty := 4) (g := none) (by kernel_rfl) (by kernel_rfl) (by kernel_rfl) [] (impl_in n x1 0 (IntKind.wrap .i64 ((x0.Links.length : Int) - 1)) r1 er1) (by kernel_rfl) (.inl rfl) ?_
  refine LAt.runU tOk 1 (by kernel_rfl) ?_
  refine LAt.doneU [15, 4, 2, 1] [2] (by kernel_rfl) ?_
  refine Tr.to ⟨62, 0, [(15, .val false [.lit (.bool (!r1))]), (4, .val false [.lit (.bool false)]), (2, .adr (.box 2) [(0, 0)] 3 0), (1, .val false [.lit (.int .i64 x1)])], [(2, (CV.frzRow (Net.row x0)))]⟩ (by kernel_rfl) ?_
  cases h1 : (!r1)
  · have H := bifF h1 H
    refine Tr.cond (b := false) (by kernel_rfl) (fun h => nomatch h) (fun _ => ?_)
    refine Tr.skip ?_
    show Tr _ _ _ _ _
    obtain ⟨v2, ev2, H⟩ := bind_some H
    obtain ⟨v3, ev3, H⟩ := bind_some H
    obtain ⟨r4, er4, H⟩ := bind_some H
    refine Tr.draws mixed 20 (by kernel_rfl) ⟨62, 0, [(6, .val false [.lit (.bool r4.2)]), (5, .adr (.box 5) [(0, 0)] 8 0), (4, .val false [.lit (.bool false)]), (2, .adr (.box 2) [(0, 0)] 3 0), (1, .val false [.lit (.int .i64 x1)])], [(5, (Pt.row r4.1)), (2, (CV.frzRow (Net.row x0)))]⟩ (fun cx => ?_) ?_
    · refine AT.runU tOk [(0, [13, 18]), (1, []), (2, [13, 18]), (3, [])] 16 [⟨[13, 18], 31, 18, 19⟩, ⟨[13, 18], 34, 2, 17⟩] [3, 2, 1, 0] rfl (by kernel_rfl) (fun cx => ?_)
      refine AT.indexF tOk 4 (t := 31) (ty := 0) (x := (.tmp 19)) (y := (.tmp 20)) (d := 21) (g := none) ⟨(.box 2), [(0, 0)], 1, false, 4, (CV.frzEs (x0.Links.map Link.row))⟩ x1 (Link.row v2) _ (by kernel_rfl) (by kernel_rfl) (by kernel_rfl) (by kernel_rfl) (by kernel_rfl) (by kernel_rfl) rfl (idx_isF ev2) rfl (fun cx => ?_)
      refine AT.runU tOk [(5, []), (6, []), (7, []), (8, [13, 18]), (9, [])] 10 [⟨[13, 18], 31, 24, 25⟩, ⟨[13, 18], 31, 18, 19⟩, ⟨[13, 18], 34, 2, 17⟩] [9, 8, 7, 6, 5, 4, 3, 2, 1, 0] rfl (by kernel_rfl) (fun cx => ?_)
      refine AT.indexF tOk 10 (t := 31) (ty := 0) (x := (.tmp 25)) (y := (.tmp 26)) (d := 27) (g := none) ⟨(.box 2), [(0, 0)], 1, false, 4, (CV.frzEs (x0.Links.map Link.row))⟩ x1 (Link.row v3) _ (by kernel_rfl) (by kernel_rfl) (by kernel_rfl) (by kernel_rfl) (by kernel_rfl) (by kernel_rfl) rfl (idx_isF ev3) rfl (fun cx => ?_)
      refine AT.runU tOk [(11, []), (12, [])] 7 [⟨[13, 18], 31, 24, 25⟩, ⟨[13, 18], 31, 18, 19⟩, ⟨[13, 18], 34, 2, 17⟩] [12, 11, 10, 9, 8, 7, 6, 5, 4, 3, 2, 1, 0] rfl (by kernel_rfl) (fun cx => ?_)
      refine AT.big2 tOk 13 17 (by kernel_rfl) (And.intro (by kernel_rfl) ?_) (And.intro (by kernel_rfl) ?_)
      · refine LAt.callU tOk [.rd, .rd, .rd] (f := 138) (av := #[.tmp 17, .tmp 23, .tmp 29]) (ats := #[34, 3, 3]) (d := (some 30)) (ty := 153) (g := none) (by kernel_rfl) (by kernel_rfl) (by kernel_rfl) [] (impl_portAt n x0 v2.A v3.P r4 er4) (by kernel_rfl) (.inl rfl) ?_
        refine LAt.fin (by kernel_rfl) (And.intro (And.intro (by kernel_rfl) (by kernel_rfl)) ?_)
        refine AT.movT tOk 14 (ty := 153) (t := 30) (d := 16) (g := none) [(true, (Pt.row r4.1)), (false, [.lit (.bool r4.2)])] _ (by kernel_rfl) (by kernel_rfl) (by kernel_rfl) (.inl rfl) (by kernel_rfl) (by kernel_rfl) (by kernel_rfl) (by kernel_rfl) rfl (fun cx => ?_)
        refine AT.runU tOk [(15, []), (16, [])] 3 [⟨[13, 18], 31, 24, 25⟩, ⟨[13, 18], 31, 18, 19⟩, ⟨[13, 18], 34, 2, 17⟩] [16, 15, 14, 13, 12, 11, 10, 9, 8, 7, 6, 5, 4, 3, 2, 1, 0] rfl (by kernel_rfl) (fun cx => ?_)
        refine AT.big1 tOk 17 (by kernel_rfl) (by kernel_rfl) ?_
        refine LAt.runU tOk 1 (by kernel_rfl) ?_
        refine LAt.fin (by kernel_rfl) (And.intro (And.intro (by kernel_rfl) (by kernel_rfl)) ?_)
        refine AT.big1 tOk 18 (by kernel_rfl) (by kernel_rfl) ?_
        refine LAt.runU tOk 1 (by kernel_rfl) ?_
        refine LAt.fin (by kernel_rfl) (And.intro (And.intro (by kernel_rfl) (by kernel_rfl)) ?_)
        refine AT.runU tOk [(19, [])] 0 [⟨[13, 18], 31, 24, 25⟩, ⟨[13, 18], 31, 18, 19⟩, ⟨[13, 18], 34, 2, 17⟩] [19, 18, 17, 16, 15, 14, 13, 12, 11, 10, 9, 8, 7, 6, 5, 4, 3, 2, 1, 0] rfl (by kernel_rfl) (fun cx => ?_)
        exact AT.done [6, 5, 4, 2, 1] [5, 2] _ (by kernel_rfl) (by kernel_rfl) rfl
      · refine LAt.runU tOk 1 (by kernel_rfl) ?_
        refine LAt.fin (by kernel_rfl) (And.intro (And.intro (by kernel_rfl) (by kernel_rfl)) ?_)
        refine AT.big1 tOk 13 (by kernel_rfl) (by kernel_rfl) ?_
        refine LAt.callU tOk [.rd, .rd, .rd] (f := 138) (av := #[.tmp 17, .tmp 23, .tmp 29]) (ats := #[34, 3, 3]) (d := (some 30)) (ty := 153) (g := none) (by kernel_rfl) (by kernel_rfl) (by kernel_rfl) [] (impl_portAt n x0 v2.A v3.P r4 er4) (by kernel_rfl) (.inl rfl) ?_
        refine LAt.fin (by kernel_rfl) (And.intro (And.intro (by kernel_rfl) (by kernel_rfl)) ?_)
        refine AT.movT tOk 14 (ty := 153) (t := 30) (d := 16) (g := none) [(true, (Pt.row r4.1)), (false, [.lit (.bool r4.2)])] _ (by kernel_rfl) (by kernel_rfl) (by kernel_rfl) (.inl rfl) (by kernel_rfl) (by kernel_rfl) (by kernel_rfl) (by kernel_rfl) rfl (fun cx => ?_)
        refine AT.runU tOk [(15, []), (16, [])] 2 [⟨[13, 18], 31, 24, 25⟩, ⟨[13, 18], 31, 18, 19⟩, ⟨[13, 18], 34, 2, 17⟩] [16, 15, 14, 13, 17, 12, 11, 10, 9, 8, 7, 6, 5, 4, 3, 2, 1, 0] rfl (by kernel_rfl) (fun cx => ?_)
        refine AT.big1 tOk 18 (by kernel_rfl) (by kernel_rfl) ?_
        refine LAt.runU tOk 1 (by kernel_rfl) ?_
        refine LAt.fin (by kernel_rfl) (And.intro (And.intro (by kernel_rfl) (by kernel_rfl)) ?_)
        refine AT.runU tOk [(19, [])] 0 [⟨[13, 18], 31, 24, 25⟩, ⟨[13, 18], 31, 18, 19⟩, ⟨[13, 18], 34, 2, 17⟩] [19, 18, 16, 15, 14, 13, 17, 12, 11, 10, 9, 8, 7, 6, 5, 4, 3, 2, 1, 0] rfl (by kernel_rfl) (fun cx => ?_)
        exact AT.done [6, 5, 4, 2, 1] [5, 2] _ (by kernel_rfl) (by kernel_rfl) rfl
    · obtain ⟨v5, ev5, H⟩ := bind_some H
      obtain ⟨v6, ev6, H⟩ := bind_some H
      obtain ⟨r7, er7, H⟩ := bind_some H
      refine Tr.draws mixed 20 (by kernel_rfl) ⟨62, 0, [(8, .val false [.lit (.bool r7.2)]), (7, .adr (.box 7) [(0, 0)] 8 0), (6, .val false [.lit (.bool r4.2)]), (5, .adr (.box 5) [(0, 0)] 8 0), (4, .val false [.lit (.bool false)])], [(7, (Pt.row r7.1)), (5, (Pt.row r4.1))]⟩ (fun cx => ?_) ?_
      · refine AT.runU tOk [(0, [13, 18]), (1, []), (2, [13, 18]), (3, [])] 16 [⟨[13, 18], 31, 35, 36⟩, ⟨[13, 18], 34, 2, 34⟩] [3, 2, 1, 0] rfl (by kernel_rfl) (fun cx => ?_)
        refine AT.indexF tOk 4 (t := 31) (ty := 0) (x := (.tmp 36)) (y := (.tmp 37)) (d := 38) (g := none) ⟨(.box 2), [(0, 0)], 1, false, 4, (CV.frzEs (x0.Links.map Link.row))⟩ x1 (Link.row v5) _ (by kernel_rfl) (by kernel_rfl) (by kernel_rfl) (by kernel_rfl) (by kernel_rfl) (by kernel_rfl) rfl (idx_isF ev5) rfl (fun cx => ?_)
        refine AT.runU tOk [(5, []), (6, []), (7, []), (8, [13, 18]), (9, [])] 10 [⟨[13, 18], 31, 41, 42⟩, ⟨[13, 18], 31, 35, 36⟩, ⟨[13, 18], 34, 2, 34⟩] [9, 8, 7, 6, 5, 4, 3, 2, 1, 0] rfl (by kernel_rfl) (fun cx => ?_)
        refine AT.indexF tOk 10 (t := 31) (ty := 0) (x := (.tmp 42)) (y := (.tmp 43)) (d := 44) (g := none) ⟨(.box 2), [(0, 0)], 1, false, 4, (CV.frzEs (x0.Links.map Link.row))⟩ x1 (Link.row v6) _ (by kernel_rfl) (by kernel_rfl) (by kernel_rfl) (by kernel_rfl) (by kernel_rfl) (by kernel_rfl) rfl (idx_isF ev6) rfl (fun cx => ?_)
        refine AT.runU tOk [(11, []), (12, [])] 7 [⟨[13, 18], 31, 41, 42⟩, ⟨[13, 18], 31, 35, 36⟩, ⟨[13, 18], 34, 2, 34⟩] [12, 11, 10, 9, 8, 7, 6, 5, 4, 3, 2, 1, 0] rfl (by kernel_rfl) (fun cx => ?_)
        refine AT.big2 tOk 13 17 (by kernel_rfl) (And.intro (by kernel_rfl) ?_) (And.intro (by kernel_rfl) ?_)
        · refine LAt.callU tOk [.rd, .rd, .rd] (f := 138) (av := #[.tmp 34, .tmp 40, .tmp 46]) (ats := #[34, 3, 3]) (d := (some 47)) (ty := 153) (g := none) (by kernel_rfl) (by kernel_rfl) (by kernel_rfl) [] (impl_portAt n x0 v5.B v6.Q r7 er7) (by kernel_rfl) (.inl rfl) ?_
          refine LAt.fin (by kernel_rfl) (And.intro (And.intro (by kernel_rfl) (by kernel_rfl)) ?_)
          refine AT.movT tOk 14 (ty := 153) (t := 47) (d := 33) (g := none) [(true, (Pt.row r7.1)), (false, [.lit (.bool r7.2)])] _ (by kernel_rfl) (by kernel_rfl) (by kernel_rfl) (.inl rfl) (by kernel_rfl) (by kernel_rfl) (by kernel_rfl) (by kernel_rfl) rfl (fun cx => ?_)
          refine AT.runU tOk [(15, []), (16, [])] 3 [⟨[13, 18], 31, 41, 42⟩, ⟨[13, 18], 31, 35, 36⟩, ⟨[13, 18], 34, 2, 34⟩] [16, 15, 14, 13, 12, 11, 10, 9, 8, 7, 6, 5, 4, 3, 2, 1, 0] rfl (by kernel_rfl) (fun cx => ?_)
          refine AT.big1 tOk 17 (by kernel_rfl) (by kernel_rfl) ?_
          refine LAt.runU tOk 1 (by kernel_rfl) ?_
          refine LAt.fin (by kernel_rfl) (And.intro (And.intro (by kernel_rfl) (by kernel_rfl)) ?_)
          refine AT.big1 tOk 18 (by kernel_rfl) (by kernel_rfl) ?_
          refine LAt.runU tOk 1 (by kernel_rfl) ?_
          refine LAt.fin (by kernel_rfl) (And.intro (And.intro (by kernel_rfl) (by kernel_rfl)) ?_)
          refine AT.runU tOk [(19, [])] 0 [⟨[13, 18], 31, 41, 42⟩, ⟨[13, 18], 31, 35, 36⟩, ⟨[13, 18], 34, 2, 34⟩] [19, 18, 17, 16, 15, 14, 13, 12, 11, 10, 9, 8, 7, 6, 5, 4, 3, 2, 1, 0] rfl (by kernel_rfl) (fun cx => ?_)
          exact AT.done [8, 7, 6, 5, 4] [7, 5] _ (by kernel_rfl) (by kernel_rfl) rfl
        · refine LAt.runU tOk 1 (by kernel_rfl) ?_
          refine LAt.fin (by kernel_rfl) (And.intro (And.intro (by kernel_rfl) (by kernel_rfl)) ?_)
          refine AT.big1 tOk 13 (by kernel_rfl) (by kernel_rfl) ?_
          refine LAt.callU tOk [.rd, .rd, .rd] (f := 138) (av := #[.tmp 34, .tmp 40, .tmp 46]) (ats := #[34, 3, 3]) (d := (some 47)) (ty := 153) (g := none) (by kernel_rfl) (by kernel_rfl) (by kernel_rfl) [] (impl_portAt n x0 v5.B v6.Q r7 er7) (by kernel_rfl) (.inl rfl) ?_
          refine LAt.fin (by kernel_rfl) (And.intro (And.intro (by kernel_rfl) (by kernel_rfl)) ?_)
          refine AT.movT tOk 14 (ty := 153) (t := 47) (d := 33) (g := none) [(true, (Pt.row r7.1)), (false, [.lit (.bool r7.2)])] _ (by kernel_rfl) (by kernel_rfl) (by kernel_rfl) (.inl rfl) (by kernel_rfl) (by kernel_rfl) (by kernel_rfl) (by kernel_rfl) rfl (fun cx => ?_)
          refine AT.runU tOk [(15, []), (16, [])] 2 [⟨[13, 18], 31, 41, 42⟩, ⟨[13, 18], 31, 35, 36⟩, ⟨[13, 18], 34, 2, 34⟩] [16, 15, 14, 13, 17, 12, 11, 10, 9, 8, 7, 6, 5, 4, 3, 2, 1, 0] rfl (by kernel_rfl) (fun cx => ?_)
          refine AT.big1 tOk 18 (by kernel_rfl) (by kernel_rfl) ?_
          refine LAt.runU tOk 1 (by kernel_rfl) ?_
          refine LAt.fin (by kernel_rfl) (And.intro (And.intro (by kernel_rfl) (by kernel_rfl)) ?_)
          refine AT.runU tOk [(19, [])] 0 [⟨[13, 18], 31, 41, 42⟩, ⟨[13, 18], 31, 35, 36⟩, ⟨[13, 18], 34, 2, 34⟩] [19, 18, 16, 15, 14, 13, 17, 12, 11, 10, 9, 8, 7, 6, 5, 4, 3, 2, 1, 0] rfl (by kernel_rfl) (fun cx => ?_)
          exact AT.done [8, 7, 6, 5, 4] [7, 5] _ (by kernel_rfl) (by kernel_rfl) rfl
      · refine Tr.rs ?_
        refine LAt.runU tOk 2 (by kernel_rfl) ?_
        refine LAt.to ⟨62, 0, [(51, .val false [.lit (.bool r4.2)]), (50, .val false [.lit (.bool r4.2)]), (8, .val false [.lit (.bool r7.2)]), (7, .adr (.box 7) [(0, 0)] 8 0), (6, .val false [.lit (.bool r4.2)]), (5, .adr (.box 5) [(0, 0)] 8 0), (4, .val false [.lit (.bool false)])], [(7, (Pt.row r7.1)), (5, (Pt.row r4.1))]⟩ (by kernel_rfl) ?_
        cases h2 : r4.2
        · have H := bifF h2 H
          refine LAt.runU tOk 11 (by kernel_rfl) ?_
          refine LAt.doneU [4] [] (by kernel_rfl) ?_
          refine Tr.ret ?_
          have H := Option.some.inj H
          subst H
          exact Fin.of _ [(false, [.lit (.bool false)])] (by kernel_rfl) rfl rfl
        · have H := bifT h2 H
          refine LAt.runU tOk 3 (by kernel_rfl) ?_
          refine LAt.to ⟨62, 0, [(54, .val false [.lit (.bool r7.2)]), (53, .val false [.lit (.bool r7.2)]), (52, .val false [.lit (.bool r7.2)]), (51, .val false [.lit (.bool true)]), (50, .val false [.lit (.bool true)]), (8, .val false [.lit (.bool r7.2)]), (7, .adr (.box 7) [(0, 0)] 8 0), (6, .val false [.lit (.bool true)]), (5, .adr (.box 5) [(0, 0)] 8 0), (4, .val false [.lit (.bool false)])], [(7, (Pt.row r7.1)), (5, (Pt.row r4.1))]⟩ (by kernel_rfl) ?_
          cases h3 : r7.2
          · have H := bifF h3 H
            refine LAt.runU tOk 8 (by kernel_rfl) ?_
            refine LAt.doneU [4] [] (by kernel_rfl) ?_
            refine Tr.ret ?_
            have H := Option.some.inj H
            subst H
            exact Fin.of _ [(false, [.lit (.bool false)])] (by kernel_rfl) rfl rfl
          · have H := bifT h3 H
            refine LAt.runU tOk 4 (by kernel_rfl) ?_
            refine LAt.to ⟨62, 0, [(58, .val false [.lit (.bool r4.1.Up)]), (57, .val false [.lit (.bool r4.1.Up)]), (56, .val false [.lit (.bool r4.1.Up)]), (55, .adr (.box 5) [(0, 0)] 8 0), (54, .val false [.lit (.bool true)]), (53, .val false [.lit (.bool true)]), (52, .val false [.lit (.bool true)]), (51, .val false [.lit (.bool true)]), (50, .val false [.lit (.bool true)]), (8, .val false [.lit (.bool true)]), (7, .adr (.box 7) [(0, 0)] 8 0), (6, .val false [.lit (.bool true)]), (5, .adr (.box 5) [(0, 0)] 8 0), (4, .val false [.lit (.bool false)])], [(7, (Pt.row r7.1)), (5, (Pt.row r4.1))]⟩ (by kernel_rfl) ?_
            cases h4 : r4.1.Up
            · have H := bifF h4 H
              refine LAt.runU tOk 4 (by kernel_rfl) ?_
              refine LAt.doneU [4] [] (by kernel_rfl) ?_
              refine Tr.ret ?_
              have H := Option.some.inj H
              subst H
              exact Fin.of _ [(false, [.lit (.bool false)])] (by kernel_rfl) rfl rfl
            · have H := bifT h4 H
              refine LAt.runU tOk 4 (by kernel_rfl) ?_
              refine LAt.doneU [4] [] (by kernel_rfl) ?_
              refine Tr.ret ?_
              have H := Option.some.inj H
              subst H
              exact Fin.of _ [(false, [.lit (.bool r7.1.Up)])] (by kernel_rfl) rfl rfl
  · have H := bifT h1 H
    refine Tr.cond (b := true) (by kernel_rfl) (fun _ => ?_) (fun h => nomatch h)
    refine Tr.rs ?_
    refine LAt.runU tOk 1 (by kernel_rfl) ?_
    refine LAt.doneU [4, 2, 1] [2] (by kernel_rfl) ?_
    refine Tr.ret ?_
    have H := Option.some.inj H
    subst H
    exact Fin.of _ [(false, [.lit (.bool false)])] (by kernel_rfl) rfl rfl

def impl_UpLinks_J1 (n : Nat) (y3 : (List Int)) : Option ((List Int)) :=
  (some y3)
def impl_UpLinks_L2 (n : Nat) : Nat → Net → Int → (List Int) → Option (((List Int)) ⊕ ((List Int)))
  | 0, _, _, _ => none
  | mo4 + 1, x0, y1, y2 => (bif (decide (y1 < (x0.Links.length : Int))) then ((impl_LinkUpF n x0 y1).bind fun r5 => (bif r5 then (bif (decide (y2.length + [y1].length ≤ 268435456)) then (impl_UpLinks_L2 n mo4 x0 (IntKind.wrap .i64 (y1 + 1)) (y2 ++ [y1])) else none) else (impl_UpLinks_L2 n mo4 x0 (IntKind.wrap .i64 (y1 + 1)) y2))) else (some (Sum.inl y2)))
def impl_UpLinksF (n : Nat) (x0 : Net) : Option ((List Int)) :=
  ((impl_UpLinks_L2 n n x0 0 ([] : List Int)).bind fun o => match o with | .inl y3 => (impl_UpLinks_J1 n y3) | .inr r => some r)
/-- loop.example/g00326/impl.UpLinks -/
theorem impl_UpLinks (n : Nat) (x0 : Net) (r : (List Int)) (H : impl_UpLinksF n x0 = some r) : LCall Try.prog 25 [.val true (CV.frzRow (Net.row x0))] [.val false [.sl true 1 (r.map intRow)]] [] := by
  refine LCall.of_body tOk Try.func25 rfl (c := (.seq (.region 0 (rg Try.f25 0) false) (.seq (.region 1 (rg Try.f25 1) false) (.seq (.seq (.region 2 (rg Try.f25 2) false) (.block 0 (.loop (.seq (.region 3 (rg Try.f25 3) false) (.seq (.cond (.tmp 9) .skip (.exit 0)) (.seq (.block 1 (.seq (.region 4 (rg Try.f25 4) false) (.seq (.region 5 (rg Try.f25 5) false) (.cond (.tmp 13) (.region 6 (rg Try.f25 6) false) .skip)))) (.region 7 (rg Try.f25 7) false))))))) (.seq (.region 8 (rg Try.f25 8) false) .ret))))) (by kernel_rfl) (Nat.le_of_ble_eq_true (by kernel_rfl)) 0 (rs := [.tmp 2]) rfl [] .nil [(false, [.sl true 1 (r.map intRow)])] [] [] fun cx => ?_
  show Tr _ _ _ ⟨20, 0, [(0, .val true (CV.frzRow (Net.row x0)))], []⟩ _
  unfold impl_UpLinksF at H
  refine Tr.rs ?_
  refine LAt.runU tOk 2 (by kernel_rfl) ?_
  refine LAt.doneU [2, 1] [1] (by kernel_rfl) ?_
  refine Tr.rs ?_
  refine LAt.runU tOk 1 (by kernel_rfl) ?_
  refine LAt.doneU [3, 2, 1] [1] (by kernel_rfl) ?_
  refine Tr.seq ?_
  refine Tr.rs ?_
  refine LAt.runU tOk 2 (by kernel_rfl) ?_
  refine LAt.lenE tOk (t := 31) (ty := 3) (e := 96) (x := (.tmp 6)) (d := 7) (g := none) ⟨(.slot 6), [], 0, false, 4, (CV.frzEs (x0.Links.map Link.row))⟩ (x0.Links).length _ (by kernel_rfl) (by kernel_rfl) (by kernel_rfl) (by kernel_rfl) (by kernel_rfl) (frz_len _ _) rfl ?_
  refine LAt.runU tOk 1 (by kernel_rfl) ?_
  refine LAt.doneU [8, 7, 3, 2, 1] [1] (by kernel_rfl) ?_
  obtain ⟨o4, eo4, Ho4⟩ := bind_some H
  clear H
  refine Tr.mid (ι := (List Int)) (fun v => ⟨20, 0, [(3, .val false [.sl true 1 (v.map intRow)]), (2, .val false [.sl true 1 (([] : List Int).map intRow)])], []⟩) (fun v => impl_UpLinks_J1 n v = some r) ?_ ?_
  · refine Tr.block ?_
    refine Tr.loop (ι := Nat × (Int × (List Int))) (fun v => ⟨20, 0, [(8, .val false [.lit (.int .i64 v.2.1)]), (7, .val false [.lit (.int .i64 (x0.Links.length : Int))]), (3, .val false [.sl true 1 (v.2.2.map intRow)]), (2, .val false [.sl true 1 (([] : List Int).map intRow)]), (1, .adr (.box 1) [(0, 0)] 3 0)], [(1, (CV.frzRow (Net.row x0)))]⟩) (fun v => impl_UpLinks_L2 n v.1 x0 v.2.1 v.2.2 = some o4) (fun v => v.1) (n, (0, ([] : List Int))) eo4 (St.sub_of [8, 7, 3, 2, 1] [1] (by kernel_rfl)) ?_
    rintro ⟨mo4, y1, y2⟩ H
    have H : impl_UpLinks_L2 n mo4 x0 y1 y2 = some o4 := H
    obtain _ | mo4 := mo4
    · cases (show (none : Option _) = some o4 from H)
    · rw [impl_UpLinks_L2] at H
      refine Tr.rs ?_
      refine LAt.runU tOk 1 (by kernel_rfl) ?_
      refine LAt.doneU [9, 8, 7, 3, 2, 1] [1] (by kernel_rfl) ?_
      refine Tr.seq ?_
      refine Tr.to ⟨20, 0, [(9, .val false [.lit (.bool (decide (y1 < (x0.Links.length : Int))))]), (8, .val false [.lit (.int .i64 y1)]), (7, .val false [.lit (.int .i64 (x0.Links.length : Int))]), (3, .val false [.sl true 1 (y2.map intRow)]), (2, .val false [.sl true 1 (([] : List Int).map intRow)]), (1, .adr (.box 1) [(0, 0)] 3 0)], [(1, (CV.frzRow (Net.row x0)))]⟩ (by kernel_rfl) ?_
      cases h1 : (decide (y1 < (x0.Links.length : Int)))
      · have H := bifF h1 H
        refine Tr.cond (b := false) (by kernel_rfl) (fun h => nomatch h) (fun _ => ?_)
        refine Tr.exit ?_
        refine And.intro (fun _ => ?_) (fun h => absurd rfl h)
        have H := Option.some.inj H
        subst H
        have H := Ho4
        dsimp only at H
        exact Exists.intro y2 (And.intro H (St.sub_of [3, 2] [] (by kernel_rfl)))
      · have H := bifT h1 H
        refine Tr.cond (b := true) (by kernel_rfl) (fun _ => ?_) (fun h => nomatch h)
        refine Tr.skip ?_
        show Tr _ _ _ _ _
        refine Tr.seq ?_
        refine Tr.block ?_
        refine Tr.rs ?_
        refine LAt.runU tOk 2 (by kernel_rfl) ?_
        refine LAt.doneU [4, 10, 9, 8, 7, 3, 2, 1] [1] (by kernel_rfl) ?_
        refine Tr.rs ?_
        refine LAt.runU tOk 2 (by kernel_rfl) ?_
        obtain ⟨r5, er5, H⟩ := bind_some H
        refine LAt.callU tOk [.rd, .rd] (f := 78) (av := #[.tmp 11, .tmp 12]) (ats := #[34, 3]) (d := (some 13)) (ty := 4) (g := none) (by kernel_rfl) (by kernel_rfl) (by kernel_rfl) [] (impl_LinkUp n x0 y1 r5 er5) (by kernel_rfl) (.inl rfl) ?_
        refine LAt.doneU [13, 12, 11, 4, 10, 9, 8, 7, 3, 2, 1] [1] (by kernel_rfl) ?_
        refine Tr.to ⟨20, 0, [(13, .val false [.lit (.bool r5)]), (12, .val false [.lit (.int .i64 y1)]), (11, .val true (CV.frzRow (Net.row x0))), (4, .val false [.lit (.int .i64 y1)]), (10, .val false [.lit (.int .i64 y1)]), (9, .val false [.lit (.bool true)]), (8, .val false [.lit (.int .i64 y1)]), (7, .val false [.lit (.int .i64 (x0.Links.length : Int))]), (3, .val false [.sl true 1 (y2.map intRow)]), (2, .val false [.sl true 1 (([] : List Int).map intRow)]), (1, .adr (.box 1) [(0, 0)] 3 0)], [(1, (CV.frzRow (Net.row x0)))]⟩ (by kernel_rfl) ?_
        cases h2 : r5
        · have H := bifF h2 H
          refine Tr.cond (b := false) (by kernel_rfl) (fun h => nomatch h) (fun _ => ?_)
          refine Tr.skip ?_
          show Tr _ _ _ _ _
          refine Tr.at ?_
          refine LAt.runU tOk 2 (by kernel_rfl) ?_
          refine LAt.doneU [8, 18, 13, 12, 11, 4, 10, 9, 7, 3, 2, 1] [1] (by kernel_rfl) ?_
          exact Exists.intro (mo4, ((IntKind.wrap .i64 (y1 + 1)), y2)) (And.intro H (And.intro (Nat.lt_succ_self mo4) (St.sub_of [8, 7, 3, 2, 1] [1] (by kernel_rfl))))
        · have H := bifT h2 H
          refine Tr.cond (b := true) (by kernel_rfl) (fun _ => ?_) (fun h => nomatch h)
          refine Tr.at ?_
          refine LAt.runU tOk 3 (by kernel_rfl) ?_
          obtain ⟨hg6, H⟩ := guard_some H
          refine LAt.appMU tOk (t := 27) (ty := 27) (e := 3) (x := (.tmp 14)) (y := (.tmp 16)) (d := 17) (g := none) ⟨.int .i64, 1, 8, [.lit (.int .i64 0)]⟩ intRow y2 [y1] (by kernel_rfl) (by kernel_rfl) (by kernel_rfl) (by kernel_rfl) (by kernel_rfl) (by kernel_rfl) (by kernel_rfl) (by kernel_rfl) (by kernel_rfl) (by kernel_rfl) hg6 ?_
          refine LAt.moveU (T := lk tab) (ty := 27) (x := (.tmp 17)) (d := 3) (g := none) false [.sl true 1 ((y2 ++ [y1]).map intRow)] (by kernel_rfl) (by kernel_rfl) (by kernel_rfl) (by kernel_rfl) (by kernel_rfl) ?_
          refine LAt.doneU [3, 15, 13, 12, 11, 4, 10, 9, 8, 7, 2, 1] [1] (by kernel_rfl) ?_
          show Tr _ _ _ _ _
          refine Tr.at ?_
          refine LAt.runU tOk 2 (by kernel_rfl) ?_
          refine LAt.doneU [8, 18, 3, 15, 13, 12, 11, 4, 10, 9, 7, 2, 1] [1] (by kernel_rfl) ?_
          exact Exists.intro (mo4, ((IntKind.wrap .i64 (y1 + 1)), (y2 ++ [y1]))) (And.intro H (And.intro (Nat.lt_succ_self mo4) (St.sub_of [8, 7, 3, 2, 1] [1] (by kernel_rfl))))
  · rintro y3 H
    have H : (impl_UpLinks_J1 n y3) = some r := H
    unfold impl_UpLinks_J1 at H
    show Tr _ _ _ _ _
    refine Tr.rs ?_
    refine LAt.runU tOk 2 (by kernel_rfl) ?_
    refine LAt.doneU [2, 3] [] (by kernel_rfl) ?_
    refine Tr.ret ?_
    have H := Option.some.inj H
    subst H
    exact Fin.of _ [(false, [.sl true 1 (y3.map intRow)])] (by kernel_rfl) rfl rfl

def laws_eqIntS_J1 (n : Nat) : Option (Bool) :=
  (some true)
def laws_eqIntS_L2 (n : Nat) : Nat → (List Int) → (List Int) → Int → Option ((Unit) ⊕ (Bool))
  | 0, _, _, _ => none
  | mo2 + 1, x0, x1, y1 => (bif (decide (y1 < (x0.length : Int))) then ((idx x0 y1).bind fun v3 => ((idx x1 y1).bind fun v4 => (bif (v3 != v4) then (some (Sum.inr false)) else (laws_eqIntS_L2 n mo2 x0 x1 (IntKind.wrap .i64 (y1 + 1)))))) else (some (Sum.inl ())))
def laws_eqIntSF (n : Nat) (x0 : (List Int)) (x1 : (List Int)) : Option (Bool) :=
  (bif ((x0.length : Int) != (x1.length : Int)) then (some false) else ((laws_eqIntS_L2 n n x0 x1 0).bind fun o => match o with | .inl _ => (laws_eqIntS_J1 n) | .inr r => some r))
/-- loop.example/g00326/laws.eqIntS -/
theorem laws_eqIntS (n : Nat) (x0 : (List Int)) (x1 : (List Int)) (r : Bool) (H : laws_eqIntSF n x0 x1 = some r) : LCall Try.prog 21 [.val false [.sl false 1 (CV.frzEs (x0.map intRow))], .val false [.sl false 1 (CV.frzEs (x1.map intRow))]] [.val false [.lit (.bool r)]] [] := by
  refine LCall.of_body tOk Try.func21 rfl (c := (.seq (.region 0 (rg Try.f21 0) false) (.seq (.seq (.region 1 (rg Try.f21 1) false) (.cond (.tmp 10) (.seq (.region 2 (rg Try.f21 2) false) .ret) .skip)) (.seq (.seq (.region 3 (rg Try.f21 3) false) (.block 0 (.loop (.seq (.seq (.region 4 (rg Try.f21 4) false) (.cond (.tmp 14) .skip (.exit 0))) (.seq (.block 1 (.seq (.region 6 (rg Try.f21 6) true) (.cond (.tmp 25) (.seq (.region 7 (rg Try.f21 7) false) .ret) .skip))) (.region 5 (rg Try.f21 5) false)))))) (.seq (.region 8 (rg Try.f21 8) false) .ret))))) (by kernel_rfl) (Nat.le_of_ble_eq_true (by kernel_rfl)) 0 (rs := [.tmp 4]) rfl [] .nil [(false, [.lit (.bool r)])] [] [] fun cx => ?_
  show Tr _ _ _ ⟨26, 0, [(0, .val false [.sl false 1 (CV.frzEs (x0.map intRow))]), (1, .val false [.sl false 1 (CV.frzEs (x1.map intRow))])], []⟩ _
  unfold laws_eqIntSF at H
  refine Tr.rs ?_
  refine LAt.runU tOk 1 (by kernel_rfl) ?_
  refine LAt.doneU [4, 0, 1] [] (by kernel_rfl) ?_
  refine Tr.seq ?_
  refine Tr.rs ?_
  refine LAt.runU tOk 1 (by kernel_rfl) ?_
  refine LAt.lenE tOk (t := 27) (ty := 3) (e := 3) (x := (.tmp 6)) (d := 7) (g := none) ⟨(.slot 6), [], 0, false, 1, (CV.frzEs (x0.map intRow))⟩ (x0).length _ (by kernel_rfl) (by kernel_rfl) (by kernel_rfl) (by kernel_rfl) (by kernel_rfl) (frz_len _ _) rfl ?_
  refine LAt.runU tOk 1 (by kernel_rfl) ?_
  refine LAt.lenE tOk (t := 27) (ty := 3) (e := 3) (x := (.tmp 8)) (d := 9) (g := none) ⟨(.slot 8), [], 0, false, 1, (CV.frzEs (x1.map intRow))⟩ (x1).length _ (by kernel_rfl) (by kernel_rfl) (by kernel_rfl) (by kernel_rfl) (by kernel_rfl) (frz_len _ _) rfl ?_
  refine LAt.runU tOk 1 (by kernel_rfl) ?_
  refine LAt.doneU [10, 4, 0, 1] [] (by kernel_rfl) ?_
  refine Tr.to ⟨26, 0, [(10, .val false [.lit (.bool ((x0.length : Int) != (x1.length : Int)))]), (4, .val false [.lit (.bool false)]), (0, .val false [.sl false 1 (CV.frzEs (x0.map intRow))]), (1, .val false [.sl false 1 (CV.frzEs (x1.map intRow))])], []⟩ (by kernel_rfl) ?_
  cases h1 : ((x0.length : Int) != (x1.length : Int))
  · have H := bifF h1 H
    refine Tr.cond (b := false) (by kernel_rfl) (fun h => nomatch h) (fun _ => ?_)
    refine Tr.skip ?_
    show Tr _ _ _ _ _
    refine Tr.seq ?_
    refine Tr.rs ?_
    refine LAt.runU tOk 1 (by kernel_rfl) ?_
    refine LAt.doneU [5, 4, 0, 1] [] (by kernel_rfl) ?_
    obtain ⟨o2, eo2, Ho2⟩ := bind_some H
    clear H
    refine Tr.mid (ι := Unit) (fun v => ⟨26, 0, [(4, .val false [.lit (.bool false)])], []⟩) (fun v => laws_eqIntS_J1 n = some r) ?_ ?_
    · refine Tr.block ?_
      refine Tr.loop (ι := Nat × (Int)) (fun v => ⟨26, 0, [(5, .val false [.lit (.int .i64 v.2)]), (4, .val false [.lit (.bool false)]), (0, .val false [.sl false 1 (CV.frzEs (x0.map intRow))]), (1, .val false [.sl false 1 (CV.frzEs (x1.map intRow))])], []⟩) (fun v => laws_eqIntS_L2 n v.1 x0 x1 v.2 = some o2) (fun v => v.1) (n, 0) eo2 (St.sub_of [5, 4, 0, 1] [] (by kernel_rfl)) ?_
      rintro ⟨mo2, y1⟩ H
      have H : laws_eqIntS_L2 n mo2 x0 x1 y1 = some o2 := H
      obtain _ | mo2 := mo2
      · cases (show (none : Option _) = some o2 from H)
      · rw [laws_eqIntS_L2] at H
        refine Tr.seq ?_
        refine Tr.rs ?_
        refine LAt.runU tOk 2 (by kernel_rfl) ?_
        refine LAt.lenE tOk (t := 27) (ty := 3) (e := 3) (x := (.tmp 12)) (d := 13) (g := none) ⟨(.slot 12), [], 0, false, 1, (CV.frzEs (x0.map intRow))⟩ (x0).length _ (by kernel_rfl) (by kernel_rfl) (by kernel_rfl) (by kernel_rfl) (by kernel_rfl) (frz_len _ _) rfl ?_
        refine LAt.runU tOk 1 (by kernel_rfl) ?_
        refine LAt.doneU [14, 13, 12, 11, 5, 4, 0, 1] [] (by kernel_rfl) ?_
        refine Tr.to ⟨26, 0, [(14, .val false [.lit (.bool (decide (y1 < (x0.length : Int))))]), (13, .val false [.lit (.int .i64 (x0.length : Int))]), (12, .val false [.sl false 1 (CV.frzEs (x0.map intRow))]), (11, .val false [.lit (.int .i64 y1)]), (5, .val false [.lit (.int .i64 y1)]), (4, .val false [.lit (.bool false)]), (0, .val false [.sl false 1 (CV.frzEs (x0.map intRow))]), (1, .val false [.sl false 1 (CV.frzEs (x1.map intRow))])], []⟩ (by kernel_rfl) ?_
        cases h2 : (decide (y1 < (x0.length : Int)))
        · have H := bifF h2 H
          refine Tr.cond (b := false) (by kernel_rfl) (fun h => nomatch h) (fun _ => ?_)
          refine Tr.exit ?_
          refine And.intro (fun _ => ?_) (fun h => absurd rfl h)
          have H := Option.some.inj H
          subst H
          have H := Ho2
          dsimp only at H
          exact Exists.intro () (And.intro H (St.sub_of [4] [] (by kernel_rfl)))
        · have H := bifT h2 H
          refine Tr.cond (b := true) (by kernel_rfl) (fun _ => ?_) (fun h => nomatch h)
          refine Tr.skip ?_
          show Tr _ _ _ _ _
          refine Tr.seq ?_
          refine Tr.block ?_
          obtain ⟨v3, ev3, H⟩ := bind_some H
          obtain ⟨v4, ev4, H⟩ := bind_some H
          refine Tr.draws mixed 9 (by kernel_rfl) ⟨26, 0, [(25, .val false [.lit (.bool (v3 != v4))]), (24, .val false [.lit (.int .i64 v4)]), (23, .fad ([.lit (.int .i64 v4)])), (22, .val false [.lit (.int .i64 y1)]), (21, .val false [.sl false 1 (CV.frzEs (x1.map intRow))]), (20, .val false [.lit (.int .i64 v3)]), (19, .fad ([.lit (.int .i64 v3)])), (18, .val false [.lit (.int .i64 y1)]), (17, .val false [.sl false 1 (CV.frzEs (x0.map intRow))]), (14, .val false [.lit (.bool true)]), (13, .val false [.lit (.int .i64 (x0.length : Int))]), (12, .val false [.sl false 1 (CV.frzEs (x0.map intRow))]), (11, .val false [.lit (.int .i64 y1)]), (5, .val false [.lit (.int .i64 y1)]), (4, .val false [.lit (.bool false)]), (0, .val false [.sl false 1 (CV.frzEs (x0.map intRow))]), (1, .val false [.sl false 1 (CV.frzEs (x1.map intRow))])], []⟩ (fun cx => ?_) ?_
          · refine AT.runU tOk [(0, []), (1, [])] 7 [] [1, 0] rfl (by kernel_rfl) (fun cx => ?_)
            refine AT.indexF tOk 2 (t := 27) (ty := 0) (x := (.tmp 17)) (y := (.tmp 18)) (d := 19) (g := none) ⟨(.slot 17), [], 0, false, 1, (CV.frzEs (x0.map intRow))⟩ y1 [.lit (.int .i64 v3)] _ (by kernel_rfl) (by kernel_rfl) (by kernel_rfl) (by kernel_rfl) (by kernel_rfl) (by kernel_rfl) rfl (idx_isF ev3) rfl (fun cx => ?_)
            refine AT.runU tOk [(3, []), (4, []), (5, [])] 3 [] [5, 4, 3, 2, 1, 0] rfl (by kernel_rfl) (fun cx => ?_)
            refine AT.indexF tOk 6 (t := 27) (ty := 0) (x := (.tmp 21)) (y := (.tmp 22)) (d := 23) (g := none) ⟨(.slot 21), [], 0, false, 1, (CV.frzEs (x1.map intRow))⟩ y1 [.lit (.int .i64 v4)] _ (by kernel_rfl) (by kernel_rfl) (by kernel_rfl) (by kernel_rfl) (by kernel_rfl) (by kernel_rfl) rfl (idx_isF ev4) rfl (fun cx => ?_)
            refine AT.runU tOk [(7, []), (8, [])] 0 [] [8, 7, 6, 5, 4, 3, 2, 1, 0] rfl (by kernel_rfl) (fun cx => ?_)
            exact AT.done [25, 24, 23, 22, 21, 20, 19, 18, 17, 14, 13, 12, 11, 5, 4, 0, 1] [] _ (by kernel_rfl) (by kernel_rfl) rfl
          · refine Tr.to ⟨26, 0, [(25, .val false [.lit (.bool (v3 != v4))]), (24, .val false [.lit (.int .i64 v4)]), (23, .fad ([.lit (.int .i64 v4)])), (22, .val false [.lit (.int .i64 y1)]), (21, .val false [.sl false 1 (CV.frzEs (x1.map intRow))]), (20, .val false [.lit (.int .i64 v3)]), (19, .fad ([.lit (.int .i64 v3)])), (18, .val false [.lit (.int .i64 y1)]), (17, .val false [.sl false 1 (CV.frzEs (x0.map intRow))]), (14, .val false [.lit (.bool true)]), (13, .val false [.lit (.int .i64 (x0.length : Int))]), (12, .val false [.sl false 1 (CV.frzEs (x0.map intRow))]), (11, .val false [.lit (.int .i64 y1)]), (5, .val false [.lit (.int .i64 y1)]), (4, .val false [.lit (.bool false)]), (0, .val false [.sl false 1 (CV.frzEs (x0.map intRow))]), (1, .val false [.sl false 1 (CV.frzEs (x1.map intRow))])], []⟩ (by kernel_rfl) ?_
            cases h3 : (v3 != v4)
            · have H := bifF h3 H
              refine Tr.cond (b := false) (by kernel_rfl) (fun h => nomatch h) (fun _ => ?_)
              refine Tr.skip ?_
              show Tr _ _ _ _ _
              refine Tr.at ?_
              refine LAt.runU tOk 3 (by kernel_rfl) ?_
              refine LAt.doneU [5, 16, 15, 25, 24, 23, 22, 21, 20, 19, 18, 17, 14, 13, 12, 11, 4, 0, 1] [] (by kernel_rfl) ?_
              exact Exists.intro (mo2, (IntKind.wrap .i64 (y1 + 1))) (And.intro H (And.intro (Nat.lt_succ_self mo2) (St.sub_of [5, 4, 0, 1] [] (by kernel_rfl))))
            · have H := bifT h3 H
              refine Tr.cond (b := true) (by kernel_rfl) (fun _ => ?_) (fun h => nomatch h)
              refine Tr.rs ?_
              refine LAt.runU tOk 1 (by kernel_rfl) ?_
              refine LAt.doneU [4, 25, 24, 23, 22, 21, 20, 19, 18, 17, 14, 13, 12, 11, 5, 0, 1] [] (by kernel_rfl) ?_
              refine Tr.ret ?_
              have H := Option.some.inj H
              subst H
              have H := Ho2
              dsimp only at H
              have H := Option.some.inj H
              subst H
              exact Fin.of _ [(false, [.lit (.bool false)])] (by kernel_rfl) rfl rfl
    · rintro _ H
      have H : (laws_eqIntS_J1 n) = some r := H
      unfold laws_eqIntS_J1 at H
      show Tr _ _ _ _ _
      refine Tr.rs ?_
      refine LAt.runU tOk 1 (by kernel_rfl) ?_
      refine LAt.doneU [4] [] (by kernel_rfl) ?_
      refine Tr.ret ?_
      have H := Option.some.inj H
      subst H
      exact Fin.of _ [(false, [.lit (.bool true)])] (by kernel_rfl) rfl rfl
  · have H := bifT h1 H
    refine Tr.cond (b := true) (by kernel_rfl) (fun _ => ?_) (fun h => nomatch h)
    refine Tr.rs ?_
    refine LAt.runU tOk 1 (by kernel_rfl) ?_
    refine LAt.doneU [4, 0, 1] [] (by kernel_rfl) ?_
    refine Tr.ret ?_
    have H := Option.some.inj H
    subst H
    exact Fin.of _ [(false, [.lit (.bool false)])] (by kernel_rfl) rfl rfl

def laws_eqVecF (n : Nat) (x0 : Vec) (x1 : Vec) : Option (Bool) :=
  (bif (x0.Root != x1.Root) then (some false) else (bif (x0.Cost != x1.Cost) then (some false) else (bif (x0.Hops != x1.Hops) then (some false) else (bif (x0.Bridge != x1.Bridge) then (some false) else (bif (x0.Port != x1.Port) then (some false) else (some true))))))
/-- loop.example/g00326/laws.eqVec -/
theorem laws_eqVec (n : Nat) (x0 : Vec) (x1 : Vec) (r : Bool) (H : laws_eqVecF n x0 x1 = some r) : LCall Try.prog 173 [.val true (CV.frzRow (Vec.row x0)), .val true (CV.frzRow (Vec.row x1))] [.val false [.lit (.bool r)]] [] := by
  refine LCall.of_body tOk Try.func173 rfl (c := (.seq (.region 0 (rg Try.f173 0) false) (.seq (.seq (.region 1 (rg Try.f173 1) false) (.cond (.tmp 9) (.seq (.region 2 (rg Try.f173 2) false) .ret) .skip)) (.seq (.seq (.region 3 (rg Try.f173 3) false) (.cond (.tmp 14) (.seq (.region 4 (rg Try.f173 4) false) .ret) .skip)) (.seq (.seq (.region 5 (rg Try.f173 5) false) (.cond (.tmp 19) (.seq (.region 6 (rg Try.f173 6) false) .ret) .skip)) (.seq (.seq (.region 7 (rg Try.f173 7) false) (.cond (.tmp 24) (.seq (.region 8 (rg Try.f173 8) false) .ret) .skip)) (.seq (.seq (.region 9 (rg Try.f173 9) false) (.cond (.tmp 29) (.seq (.region 10 (rg Try.f173 10) false) .ret) .skip)) (.seq (.region 11 (rg Try.f173 11) false) .ret)))))))) (by kernel_rfl) (Nat.le_of_ble_eq_true (by kernel_rfl)) 0 (rs := [.tmp 4]) rfl [] .nil [(false, [.lit (.bool r)])] [] [] fun cx => ?_
  show Tr _ _ _ ⟨30, 0, [(0, .val true (Vec.row x0)), (1, .val true (Vec.row x1))], []⟩ _
  unfold laws_eqVecF at H
  refine Tr.rs ?_
  refine LAt.runU tOk 3 (by kernel_rfl) ?_
  refine LAt.doneU [4, 3, 2] [3, 2] (by kernel_rfl) ?_
  refine Tr.seq ?_
  refine Tr.rs ?_
  refine LAt.runU tOk 5 (by kernel_rfl) ?_
  refine LAt.doneU [9, 4, 3, 2] [3, 2] (by kernel_rfl) ?_
  refine Tr.to ⟨30, 0, [(9, .val false [.lit (.bool (x0.Root != x1.Root))]), (4, .val false [.lit (.bool false)]), (3, .adr (.box 3) [(0, 0)] 5 0), (2, .adr (.box 2) [(0, 0)] 5 0)], [(3, (Vec.row x1)), (2, (Vec.row x0))]⟩ (by kernel_rfl) ?_
  cases h1 : (x0.Root != x1.Root)
  · have H := bifF h1 H
    refine Tr.cond (b := false) (by kernel_rfl) (fun h => nomatch h) (fun _ => ?_)
    refine Tr.skip ?_
    show Tr _ _ _ _ _
    refine Tr.seq ?_
    refine Tr.rs ?_
    refine LAt.runU tOk 5 (by kernel_rfl) ?_
    refine LAt.doneU [14, 4, 3, 2] [3, 2] (by kernel_rfl) ?_
    refine Tr.to ⟨30, 0, [(14, .val false [.lit (.bool (x0.Cost != x1.Cost))]), (4, .val false [.lit (.bool false)]), (3, .adr (.box 3) [(0, 0)] 5 0), (2, .adr (.box 2) [(0, 0)] 5 0)], [(3, (Vec.row x1)), (2, (Vec.row x0))]⟩ (by kernel_rfl) ?_
    cases h2 : (x0.Cost != x1.Cost)
    · have H := bifF h2 H
      refine Tr.cond (b := false) (by kernel_rfl) (fun h => nomatch h) (fun _ => ?_)
      refine Tr.skip ?_
      show Tr _ _ _ _ _
      refine Tr.seq ?_
      refine Tr.rs ?_
      refine LAt.runU tOk 5 (by kernel_rfl) ?_
      refine LAt.doneU [19, 4, 3, 2] [3, 2] (by kernel_rfl) ?_
      refine Tr.to ⟨30, 0, [(19, .val false [.lit (.bool (x0.Hops != x1.Hops))]), (4, .val false [.lit (.bool false)]), (3, .adr (.box 3) [(0, 0)] 5 0), (2, .adr (.box 2) [(0, 0)] 5 0)], [(3, (Vec.row x1)), (2, (Vec.row x0))]⟩ (by kernel_rfl) ?_
      cases h3 : (x0.Hops != x1.Hops)
      · have H := bifF h3 H
        refine Tr.cond (b := false) (by kernel_rfl) (fun h => nomatch h) (fun _ => ?_)
        refine Tr.skip ?_
        show Tr _ _ _ _ _
        refine Tr.seq ?_
        refine Tr.rs ?_
        refine LAt.runU tOk 5 (by kernel_rfl) ?_
        refine LAt.doneU [24, 4, 3, 2] [3, 2] (by kernel_rfl) ?_
        refine Tr.to ⟨30, 0, [(24, .val false [.lit (.bool (x0.Bridge != x1.Bridge))]), (4, .val false [.lit (.bool false)]), (3, .adr (.box 3) [(0, 0)] 5 0), (2, .adr (.box 2) [(0, 0)] 5 0)], [(3, (Vec.row x1)), (2, (Vec.row x0))]⟩ (by kernel_rfl) ?_
        cases h4 : (x0.Bridge != x1.Bridge)
        · have H := bifF h4 H
          refine Tr.cond (b := false) (by kernel_rfl) (fun h => nomatch h) (fun _ => ?_)
          refine Tr.skip ?_
          show Tr _ _ _ _ _
          refine Tr.seq ?_
          refine Tr.rs ?_
          refine LAt.runU tOk 5 (by kernel_rfl) ?_
          refine LAt.doneU [29, 4] [] (by kernel_rfl) ?_
          refine Tr.to ⟨30, 0, [(29, .val false [.lit (.bool (x0.Port != x1.Port))]), (4, .val false [.lit (.bool false)])], []⟩ (by kernel_rfl) ?_
          cases h5 : (x0.Port != x1.Port)
          · have H := bifF h5 H
            refine Tr.cond (b := false) (by kernel_rfl) (fun h => nomatch h) (fun _ => ?_)
            refine Tr.skip ?_
            show Tr _ _ _ _ _
            refine Tr.rs ?_
            refine LAt.runU tOk 1 (by kernel_rfl) ?_
            refine LAt.doneU [4] [] (by kernel_rfl) ?_
            refine Tr.ret ?_
            have H := Option.some.inj H
            subst H
            exact Fin.of _ [(false, [.lit (.bool true)])] (by kernel_rfl) rfl rfl
          · have H := bifT h5 H
            refine Tr.cond (b := true) (by kernel_rfl) (fun _ => ?_) (fun h => nomatch h)
            refine Tr.rs ?_
            refine LAt.runU tOk 1 (by kernel_rfl) ?_
            refine LAt.doneU [4] [] (by kernel_rfl) ?_
            refine Tr.ret ?_
            have H := Option.some.inj H
            subst H
            exact Fin.of _ [(false, [.lit (.bool false)])] (by kernel_rfl) rfl rfl
        · have H := bifT h4 H
          refine Tr.cond (b := true) (by kernel_rfl) (fun _ => ?_) (fun h => nomatch h)
          refine Tr.rs ?_
          refine LAt.runU tOk 1 (by kernel_rfl) ?_
          refine LAt.doneU [4, 3, 2] [3, 2] (by kernel_rfl) ?_
          refine Tr.ret ?_
          have H := Option.some.inj H
          subst H
          exact Fin.of _ [(false, [.lit (.bool false)])] (by kernel_rfl) rfl rfl
      · have H := bifT h3 H
        refine Tr.cond (b := true) (by kernel_rfl) (fun _ => ?_) (fun h => nomatch h)
        refine Tr.rs ?_
        refine LAt.runU tOk 1 (by kernel_rfl) ?_
        refine LAt.doneU [4, 3, 2] [3, 2] (by kernel_rfl) ?_
        refine Tr.ret ?_
        have H := Option.some.inj H
        subst H
        exact Fin.of _ [(false, [.lit (.bool false)])] (by kernel_rfl) rfl rfl
    · have H := bifT h2 H
      refine Tr.cond (b := true) (by kernel_rfl) (fun _ => ?_) (fun h => nomatch h)
      refine Tr.rs ?_
      refine LAt.runU tOk 1 (by kernel_rfl) ?_
      refine LAt.doneU [4, 3, 2] [3, 2] (by kernel_rfl) ?_
      refine Tr.ret ?_
      have H := Option.some.inj H
      subst H
      exact Fin.of _ [(false, [.lit (.bool false)])] (by kernel_rfl) rfl rfl
  · have H := bifT h1 H
    refine Tr.cond (b := true) (by kernel_rfl) (fun _ => ?_) (fun h => nomatch h)
    refine Tr.rs ?_
    refine LAt.runU tOk 1 (by kernel_rfl) ?_
    refine LAt.doneU [4, 3, 2] [3, 2] (by kernel_rfl) ?_
    refine Tr.ret ?_
    have H := Option.some.inj H
    subst H
    exact Fin.of _ [(false, [.lit (.bool false)])] (by kernel_rfl) rfl rfl

def laws_eqPtF (n : Nat) (x0 : Pt) (x1 : Pt) : Option (Bool) :=
  (bif (!(x0.Up == x1.Up)) then (some false) else (bif (x0.Cost != x1.Cost) then (some false) else (bif (!(x0.Has == x1.Has)) then (some false) else ((laws_eqVecF n x0.Heard x1.Heard).bind fun r1 => (bif (!r1) then (some false) else (some true))))))
/-- loop.example/g00326/laws.eqPt -/
theorem laws_eqPt (n : Nat) (x0 : Pt) (x1 : Pt) (r : Bool) (H : laws_eqPtF n x0 x1 = some r) : LCall Try.prog 161 [.val true (CV.frzRow (Pt.row x0)), .val true (CV.frzRow (Pt.row x1))] [.val false [.lit (.bool r)]] [] := by
  refine LCall.of_body tOk Try.func161 rfl (c := (.seq (.region 0 (rg Try.f161 0) false) (.seq (.seq (.region 1 (rg Try.f161 1) false) (.cond (.tmp 9) (.seq (.region 2 (rg Try.f161 2) false) .ret) .skip)) (.seq (.seq (.region 3 (rg Try.f161 3) false) (.cond (.tmp 14) (.seq (.region 4 (rg Try.f161 4) false) .ret) .skip)) (.seq (.seq (.region 5 (rg Try.f161 5) false) (.cond (.tmp 19) (.seq (.region 6 (rg Try.f161 6) false) .ret) .skip)) (.seq (.seq (.region 7 (rg Try.f161 7) false) (.cond (.tmp 25) (.seq (.region 8 (rg Try.f161 8) false) .ret) .skip)) (.seq (.region 9 (rg Try.f161 9) false) .ret))))))) (by kernel_rfl) (Nat.le_of_ble_eq_true (by kernel_rfl)) 0 (rs := [.tmp 4]) rfl [] .nil [(false, [.lit (.bool r)])] [] [] fun cx => ?_
  show Tr _ _ _ ⟨26, 0, [(0, .val true (Pt.row x0)), (1, .val true (Pt.row x1))], []⟩ _
  unfold laws_eqPtF at H
  refine Tr.rs ?_
  refine LAt.runU tOk 3 (by kernel_rfl) ?_
  refine LAt.doneU [4, 3, 2] [3, 2] (by kernel_rfl) ?_
  refine Tr.seq ?_
  refine Tr.rs ?_
  refine LAt.runU tOk 5 (by kernel_rfl) ?_
  refine LAt.doneU [9, 4, 3, 2] [3, 2] (by kernel_rfl) ?_
  refine Tr.to ⟨26, 0, [(9, .val false [.lit (.bool (!(x0.Up == x1.Up)))]), (4, .val false [.lit (.bool false)]), (3, .adr (.box 3) [(0, 0)] 8 0), (2, .adr (.box 2) [(0, 0)] 8 0)], [(3, (Pt.row x1)), (2, (Pt.row x0))]⟩ (by kernel_rfl) ?_
  cases h1 : (!(x0.Up == x1.Up))
  · have H := bifF h1 H
    refine Tr.cond (b := false) (by kernel_rfl) (fun h => nomatch h) (fun _ => ?_)
    refine Tr.skip ?_
    show Tr _ _ _ _ _
    refine Tr.seq ?_
    refine Tr.rs ?_
    refine LAt.runU tOk 5 (by kernel_rfl) ?_
    refine LAt.doneU [14, 4, 3, 2] [3, 2] (by kernel_rfl) ?_
    refine Tr.to ⟨26, 0, [(14, .val false [.lit (.bool (x0.Cost != x1.Cost))]), (4, .val false [.lit (.bool false)]), (3, .adr (.box 3) [(0, 0)] 8 0), (2, .adr (.box 2) [(0, 0)] 8 0)], [(3, (Pt.row x1)), (2, (Pt.row x0))]⟩ (by kernel_rfl) ?_
    cases h2 : (x0.Cost != x1.Cost)
    · have H := bifF h2 H
      refine Tr.cond (b := false) (by kernel_rfl) (fun h => nomatch h) (fun _ => ?_)
      refine Tr.skip ?_
      show Tr _ _ _ _ _
      refine Tr.seq ?_
      refine Tr.rs ?_
      refine LAt.runU tOk 5 (by kernel_rfl) ?_
      refine LAt.doneU [19, 4, 3, 2] [3, 2] (by kernel_rfl) ?_
      refine Tr.to ⟨26, 0, [(19, .val false [.lit (.bool (!(x0.Has == x1.Has)))]), (4, .val false [.lit (.bool false)]), (3, .adr (.box 3) [(0, 0)] 8 0), (2, .adr (.box 2) [(0, 0)] 8 0)], [(3, (Pt.row x1)), (2, (Pt.row x0))]⟩ (by kernel_rfl) ?_
      cases h3 : (!(x0.Has == x1.Has))
      · have H := bifF h3 H
        refine Tr.cond (b := false) (by kernel_rfl) (fun h => nomatch h) (fun _ => ?_)
        refine Tr.skip ?_
        show Tr _ _ _ _ _
        refine Tr.seq ?_
        refine Tr.rs ?_
        refine LAt.runU tOk 4 (by kernel_rfl) ?_
        obtain ⟨r1, er1, H⟩ := bind_some H
        refine LAt.callU tOk [.rd, .rd] (f := 173) (av := #[.tmp 21, .tmp 23]) (ats := #[70, 70]) (d := (some 24)) (ty := 4) (g := none) (by kernel_rfl) (by kernel_rfl) (by kernel_rfl) [] (laws_eqVec n x0.Heard x1.Heard r1 er1) (by kernel_rfl) (.inl rfl) ?_
        refine LAt.runU tOk 1 (by kernel_rfl) ?_
        refine LAt.doneU [25, 4] [] (by kernel_rfl) ?_
        refine Tr.to ⟨26, 0, [(25, .val false [.lit (.bool (!r1))]), (4, .val false [.lit (.bool false)])], []⟩ (by kernel_rfl) ?_
        cases h4 : (!r1)
        · have H := bifF h4 H
          refine Tr.cond (b := false) (by kernel_rfl) (fun h => nomatch h) (fun _ => ?_)
          refine Tr.skip ?_
          show Tr _ _ _ _ _
          refine Tr.rs ?_
          refine LAt.runU tOk 1 (by kernel_rfl) ?_
          refine LAt.doneU [4] [] (by kernel_rfl) ?_
          refine Tr.ret ?_
          have H := Option.some.inj H
          subst H
          exact Fin.of _ [(false, [.lit (.bool true)])] (by kernel_rfl) rfl rfl
        · have H := bifT h4 H
          refine Tr.cond (b := true) (by kernel_rfl) (fun _ => ?_) (fun h => nomatch h)
          refine Tr.rs ?_
          refine LAt.runU tOk 1 (by kernel_rfl) ?_
          refine LAt.doneU [4] [] (by kernel_rfl) ?_
          refine Tr.ret ?_
          have H := Option.some.inj H
          subst H
          exact Fin.of _ [(false, [.lit (.bool false)])] (by kernel_rfl) rfl rfl
      · have H := bifT h3 H
        refine Tr.cond (b := true) (by kernel_rfl) (fun _ => ?_) (fun h => nomatch h)
        refine Tr.rs ?_
        refine LAt.runU tOk 1 (by kernel_rfl) ?_
        refine LAt.doneU [4, 3, 2] [3, 2] (by kernel_rfl) ?_
        refine Tr.ret ?_
        have H := Option.some.inj H
        subst H
        exact Fin.of _ [(false, [.lit (.bool false)])] (by kernel_rfl) rfl rfl
    · have H := bifT h2 H
      refine Tr.cond (b := true) (by kernel_rfl) (fun _ => ?_) (fun h => nomatch h)
      refine Tr.rs ?_
      refine LAt.runU tOk 1 (by kernel_rfl) ?_
      refine LAt.doneU [4, 3, 2] [3, 2] (by kernel_rfl) ?_
      refine Tr.ret ?_
      have H := Option.some.inj H
      subst H
      exact Fin.of _ [(false, [.lit (.bool false)])] (by kernel_rfl) rfl rfl
  · have H := bifT h1 H
    refine Tr.cond (b := true) (by kernel_rfl) (fun _ => ?_) (fun h => nomatch h)
    refine Tr.rs ?_
    refine LAt.runU tOk 1 (by kernel_rfl) ?_
    refine LAt.doneU [4, 3, 2] [3, 2] (by kernel_rfl) ?_
    refine Tr.ret ?_
    have H := Option.some.inj H
    subst H
    exact Fin.of _ [(false, [.lit (.bool false)])] (by kernel_rfl) rfl rfl
end Go.Proofs.Ytjdedhklbdkeoaa.Tw
