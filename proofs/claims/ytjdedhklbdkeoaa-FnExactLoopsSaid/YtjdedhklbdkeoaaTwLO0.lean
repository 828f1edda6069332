/- Functions of the program, over trees. -/
import Derived.Test.YtjdedhklbdkeoaaProg
import Derived.Test.YtjdedhklbdkeoaaTlRule
import Derived.Test.YtjdedhklbdkeoaaTlU5
import Derived.WalkKit
set_option linter.unusedVariables false
set_option linter.unusedSimpArgs false
set_option maxRecDepth 100000
set_option maxHeartbeats 1000000
namespace Go.Proofs.Ytjdedhklbdkeoaa.Tw
open Go Go.TL Go.Proofs
def tab : List (Nat × TI) := [(2, ⟨.int .i64, 1, 8, [.lit (.int .i64 0)]⟩),
  (3, ⟨.int .i64, 1, 8, [.lit (.int .i64 0)]⟩),
  (4, ⟨.bool, 1, 1, [.lit (.bool false)]⟩),
  (5, ⟨.int .u8, 1, 1, [.lit (.int .u8 0)]⟩),
  (6, ⟨.int .u8, 1, 1, [.lit (.int .u8 0)]⟩),
  (7, ⟨.st [(0, 1, 2), (1, 1, 3), (2, 1, 4), (3, 1, 6)], 4, 24, [.lit (.int .i64 0), .lit (.int .i64 0), .lit (.bool false), .lit (.int .u8 0)]⟩),
  (8, ⟨.st [(0, 1, 2), (1, 1, 3), (2, 1, 4), (3, 1, 6)], 4, 24, [.lit (.int .i64 0), .lit (.int .i64 0), .lit (.bool false), .lit (.int .u8 0)]⟩),
  (9, ⟨.str, 1, 16, [.lit (.string ⟨#[]⟩)]⟩),
  (22, ⟨.sl 53, 1, 24, [.sl true 11 []]⟩),
  (23, ⟨.sl 146, 1, 24, [.sl true 4 []]⟩),
  (24, ⟨.sl 149, 1, 24, [.sl true 7 []]⟩),
  (26, ⟨.st [(0, 1, 22), (1, 1, 23), (2, 1, 24)], 3, 72, [.sl true 11 [], .sl true 4 [], .sl true 7 []]⟩),
  (27, ⟨.sl 3, 1, 24, [.sl true 1 []]⟩),
  (30, ⟨.sl 61, 1, 24, [.sl true 11 []]⟩),
  (31, ⟨.sl 96, 1, 24, [.sl true 4 []]⟩),
  (32, ⟨.sl 116, 1, 24, [.sl true 7 []]⟩),
  (34, ⟨.st [(0, 1, 30), (1, 1, 31), (2, 1, 32)], 3, 72, [.sl true 11 [], .sl true 4 [], .sl true 7 []]⟩),
  (47, ⟨.sl 169, 1, 24, [.sl true 8 []]⟩),
  (48, ⟨.sl 171, 1, 24, [.sl true 5 []]⟩),
  (49, ⟨.sl 187, 1, 24, [.sl true 3 []]⟩),
  (51, ⟨.st [(0, 1, 49), (1, 1, 27)], 2, 48, [.sl true 3 [], .sl true 1 []]⟩),
  (53, ⟨.st [(0, 1, 3), (1, 1, 9), (2, 1, 47), (3, 1, 48), (4, 2, 51), (6, 1, 3), (7, 1, 3), (8, 1, 3), (9, 1, 3), (10, 1, 3)], 11, 160, [.lit (.int .i64 0), .lit (.string ⟨#[]⟩), .sl true 8 [], .sl true 5 [], .sl true 3 [], .sl true 1 [], .lit (.int .i64 0), .lit (.int .i64 0), .lit (.int .i64 0), .lit (.int .i64 0), .lit (.int .i64 0)]⟩),
  (55, ⟨.sl 114, 1, 24, [.sl true 8 []]⟩),
  (56, ⟨.sl 141, 1, 24, [.sl true 5 []]⟩),
  (57, ⟨.sl 138, 1, 24, [.sl true 3 []]⟩),
  (59, ⟨.st [(0, 1, 57), (1, 1, 27)], 2, 48, [.sl true 3 [], .sl true 1 []]⟩),
  (61, ⟨.st [(0, 1, 3), (1, 1, 9), (2, 1, 55), (3, 1, 56), (4, 2, 59), (6, 1, 3), (7, 1, 3), (8, 1, 3), (9, 1, 3), (10, 1, 3)], 11, 160, [.lit (.int .i64 0), .lit (.string ⟨#[]⟩), .sl true 8 [], .sl true 5 [], .sl true 3 [], .sl true 1 [], .lit (.int .i64 0), .lit (.int .i64 0), .lit (.int .i64 0), .lit (.int .i64 0), .lit (.int .i64 0)]⟩),
  (68, ⟨.st [(0, 1, 3), (1, 1, 3), (2, 1, 3), (3, 1, 3), (4, 1, 3)], 5, 40, [.lit (.int .i64 0), .lit (.int .i64 0), .lit (.int .i64 0), .lit (.int .i64 0), .lit (.int .i64 0)]⟩),
  (70, ⟨.st [(0, 1, 3), (1, 1, 3), (2, 1, 3), (3, 1, 3), (4, 1, 3)], 5, 40, [.lit (.int .i64 0), .lit (.int .i64 0), .lit (.int .i64 0), .lit (.int .i64 0), .lit (.int .i64 0)]⟩),
  (96, ⟨.st [(0, 1, 3), (1, 1, 3), (2, 1, 3), (3, 1, 3)], 4, 32, [.lit (.int .i64 0), .lit (.int .i64 0), .lit (.int .i64 0), .lit (.int .i64 0)]⟩),
  (111, ⟨.sl 4, 1, 24, [.sl true 1 []]⟩),
  (114, ⟨.st [(0, 1, 4), (1, 1, 3), (2, 1, 4), (3, 5, 70)], 8, 64, [.lit (.bool false), .lit (.int .i64 0), .lit (.bool false), .lit (.int .i64 0), .lit (.int .i64 0), .lit (.int .i64 0), .lit (.int .i64 0), .lit (.int .i64 0)]⟩),
  (116, ⟨.st [(0, 1, 3), (1, 1, 4), (2, 5, 70)], 7, 56, [.lit (.int .i64 0), .lit (.bool false), .lit (.int .i64 0), .lit (.int .i64 0), .lit (.int .i64 0), .lit (.int .i64 0), .lit (.int .i64 0)]⟩),
  (138, ⟨.st [(0, 1, 3), (1, 1, 3), (2, 1, 3)], 3, 24, [.lit (.int .i64 0), .lit (.int .i64 0), .lit (.int .i64 0)]⟩),
  (141, ⟨.st [(0, 1, 3), (1, 1, 3), (2, 1, 3), (3, 1, 3), (4, 1, 4)], 5, 40, [.lit (.int .i64 0), .lit (.int .i64 0), .lit (.int .i64 0), .lit (.int .i64 0), .lit (.bool false)]⟩),
  (146, ⟨.st [(0, 1, 3), (1, 1, 3), (2, 1, 3), (3, 1, 3)], 4, 32, [.lit (.int .i64 0), .lit (.int .i64 0), .lit (.int .i64 0), .lit (.int .i64 0)]⟩),
  (149, ⟨.st [(0, 1, 3), (1, 1, 4), (2, 5, 68)], 7, 56, [.lit (.int .i64 0), .lit (.bool false), .lit (.int .i64 0), .lit (.int .i64 0), .lit (.int .i64 0), .lit (.int .i64 0), .lit (.int .i64 0)]⟩),
  (169, ⟨.st [(0, 1, 4), (1, 1, 3), (2, 1, 4), (3, 5, 68)], 8, 64, [.lit (.bool false), .lit (.int .i64 0), .lit (.bool false), .lit (.int .i64 0), .lit (.int .i64 0), .lit (.int .i64 0), .lit (.int .i64 0), .lit (.int .i64 0)]⟩),
  (171, ⟨.st [(0, 1, 3), (1, 1, 3), (2, 1, 3), (3, 1, 3), (4, 1, 4)], 5, 40, [.lit (.int .i64 0), .lit (.int .i64 0), .lit (.int .i64 0), .lit (.int .i64 0), .lit (.bool false)]⟩),
  (187, ⟨.st [(0, 1, 3), (1, 1, 3), (2, 1, 3)], 3, 24, [.lit (.int .i64 0), .lit (.int .i64 0), .lit (.int .i64 0)]⟩)]
theorem mixed : Try.prog.follows .mixedOrders = true := by kernel_rfl
theorem tOk : TOk Try.prog (lk tab) := tok_of (by kernel_rfl)

structure Vec where
  Root : Int
  Cost : Int
  Hops : Int
  Bridge : Int
  Port : Int
def Vec.row (v : Vec) : List CV := [.lit (.int .i64 v.Root), .lit (.int .i64 v.Cost), .lit (.int .i64 v.Hops), .lit (.int .i64 v.Bridge), .lit (.int .i64 v.Port)]
def Vec.wf (v : Vec) : Prop := intWf v.Root ∧ intWf v.Cost ∧ intWf v.Hops ∧ intWf v.Bridge ∧ intWf v.Port ∧ True
theorem Vec.enc : Enc Vec [.int .i64, .int .i64, .int .i64, .int .i64, .int .i64] Vec.row Vec.wf := fun cs h => by
  obtain ⟨c0, r0, rfl, k0, h⟩ := fitR_cons h
  obtain ⟨c1, r1, rfl, k1, h⟩ := fitR_cons h
  obtain ⟨c2, r2, rfl, k2, h⟩ := fitR_cons h
  obtain ⟨c3, r3, rfl, k3, h⟩ := fitR_cons h
  obtain ⟨c4, r4, rfl, k4, h⟩ := fitR_cons h
  obtain rfl := fitR_nil h
  obtain ⟨x0, rfl, w0⟩ := fitC_int k0
  obtain ⟨x1, rfl, w1⟩ := fitC_int k1
  obtain ⟨x2, rfl, w2⟩ := fitC_int k2
  obtain ⟨x3, rfl, w3⟩ := fitC_int k3
  obtain ⟨x4, rfl, w4⟩ := fitC_int k4
  exact ⟨⟨x0, x1, x2, x3, x4⟩, rfl, ⟨w0, w1, w2, w3, w4, trivial⟩⟩
theorem Vec.row_mine (v : Vec) : CV.mineRow (Vec.row v) := mine_cons mine_lit (mine_cons mine_lit (mine_cons mine_lit (mine_cons mine_lit (mine_cons mine_lit (mine_nil)))))

structure Pt where
  Up : Bool
  Cost : Int
  Has : Bool
  Heard : Vec
def Pt.row (v : Pt) : List CV := [.lit (.bool v.Up), .lit (.int .i64 v.Cost), .lit (.bool v.Has), .lit (.int .i64 v.Heard.Root), .lit (.int .i64 v.Heard.Cost), .lit (.int .i64 v.Heard.Hops), .lit (.int .i64 v.Heard.Bridge), .lit (.int .i64 v.Heard.Port)]
def Pt.wf (v : Pt) : Prop := intWf v.Cost ∧ intWf v.Heard.Root ∧ intWf v.Heard.Cost ∧ intWf v.Heard.Hops ∧ intWf v.Heard.Bridge ∧ intWf v.Heard.Port ∧ True
theorem Pt.enc : Enc Pt [.bool, .int .i64, .bool, .int .i64, .int .i64, .int .i64, .int .i64, .int .i64] Pt.row Pt.wf := fun cs h => by
  obtain ⟨c0, r0, rfl, k0, h⟩ := fitR_cons h
  obtain ⟨c1, r1, rfl, k1, h⟩ := fitR_cons h
  obtain ⟨c2, r2, rfl, k2, h⟩ := fitR_cons h
  obtain ⟨c3, r3, rfl, k3, h⟩ := fitR_cons h
  obtain ⟨c4, r4, rfl, k4, h⟩ := fitR_cons h
  obtain ⟨c5, r5, rfl, k5, h⟩ := fitR_cons h
  obtain ⟨c6, r6, rfl, k6, h⟩ := fitR_cons h
  obtain ⟨c7, r7, rfl, k7, h⟩ := fitR_cons h
  obtain rfl := fitR_nil h
  obtain ⟨x0, rfl⟩ := fitC_bool k0
  obtain ⟨x1, rfl, w1⟩ := fitC_int k1
  obtain ⟨x2, rfl⟩ := fitC_bool k2
  obtain ⟨x3, rfl, w3⟩ := fitC_int k3
  obtain ⟨x4, rfl, w4⟩ := fitC_int k4
  obtain ⟨x5, rfl, w5⟩ := fitC_int k5
  obtain ⟨x6, rfl, w6⟩ := fitC_int k6
  obtain ⟨x7, rfl, w7⟩ := fitC_int k7
  exact ⟨⟨x0, x1, x2, ⟨x3, x4, x5, x6, x7⟩⟩, rfl, ⟨w1, w3, w4, w5, w6, w7, trivial⟩⟩
theorem Pt.row_mine (v : Pt) : CV.mineRow (Pt.row v) := mine_cons mine_lit (mine_cons mine_lit (mine_cons mine_lit (mine_cons mine_lit (mine_cons mine_lit (mine_cons mine_lit (mine_cons mine_lit (mine_cons mine_lit (mine_nil))))))))

structure Fent where
  Tag : Int
  Mac : Int
  Port : Int
  Age : Int
  Static : Bool
def Fent.row (v : Fent) : List CV := [.lit (.int .i64 v.Tag), .lit (.int .i64 v.Mac), .lit (.int .i64 v.Port), .lit (.int .i64 v.Age), .lit (.bool v.Static)]
def Fent.wf (v : Fent) : Prop := intWf v.Tag ∧ intWf v.Mac ∧ intWf v.Port ∧ intWf v.Age ∧ True
theorem Fent.enc : Enc Fent [.int .i64, .int .i64, .int .i64, .int .i64, .bool] Fent.row Fent.wf := fun cs h => by
  obtain ⟨c0, r0, rfl, k0, h⟩ := fitR_cons h
  obtain ⟨c1, r1, rfl, k1, h⟩ := fitR_cons h
  obtain ⟨c2, r2, rfl, k2, h⟩ := fitR_cons h
  obtain ⟨c3, r3, rfl, k3, h⟩ := fitR_cons h
  obtain ⟨c4, r4, rfl, k4, h⟩ := fitR_cons h
  obtain rfl := fitR_nil h
  obtain ⟨x0, rfl, w0⟩ := fitC_int k0
  obtain ⟨x1, rfl, w1⟩ := fitC_int k1
  obtain ⟨x2, rfl, w2⟩ := fitC_int k2
  obtain ⟨x3, rfl, w3⟩ := fitC_int k3
  obtain ⟨x4, rfl⟩ := fitC_bool k4
  exact ⟨⟨x0, x1, x2, x3, x4⟩, rfl, ⟨w0, w1, w2, w3, trivial⟩⟩
theorem Fent.row_mine (v : Fent) : CV.mineRow (Fent.row v) := mine_cons mine_lit (mine_cons mine_lit (mine_cons mine_lit (mine_cons mine_lit (mine_cons mine_lit (mine_nil)))))

structure Vrow where
  Id : Int
  Members : Int
  Bare : Int
def Vrow.row (v : Vrow) : List CV := [.lit (.int .i64 v.Id), .lit (.int .i64 v.Members), .lit (.int .i64 v.Bare)]
def Vrow.wf (v : Vrow) : Prop := intWf v.Id ∧ intWf v.Members ∧ intWf v.Bare ∧ True
theorem Vrow.enc : Enc Vrow [.int .i64, .int .i64, .int .i64] Vrow.row Vrow.wf := fun cs h => by
  obtain ⟨c0, r0, rfl, k0, h⟩ := fitR_cons h
  obtain ⟨c1, r1, rfl, k1, h⟩ := fitR_cons h
  obtain ⟨c2, r2, rfl, k2, h⟩ := fitR_cons h
  obtain rfl := fitR_nil h
  obtain ⟨x0, rfl, w0⟩ := fitC_int k0
  obtain ⟨x1, rfl, w1⟩ := fitC_int k1
  obtain ⟨x2, rfl, w2⟩ := fitC_int k2
  exact ⟨⟨x0, x1, x2⟩, rfl, ⟨w0, w1, w2, trivial⟩⟩
theorem Vrow.row_mine (v : Vrow) : CV.mineRow (Vrow.row v) := mine_cons mine_lit (mine_cons mine_lit (mine_cons mine_lit (mine_nil)))

structure Vtab where
  Rows : (List Vrow)
  Pvid : (List Int)
def Vtab.row (v : Vtab) : List CV := [.sl true 3 (v.Rows.map Vrow.row), .sl true 1 (v.Pvid.map intRow)]
def Vtab.wf (v : Vtab) : Prop := listWf Vrow.wf v.Rows ∧ listWf intWf v.Pvid ∧ True
theorem Vtab.enc : Enc Vtab [.sl 3 [.int .i64, .int .i64, .int .i64], .sl 1 [.int .i64]] Vtab.row Vtab.wf := fun cs h => by
  obtain ⟨c0, r0, rfl, k0, h⟩ := fitR_cons h
  obtain ⟨c1, r1, rfl, k1, h⟩ := fitR_cons h
  obtain rfl := fitR_nil h
  obtain ⟨x0, rfl, w0⟩ := Enc.sl Vrow.enc k0
  obtain ⟨x1, rfl, w1⟩ := Enc.sl encInt k1
  exact ⟨⟨x0, x1⟩, rfl, ⟨w0, w1, trivial⟩⟩
theorem Vtab.row_mine (v : Vtab) : CV.mineRow (Vtab.row v) := mine_cons (mine_sl (mine_map Vrow.row_mine _)) (mine_cons (mine_sl (mine_map intRow_mine _)) (mine_nil))

structure Bridge where
  Id : Int
  Name : ByteArray
  Ports : (List Pt)
  F : (List Fent)
  V : Vtab
  Ticks : Int
  Parse : Int
  Word : Int
  Drops : Int
  Vers : Int
def Bridge.row (v : Bridge) : List CV := [.lit (.int .i64 v.Id), .lit (.string v.Name), .sl true 8 (v.Ports.map Pt.row), .sl true 5 (v.F.map Fent.row), .sl true 3 (v.V.Rows.map Vrow.row), .sl true 1 (v.V.Pvid.map intRow), .lit (.int .i64 v.Ticks), .lit (.int .i64 v.Parse), .lit (.int .i64 v.Word), .lit (.int .i64 v.Drops), .lit (.int .i64 v.Vers)]
def Bridge.wf (v : Bridge) : Prop := intWf v.Id ∧ v.Name.size ≤ maxLen ∧ listWf Pt.wf v.Ports ∧ listWf Fent.wf v.F ∧ listWf Vrow.wf v.V.Rows ∧ listWf intWf v.V.Pvid ∧ intWf v.Ticks ∧ intWf v.Parse ∧ intWf v.Word ∧ intWf v.Drops ∧ intWf v.Vers ∧ True
theorem Bridge.enc : Enc Bridge [.int .i64, .str, .sl 8 [.bool, .int .i64, .bool, .int .i64, .int .i64, .int .i64, .int .i64, .int .i64], .sl 5 [.int .i64, .int .i64, .int .i64, .int .i64, .bool], .sl 3 [.int .i64, .int .i64, .int .i64], .sl 1 [.int .i64], .int .i64, .int .i64, .int .i64, .int .i64, .int .i64] Bridge.row Bridge.wf := fun cs h => by
  obtain ⟨c0, r0, rfl, k0, h⟩ := fitR_cons h
  obtain ⟨c1, r1, rfl, k1, h⟩ := fitR_cons h
  obtain ⟨c2, r2, rfl, k2, h⟩ := fitR_cons h
  obtain ⟨c3, r3, rfl, k3, h⟩ := fitR_cons h
  obtain ⟨c4, r4, rfl, k4, h⟩ := fitR_cons h
  obtain ⟨c5, r5, rfl, k5, h⟩ := fitR_cons h
  obtain ⟨c6, r6, rfl, k6, h⟩ := fitR_cons h
  obtain ⟨c7, r7, rfl, k7, h⟩ := fitR_cons h
  obtain ⟨c8, r8, rfl, k8, h⟩ := fitR_cons h
  obtain ⟨c9, r9, rfl, k9, h⟩ := fitR_cons h
  obtain ⟨c10, r10, rfl, k10, h⟩ := fitR_cons h
  obtain rfl := fitR_nil h
  obtain ⟨x0, rfl, w0⟩ := fitC_int k0
  obtain ⟨x1, rfl, w1⟩ := fitC_str k1
  obtain ⟨x2, rfl, w2⟩ := Enc.sl Pt.enc k2
  obtain ⟨x3, rfl, w3⟩ := Enc.sl Fent.enc k3
  obtain ⟨x4, rfl, w4⟩ := Enc.sl Vrow.enc k4
  obtain ⟨x5, rfl, w5⟩ := Enc.sl encInt k5
  obtain ⟨x6, rfl, w6⟩ := fitC_int k6
  obtain ⟨x7, rfl, w7⟩ := fitC_int k7
  obtain ⟨x8, rfl, w8⟩ := fitC_int k8
  obtain ⟨x9, rfl, w9⟩ := fitC_int k9
  obtain ⟨x10, rfl, w10⟩ := fitC_int k10
  exact ⟨⟨x0, x1, x2, x3, ⟨x4, x5⟩, x6, x7, x8, x9, x10⟩, rfl, ⟨w0, w1, w2, w3, w4, w5, w6, w7, w8, w9, w10, trivial⟩⟩
theorem Bridge.row_mine (v : Bridge) : CV.mineRow (Bridge.row v) := mine_cons mine_lit (mine_cons mine_lit (mine_cons (mine_sl (mine_map Pt.row_mine _)) (mine_cons (mine_sl (mine_map Fent.row_mine _)) (mine_cons (mine_sl (mine_map Vrow.row_mine _)) (mine_cons (mine_sl (mine_map intRow_mine _)) (mine_cons mine_lit (mine_cons mine_lit (mine_cons mine_lit (mine_cons mine_lit (mine_cons mine_lit (mine_nil)))))))))))

structure Link where
  A : Int
  P : Int
  B : Int
  Q : Int
def Link.row (v : Link) : List CV := [.lit (.int .i64 v.A), .lit (.int .i64 v.P), .lit (.int .i64 v.B), .lit (.int .i64 v.Q)]
def Link.wf (v : Link) : Prop := intWf v.A ∧ intWf v.P ∧ intWf v.B ∧ intWf v.Q ∧ True
theorem Link.enc : Enc Link [.int .i64, .int .i64, .int .i64, .int .i64] Link.row Link.wf := fun cs h => by
  obtain ⟨c0, r0, rfl, k0, h⟩ := fitR_cons h
  obtain ⟨c1, r1, rfl, k1, h⟩ := fitR_cons h
  obtain ⟨c2, r2, rfl, k2, h⟩ := fitR_cons h
  obtain ⟨c3, r3, rfl, k3, h⟩ := fitR_cons h
  obtain rfl := fitR_nil h
  obtain ⟨x0, rfl, w0⟩ := fitC_int k0
  obtain ⟨x1, rfl, w1⟩ := fitC_int k1
  obtain ⟨x2, rfl, w2⟩ := fitC_int k2
  obtain ⟨x3, rfl, w3⟩ := fitC_int k3
  exact ⟨⟨x0, x1, x2, x3⟩, rfl, ⟨w0, w1, w2, w3, trivial⟩⟩
theorem Link.row_mine (v : Link) : CV.mineRow (Link.row v) := mine_cons mine_lit (mine_cons mine_lit (mine_cons mine_lit (mine_cons mine_lit (mine_nil))))

structure Say where
  Link : Int
  Back : Bool
  V : Vec
def Say.row (v : Say) : List CV := [.lit (.int .i64 v.Link), .lit (.bool v.Back), .lit (.int .i64 v.V.Root), .lit (.int .i64 v.V.Cost), .lit (.int .i64 v.V.Hops), .lit (.int .i64 v.V.Bridge), .lit (.int .i64 v.V.Port)]
def Say.wf (v : Say) : Prop := intWf v.Link ∧ intWf v.V.Root ∧ intWf v.V.Cost ∧ intWf v.V.Hops ∧ intWf v.V.Bridge ∧ intWf v.V.Port ∧ True
theorem Say.enc : Enc Say [.int .i64, .bool, .int .i64, .int .i64, .int .i64, .int .i64, .int .i64] Say.row Say.wf := fun cs h => by
  obtain ⟨c0, r0, rfl, k0, h⟩ := fitR_cons h
  obtain ⟨c1, r1, rfl, k1, h⟩ := fitR_cons h
  obtain ⟨c2, r2, rfl, k2, h⟩ := fitR_cons h
  obtain ⟨c3, r3, rfl, k3, h⟩ := fitR_cons h
  obtain ⟨c4, r4, rfl, k4, h⟩ := fitR_cons h
  obtain ⟨c5, r5, rfl, k5, h⟩ := fitR_cons h
  obtain ⟨c6, r6, rfl, k6, h⟩ := fitR_cons h
  obtain rfl := fitR_nil h
  obtain ⟨x0, rfl, w0⟩ := fitC_int k0
  obtain ⟨x1, rfl⟩ := fitC_bool k1
  obtain ⟨x2, rfl, w2⟩ := fitC_int k2
  obtain ⟨x3, rfl, w3⟩ := fitC_int k3
  obtain ⟨x4, rfl, w4⟩ := fitC_int k4
  obtain ⟨x5, rfl, w5⟩ := fitC_int k5
  obtain ⟨x6, rfl, w6⟩ := fitC_int k6
  exact ⟨⟨x0, x1, ⟨x2, x3, x4, x5, x6⟩⟩, rfl, ⟨w0, w2, w3, w4, w5, w6, trivial⟩⟩
theorem Say.row_mine (v : Say) : CV.mineRow (Say.row v) := mine_cons mine_lit (mine_cons mine_lit (mine_cons mine_lit (mine_cons mine_lit (mine_cons mine_lit (mine_cons mine_lit (mine_cons mine_lit (mine_nil)))))))

structure Net where
  Bridges : (List Bridge)
  Links : (List Link)
  Said : (List Say)
def Net.row (v : Net) : List CV := [.sl true 11 (v.Bridges.map Bridge.row), .sl true 4 (v.Links.map Link.row), .sl true 7 (v.Said.map Say.row)]
def Net.wf (v : Net) : Prop := listWf Bridge.wf v.Bridges ∧ listWf Link.wf v.Links ∧ listWf Say.wf v.Said ∧ True
theorem Net.enc : Enc Net [.sl 11 [.int .i64, .str, .sl 8 [.bool, .int .i64, .bool, .int .i64, .int .i64, .int .i64, .int .i64, .int .i64], .sl 5 [.int .i64, .int .i64, .int .i64, .int .i64, .bool], .sl 3 [.int .i64, .int .i64, .int .i64], .sl 1 [.int .i64], .int .i64, .int .i64, .int .i64, .int .i64, .int .i64], .sl 4 [.int .i64, .int .i64, .int .i64, .int .i64], .sl 7 [.int .i64, .bool, .int .i64, .int .i64, .int .i64, .int .i64, .int .i64]] Net.row Net.wf := fun cs h => by
  obtain ⟨c0, r0, rfl, k0, h⟩ := fitR_cons h
  obtain ⟨c1, r1, rfl, k1, h⟩ := fitR_cons h
  obtain ⟨c2, r2, rfl, k2, h⟩ := fitR_cons h
  obtain rfl := fitR_nil h
  obtain ⟨x0, rfl, w0⟩ := Enc.sl Bridge.enc k0
  obtain ⟨x1, rfl, w1⟩ := Enc.sl Link.enc k1
  obtain ⟨x2, rfl, w2⟩ := Enc.sl Say.enc k2
  exact ⟨⟨x0, x1, x2⟩, rfl, ⟨w0, w1, w2, trivial⟩⟩
theorem Net.row_mine (v : Net) : CV.mineRow (Net.row v) := mine_cons (mine_sl (mine_map Bridge.row_mine _)) (mine_cons (mine_sl (mine_map Link.row_mine _)) (mine_cons (mine_sl (mine_map Say.row_mine _)) (mine_nil)))

def laws_szPtSF (n : Nat) (x0 : (List Pt)) (x1 : Int) : Option (Int) :=
  (bif (decide ((IntKind.wrap .i64 (x1 - (x0.length : Int))) < 0)) then (some (-1)) else (some (IntKind.wrap .i64 (x1 - (x0.length : Int)))))
/-- loop.example/g00326/laws.szPtS -/
theorem laws_szPtS (n : Nat) (x0 : (List Pt)) (x1 : Int) (r : Int) (H : laws_szPtSF n x0 x1 = some r) : LCall Try.prog 94 [.val false [.sl false 8 (CV.frzEs (x0.map Pt.row))], .val false [.lit (.int .i64 x1)]] [.val false [.lit (.int .i64 r)]] [] := by
  refine LCall.of_body tOk Try.func94 rfl (c := (.seq (.region 0 (rg Try.f94 0) false) (.seq (.region 1 (rg Try.f94 1) false) (.seq (.seq (.region 2 (rg Try.f94 2) false) (.cond (.tmp 10) (.seq (.region 3 (rg Try.f94 3) false) .ret) .skip)) (.seq (.region 4 (rg Try.f94 4) false) .ret))))) (by kernel_rfl) (Nat.le_of_ble_eq_true (by kernel_rfl)) 0 (rs := [.tmp 4]) rfl [] .nil [(false, [.lit (.int .i64 r)])] [] [] fun cx => ?_
  show Tr _ _ _ ⟨12, 0, [(0, .val false [.sl false 8 (CV.frzEs (x0.map Pt.row))]), (1, .val false [.lit (.int .i64 x1)])], []⟩ _
  unfold laws_szPtSF at H
  refine Tr.rs ?_
  refine LAt.runU tOk 1 (by kernel_rfl) ?_
  refine LAt.doneU [4, 0, 1] [] (by kernel_rfl) ?_
  refine Tr.rs ?_
  refine LAt.runU tOk 2 (by kernel_rfl) ?_
  refine LAt.lenE tOk (t := 47) (ty := 3) (e := 169) (x := (.tmp 6)) (d := 7) (g := none) ⟨(.slot 6), [], 0, false, 8, (CV.frzEs (x0.map Pt.row))⟩ (x0).length _ (by kernel_rfl) (by kernel_rfl) (by kernel_rfl) (by kernel_rfl) (by kernel_rfl) (frz_len _ _) rfl ?_
  refine LAt.runU tOk 2 (by kernel_rfl) ?_
  refine LAt.doneU [1, 4] [] (by kernel_rfl) ?_
  refine Tr.seq ?_
  refine Tr.rs ?_
  refine LAt.runU tOk 2 (by kernel_rfl) ?_
  refine LAt.doneU [10, 1, 4] [] (by kernel_rfl) ?_
  refine Tr.to ⟨12, 0, [(10, .val false [.lit (.bool (decide ((IntKind.wrap .i64 (x1 - (x0.length : Int))) < 0)))]), (1, .val false [.lit (.int .i64 (IntKind.wrap .i64 (x1 - (x0.length : Int))))]), (4, .val false [.lit (.int .i64 0)])], []⟩ (by kernel_rfl) ?_
  cases h1 : (decide ((IntKind.wrap .i64 (x1 - (x0.length : Int))) < 0))
  · have H := bifF h1 H
    refine Tr.cond (b := false) (by kernel_rfl) (fun h => nomatch h) (fun _ => ?_)
    refine Tr.skip ?_
    show Tr _ _ _ _ _
    refine Tr.rs ?_
    refine LAt.runU tOk 2 (by kernel_rfl) ?_
    refine LAt.doneU [4] [] (by kernel_rfl) ?_
    refine Tr.ret ?_
    have H := Option.some.inj H
    subst H
    exact Fin.of _ [(false, [.lit (.int .i64 (IntKind.wrap .i64 (x1 - (x0.length : Int))))])] (by kernel_rfl) rfl rfl
  · have H := bifT h1 H
    refine Tr.cond (b := true) (by kernel_rfl) (fun _ => ?_) (fun h => nomatch h)
    refine Tr.rs ?_
    refine LAt.runU tOk 1 (by kernel_rfl) ?_
    refine LAt.doneU [4, 1] [] (by kernel_rfl) ?_
    refine Tr.ret ?_
    have H := Option.some.inj H
    subst H
    exact Fin.of _ [(false, [.lit (.int .i64 (-1))])] (by kernel_rfl) rfl rfl

def laws_szFentSF (n : Nat) (x0 : (List Fent)) (x1 : Int) : Option (Int) :=
  (bif (decide ((IntKind.wrap .i64 (x1 - (x0.length : Int))) < 0)) then (some (-1)) else (some (IntKind.wrap .i64 (x1 - (x0.length : Int)))))
/-- loop.example/g00326/laws.szFentS -/
theorem laws_szFentS (n : Nat) (x0 : (List Fent)) (x1 : Int) (r : Int) (H : laws_szFentSF n x0 x1 = some r) : LCall Try.prog 95 [.val false [.sl false 5 (CV.frzEs (x0.map Fent.row))], .val false [.lit (.int .i64 x1)]] [.val false [.lit (.int .i64 r)]] [] := by
  refine LCall.of_body tOk Try.func95 rfl (c := (.seq (.region 0 (rg Try.f95 0) false) (.seq (.region 1 (rg Try.f95 1) false) (.seq (.seq (.region 2 (rg Try.f95 2) false) (.cond (.tmp 10) (.seq (.region 3 (rg Try.f95 3) false) .ret) .skip)) (.seq (.region 4 (rg Try.f95 4) false) .ret))))) (by kernel_rfl) (Nat.le_of_ble_eq_true (by kernel_rfl)) 0 (rs := [.tmp 4]) rfl [] .nil [(false, [.lit (.int .i64 r)])] [] [] fun cx => ?_
  show Tr _ _ _ ⟨12, 0, [(0, .val false [.sl false 5 (CV.frzEs (x0.map Fent.row))]), (1, .val false [.lit (.int .i64 x1)])], []⟩ _
  unfold laws_szFentSF at H
  refine Tr.rs ?_
  refine LAt.runU tOk 1 (by kernel_rfl) ?_
  refine LAt.doneU [4, 0, 1] [] (by kernel_rfl) ?_
  refine Tr.rs ?_
  refine LAt.runU tOk 2 (by kernel_rfl) ?_
  refine LAt.lenE tOk (t := 48) (ty := 3) (e := 171) (x := (.tmp 6)) (d := 7) (g := none) ⟨(.slot 6), [], 0, false, 5, (CV.frzEs (x0.map Fent.row))⟩ (x0).length _ (by kernel_rfl) (by kernel_rfl) (by kernel_rfl) (by kernel_rfl) (by kernel_rfl) (frz_len _ _) rfl ?_
  refine LAt.runU tOk 2 (by kernel_rfl) ?_
  refine LAt.doneU [1, 4] [] (by kernel_rfl) ?_
  refine Tr.seq ?_
  refine Tr.rs ?_
  refine LAt.runU tOk 2 (by kernel_rfl) ?_
  refine LAt.doneU [10, 1, 4] [] (by kernel_rfl) ?_
  refine Tr.to ⟨12, 0, [(10, .val false [.lit (.bool (decide ((IntKind.wrap .i64 (x1 - (x0.length : Int))) < 0)))]), (1, .val false [.lit (.int .i64 (IntKind.wrap .i64 (x1 - (x0.length : Int))))]), (4, .val false [.lit (.int .i64 0)])], []⟩ (by kernel_rfl) ?_
  cases h1 : (decide ((IntKind.wrap .i64 (x1 - (x0.length : Int))) < 0))
  · have H := bifF h1 H
    refine Tr.cond (b := false) (by kernel_rfl) (fun h => nomatch h) (fun _ => ?_)
    refine Tr.skip ?_
    show Tr _ _ _ _ _
    refine Tr.rs ?_
    refine LAt.runU tOk 2 (by kernel_rfl) ?_
    refine LAt.doneU [4] [] (by kernel_rfl) ?_
    refine Tr.ret ?_
    have H := Option.some.inj H
    subst H
    exact Fin.of _ [(false, [.lit (.int .i64 (IntKind.wrap .i64 (x1 - (x0.length : Int))))])] (by kernel_rfl) rfl rfl
  · have H := bifT h1 H
    refine Tr.cond (b := true) (by kernel_rfl) (fun _ => ?_) (fun h => nomatch h)
    refine Tr.rs ?_
    refine LAt.runU tOk 1 (by kernel_rfl) ?_
    refine LAt.doneU [4, 1] [] (by kernel_rfl) ?_
    refine Tr.ret ?_
    have H := Option.some.inj H
    subst H
    exact Fin.of _ [(false, [.lit (.int .i64 (-1))])] (by kernel_rfl) rfl rfl

def laws_szVrowSF (n : Nat) (x0 : (List Vrow)) (x1 : Int) : Option (Int) :=
  (bif (decide ((IntKind.wrap .i64 (x1 - (x0.length : Int))) < 0)) then (some (-1)) else (some (IntKind.wrap .i64 (x1 - (x0.length : Int)))))
/-- loop.example/g00326/laws.szVrowS -/
theorem laws_szVrowS (n : Nat) (x0 : (List Vrow)) (x1 : Int) (r : Int) (H : laws_szVrowSF n x0 x1 = some r) : LCall Try.prog 150 [.val false [.sl false 3 (CV.frzEs (x0.map Vrow.row))], .val false [.lit (.int .i64 x1)]] [.val false [.lit (.int .i64 r)]] [] := by
  refine LCall.of_body tOk Try.func150 rfl (c := (.seq (.region 0 (rg Try.f150 0) false) (.seq (.region 1 (rg Try.f150 1) false) (.seq (.seq (.region 2 (rg Try.f150 2) false) (.cond (.tmp 10) (.seq (.region 3 (rg Try.f150 3) false) .ret) .skip)) (.seq (.region 4 (rg Try.f150 4) false) .ret))))) (by kernel_rfl) (Nat.le_of_ble_eq_true (by kernel_rfl)) 0 (rs := [.tmp 4]) rfl [] .nil [(false, [.lit (.int .i64 r)])] [] [] fun cx => ?_
  show Tr _ _ _ ⟨12, 0, [(0, .val false [.sl false 3 (CV.frzEs (x0.map Vrow.row))]), (1, .val false [.lit (.int .i64 x1)])], []⟩ _
  unfold laws_szVrowSF at H
  refine Tr.rs ?_
  refine LAt.runU tOk 1 (by kernel_rfl) ?_
  refine LAt.doneU [4, 0, 1] [] (by kernel_rfl) ?_
  refine Tr.rs ?_
  refine LAt.runU tOk 2 (by kernel_rfl) ?_
  refine LAt.lenE tOk (t := 49) (ty := 3) (e := 187) (x := (.tmp 6)) (d := 7) (g := none) ⟨(.slot 6), [], 0, false, 3, (CV.frzEs (x0.map Vrow.row))⟩ (x0).length _ (by kernel_rfl) (by kernel_rfl) (by kernel_rfl) (by kernel_rfl) (by kernel_rfl) (frz_len _ _) rfl ?_
  refine LAt.runU tOk 2 (by kernel_rfl) ?_
  refine LAt.doneU [1, 4] [] (by kernel_rfl) ?_
  refine Tr.seq ?_
  refine Tr.rs ?_
  refine LAt.runU tOk 2 (by kernel_rfl) ?_
  refine LAt.doneU [10, 1, 4] [] (by kernel_rfl) ?_
  refine Tr.to ⟨12, 0, [(10, .val false [.lit (.bool (decide ((IntKind.wrap .i64 (x1 - (x0.length : Int))) < 0)))]), (1, .val false [.lit (.int .i64 (IntKind.wrap .i64 (x1 - (x0.length : Int))))]), (4, .val false [.lit (.int .i64 0)])], []⟩ (by kernel_rfl) ?_
  cases h1 : (decide ((IntKind.wrap .i64 (x1 - (x0.length : Int))) < 0))
  · have H := bifF h1 H
    refine Tr.cond (b := false) (by kernel_rfl) (fun h => nomatch h) (fun _ => ?_)
    refine Tr.skip ?_
    show Tr _ _ _ _ _
    refine Tr.rs ?_
    refine LAt.runU tOk 2 (by kernel_rfl) ?_
    refine LAt.doneU [4] [] (by kernel_rfl) ?_
    refine Tr.ret ?_
    have H := Option.some.inj H
    subst H
    exact Fin.of _ [(false, [.lit (.int .i64 (IntKind.wrap .i64 (x1 - (x0.length : Int))))])] (by kernel_rfl) rfl rfl
  · have H := bifT h1 H
    refine Tr.cond (b := true) (by kernel_rfl) (fun _ => ?_) (fun h => nomatch h)
    refine Tr.rs ?_
    refine LAt.runU tOk 1 (by kernel_rfl) ?_
    refine LAt.doneU [4, 1] [] (by kernel_rfl) ?_
    refine Tr.ret ?_
    have H := Option.some.inj H
    subst H
    exact Fin.of _ [(false, [.lit (.int .i64 (-1))])] (by kernel_rfl) rfl rfl

def laws_szIntSF (n : Nat) (x0 : (List Int)) (x1 : Int) : Option (Int) :=
  (bif (decide ((IntKind.wrap .i64 (x1 - (x0.length : Int))) < 0)) then (some (-1)) else (some (IntKind.wrap .i64 (x1 - (x0.length : Int)))))
/-- loop.example/g00326/laws.szIntS -/
theorem laws_szIntS (n : Nat) (x0 : (List Int)) (x1 : Int) (r : Int) (H : laws_szIntSF n x0 x1 = some r) : LCall Try.prog 151 [.val false [.sl false 1 (CV.frzEs (x0.map intRow))], .val false [.lit (.int .i64 x1)]] [.val false [.lit (.int .i64 r)]] [] := by
  refine LCall.of_body tOk Try.func151 rfl (c := (.seq (.region 0 (rg Try.f151 0) false) (.seq (.region 1 (rg Try.f151 1) false) (.seq (.seq (.region 2 (rg Try.f151 2) false) (.cond (.tmp 10) (.seq (.region 3 (rg Try.f151 3) false) .ret) .skip)) (.seq (.region 4 (rg Try.f151 4) false) .ret))))) (by kernel_rfl) (Nat.le_of_ble_eq_true (by kernel_rfl)) 0 (rs := [.tmp 4]) rfl [] .nil [(false, [.lit (.int .i64 r)])] [] [] fun cx => ?_
  show Tr _ _ _ ⟨12, 0, [(0, .val false [.sl false 1 (CV.frzEs (x0.map intRow))]), (1, .val false [.lit (.int .i64 x1)])], []⟩ _
  unfold laws_szIntSF at H
  refine Tr.rs ?_
  refine LAt.runU tOk 1 (by kernel_rfl) ?_
  refine LAt.doneU [4, 0, 1] [] (by kernel_rfl) ?_
  refine Tr.rs ?_
  refine LAt.runU tOk 2 (by kernel_rfl) ?_
  refine LAt.lenE tOk (t := 27) (ty := 3) (e := 3) (x := (.tmp 6)) (d := 7) (g := none) ⟨(.slot 6), [], 0, false, 1, (CV.frzEs (x0.map intRow))⟩ (x0).length _ (by kernel_rfl) (by kernel_rfl) (by kernel_rfl) (by kernel_rfl) (by kernel_rfl) (frz_len _ _) rfl ?_
  refine LAt.runU tOk 2 (by kernel_rfl) ?_
  refine LAt.doneU [1, 4] [] (by kernel_rfl) ?_
  refine Tr.seq ?_
  refine Tr.rs ?_
  refine LAt.runU tOk 2 (by kernel_rfl) ?_
  refine LAt.doneU [10, 1, 4] [] (by kernel_rfl) ?_
  refine Tr.to ⟨12, 0, [(10, .val false [.lit (.bool (decide ((IntKind.wrap .i64 (x1 - (x0.length : Int))) < 0)))]), (1, .val false [.lit (.int .i64 (IntKind.wrap .i64 (x1 - (x0.length : Int))))]), (4, .val false [.lit (.int .i64 0)])], []⟩ (by kernel_rfl) ?_
  cases h1 : (decide ((IntKind.wrap .i64 (x1 - (x0.length : Int))) < 0))
  · have H := bifF h1 H
    refine Tr.cond (b := false) (by kernel_rfl) (fun h => nomatch h) (fun _ => ?_)
    refine Tr.skip ?_
    show Tr _ _ _ _ _
    refine Tr.rs ?_
    refine LAt.runU tOk 2 (by kernel_rfl) ?_
    refine LAt.doneU [4] [] (by kernel_rfl) ?_
    refine Tr.ret ?_
    have H := Option.some.inj H
    subst H
    exact Fin.of _ [(false, [.lit (.int .i64 (IntKind.wrap .i64 (x1 - (x0.length : Int))))])] (by kernel_rfl) rfl rfl
  · have H := bifT h1 H
    refine Tr.cond (b := true) (by kernel_rfl) (fun _ => ?_) (fun h => nomatch h)
    refine Tr.rs ?_
    refine LAt.runU tOk 1 (by kernel_rfl) ?_
    refine LAt.doneU [4, 1] [] (by kernel_rfl) ?_
    refine Tr.ret ?_
    have H := Option.some.inj H
    subst H
    exact Fin.of _ [(false, [.lit (.int .i64 (-1))])] (by kernel_rfl) rfl rfl

def laws_szVtabF (n : Nat) (x0 : Vtab) (x1 : Int) : Option (Int) :=
  ((laws_szVrowSF n x0.Rows x1).bind fun r1 => (bif (decide (r1 < 0)) then (some (-1)) else ((laws_szIntSF n x0.Pvid r1).bind fun r2 => (bif (decide (r2 < 0)) then (some (-1)) else (some r2)))))
/-- loop.example/g00326/laws.szVtab -/
theorem laws_szVtab (n : Nat) (x0 : Vtab) (x1 : Int) (r : Int) (H : laws_szVtabF n x0 x1 = some r) : LCall Try.prog 96 [.val true (CV.frzRow (Vtab.row x0)), .val false [.lit (.int .i64 x1)]] [.val false [.lit (.int .i64 r)]] [] := by
  refine LCall.of_body tOk Try.func96 rfl (c := (.seq (.region 0 (rg Try.f96 0) false) (.seq (.region 1 (rg Try.f96 1) false) (.seq (.seq (.region 2 (rg Try.f96 2) false) (.cond (.tmp 10) (.seq (.region 3 (rg Try.f96 3) false) .ret) .skip)) (.seq (.region 4 (rg Try.f96 4) false) (.seq (.seq (.region 5 (rg Try.f96 5) false) (.cond (.tmp 16) (.seq (.region 6 (rg Try.f96 6) false) .ret) .skip)) (.seq (.region 7 (rg Try.f96 7) false) .ret))))))) (by kernel_rfl) (Nat.le_of_ble_eq_true (by kernel_rfl)) 0 (rs := [.tmp 4]) rfl [] .nil [(false, [.lit (.int .i64 r)])] [] [] fun cx => ?_
  show Tr _ _ _ ⟨18, 0, [(0, .val true (CV.frzRow (Vtab.row x0))), (1, .val false [.lit (.int .i64 x1)])], []⟩ _
  unfold laws_szVtabF at H
  refine Tr.rs ?_
  refine LAt.runU tOk 2 (by kernel_rfl) ?_
  refine LAt.doneU [4, 2, 1] [2] (by kernel_rfl) ?_
  refine Tr.rs ?_
  refine LAt.runU tOk 3 (by kernel_rfl) ?_
  obtain ⟨r1, er1, H⟩ := bind_some H
  refine LAt.callU tOk [.rd, .rd] (f := 150) (av := #[.tmp 6, .tmp 7]) (ats := #[49, 3]) (d := (some 8)) (ty := 3) (g := none) (by kernel_rfl) (by kernel_rfl) (by kernel_rfl) [] (laws_szVrowS n x0.Rows x1 r1 er1) (by kernel_rfl) (.inl rfl) ?_
  refine LAt.runU tOk 1 (by kernel_rfl) ?_
  refine LAt.doneU [1, 4, 2] [2] (by kernel_rfl) ?_
  refine Tr.seq ?_
  refine Tr.rs ?_
  refine LAt.runU tOk 2 (by kernel_rfl) ?_
  refine LAt.doneU [10, 1, 4, 2] [2] (by kernel_rfl) ?_
  refine Tr.to ⟨18, 0, [(10, .val false [.lit (.bool (decide (r1 < 0)))]), (1, .val false [.lit (.int .i64 r1)]), (4, .val false [.lit (.int .i64 0)]), (2, .adr (.box 2) [(0, 0)] 2 0)], [(2, (CV.frzRow (Vtab.row x0)))]⟩ (by kernel_rfl) ?_
  cases h1 : (decide (r1 < 0))
  · have H := bifF h1 H
    refine Tr.cond (b := false) (by kernel_rfl) (fun h => nomatch h) (fun _ => ?_)
    refine Tr.skip ?_
    show Tr _ _ _ _ _
    refine Tr.rs ?_
    refine LAt.runU tOk 3 (by kernel_rfl) ?_
    obtain ⟨r2, er2, H⟩ := bind_some H
    refine LAt.callU tOk [.rd, .rd] (f := 151) (av := #[.tmp 12, .tmp 13]) (ats := #[27, 3]) (d := (some 14)) (ty := 3) (g := none) (by kernel_rfl) (by kernel_rfl) (by kernel_rfl) [] (laws_szIntS n x0.Pvid r1 r2 er2) (by kernel_rfl) (.inl rfl) ?_
    refine LAt.runU tOk 1 (by kernel_rfl) ?_
    refine LAt.doneU [1, 4] [] (by kernel_rfl) ?_
    refine Tr.seq ?_
    refine Tr.rs ?_
    refine LAt.runU tOk 2 (by kernel_rfl) ?_
    refine LAt.doneU [16, 1, 4] [] (by kernel_rfl) ?_
    refine Tr.to ⟨18, 0, [(16, .val false [.lit (.bool (decide (r2 < 0)))]), (1, .val false [.lit (.int .i64 r2)]), (4, .val false [.lit (.int .i64 0)])], []⟩ (by kernel_rfl) ?_
    cases h2 : (decide (r2 < 0))
    · have H := bifF h2 H
      refine Tr.cond (b := false) (by kernel_rfl) (fun h => nomatch h) (fun _ => ?_)
      refine Tr.skip ?_
      show Tr _ _ _ _ _
      refine Tr.rs ?_
      refine LAt.runU tOk 2 (by kernel_rfl) ?_
      refine LAt.doneU [4] [] (by kernel_rfl) ?_
      refine Tr.ret ?_
      have H := Option.some.inj H
      subst H
      exact Fin.of _ [(false, [.lit (.int .i64 r2)])] (by kernel_rfl) rfl rfl
    · have H := bifT h2 H
      refine Tr.cond (b := true) (by kernel_rfl) (fun _ => ?_) (fun h => nomatch h)
      refine Tr.rs ?_
      refine LAt.runU tOk 1 (by kernel_rfl) ?_
      refine LAt.doneU [4, 1] [] (by kernel_rfl) ?_
      refine Tr.ret ?_
      have H := Option.some.inj H
      subst H
      exact Fin.of _ [(false, [.lit (.int .i64 (-1))])] (by kernel_rfl) rfl rfl
  · have H := bifT h1 H
    refine Tr.cond (b := true) (by kernel_rfl) (fun _ => ?_) (fun h => nomatch h)
    refine Tr.rs ?_
    refine LAt.runU tOk 1 (by kernel_rfl) ?_
    refine LAt.doneU [4, 1, 2] [2] (by kernel_rfl) ?_
    refine Tr.ret ?_
    have H := Option.some.inj H
    subst H
    exact Fin.of _ [(false, [.lit (.int .i64 (-1))])] (by kernel_rfl) rfl rfl

def laws_szBridgeF (n : Nat) (x0 : Bridge) (x1 : Int) : Option (Int) :=
  (bif (decide ((IntKind.wrap .i64 (x1 - (x0.Name.size : Int))) < 0)) then (some (-1)) else ((laws_szPtSF n x0.Ports (IntKind.wrap .i64 (x1 - (x0.Name.size : Int)))).bind fun r1 => (bif (decide (r1 < 0)) then (some (-1)) else ((laws_szFentSF n x0.F r1).bind fun r2 => (bif (decide (r2 < 0)) then (some (-1)) else ((laws_szVtabF n x0.V r2).bind fun r3 => (bif (decide (r3 < 0)) then (some (-1)) else (some r3))))))))
/-- loop.example/g00326/laws.szBridge -/
theorem laws_szBridge (n : Nat) (x0 : Bridge) (x1 : Int) (r : Int) (H : laws_szBridgeF n x0 x1 = some r) : LCall Try.prog 35 [.val true (CV.frzRow (Bridge.row x0)), .val false [.lit (.int .i64 x1)]] [.val false [.lit (.int .i64 r)]] [] := by
  refine LCall.of_body tOk Try.func35 rfl (c := (.seq (.region 0 (rg Try.f35 0) false) (.seq (.region 1 (rg Try.f35 1) false) (.seq (.seq (.region 2 (rg Try.f35 2) false) (.cond (.tmp 11) (.seq (.region 3 (rg Try.f35 3) false) .ret) .skip)) (.seq (.region 4 (rg Try.f35 4) false) (.seq (.seq (.region 5 (rg Try.f35 5) false) (.cond (.tmp 17) (.seq (.region 6 (rg Try.f35 6) false) .ret) .skip)) (.seq (.region 7 (rg Try.f35 7) false) (.seq (.seq (.region 8 (rg Try.f35 8) false) (.cond (.tmp 23) (.seq (.region 9 (rg Try.f35 9) false) .ret) .skip)) (.seq (.region 10 (rg Try.f35 10) false) (.seq (.seq (.region 11 (rg Try.f35 11) false) (.cond (.tmp 29) (.seq (.region 12 (rg Try.f35 12) false) .ret) .skip)) (.seq (.region 13 (rg Try.f35 13) false) .ret))))))))))) (by kernel_rfl) (Nat.le_of_ble_eq_true (by kernel_rfl)) 0 (rs := [.tmp 4]) rfl [] .nil [(false, [.lit (.int .i64 r)])] [] [] fun cx => ?_
  show Tr _ _ _ ⟨31, 0, [(0, .val true (CV.frzRow (Bridge.row x0))), (1, .val false [.lit (.int .i64 x1)])], []⟩ _
  unfold laws_szBridgeF at H
  refine Tr.rs ?_
  refine LAt.runU tOk 2 (by kernel_rfl) ?_
  refine LAt.doneU [4, 2, 1] [2] (by kernel_rfl) ?_
  refine Tr.rs ?_
  refine LAt.runU tOk 6 (by kernel_rfl) ?_
  refine LAt.doneU [1, 4, 2] [2] (by kernel_rfl) ?_
  refine Tr.seq ?_
  refine Tr.rs ?_
  refine LAt.runU tOk 2 (by kernel_rfl) ?_
  refine LAt.doneU [11, 1, 4, 2] [2] (by kernel_rfl) ?_
  refine Tr.to ⟨31, 0, [(11, .val false [.lit (.bool (decide ((IntKind.wrap .i64 (x1 - (x0.Name.size : Int))) < 0)))]), (1, .val false [.lit (.int .i64 (IntKind.wrap .i64 (x1 - (x0.Name.size : Int))))]), (4, .val false [.lit (.int .i64 0)]), (2, .adr (.box 2) [(0, 0)] 11 0)], [(2, (CV.frzRow (Bridge.row x0)))]⟩ (by kernel_rfl) ?_
  cases h1 : (decide ((IntKind.wrap .i64 (x1 - (x0.Name.size : Int))) < 0))
  · have H := bifF h1 H
    refine Tr.cond (b := false) (by kernel_rfl) (fun h => nomatch h) (fun _ => ?_)
    refine Tr.skip ?_
    show Tr _ _ _ _ _
    refine Tr.rs ?_
    refine LAt.runU tOk 3 (by kernel_rfl) ?_
    obtain ⟨r1, er1, H⟩ := bind_some H
    refine LAt.callU tOk [.rd, .rd] (f := 94) (av := #[.tmp 13, .tmp 14]) (ats := #[47, 3]) (d := (some 15)) (ty := 3) (g := none) (by kernel_rfl) (by kernel_rfl) (by kernel_rfl) [] (laws_szPtS n x0.Ports (IntKind.wrap .i64 (x1 - (x0.Name.size : Int))) r1 er1) (by kernel_rfl) (.inl rfl) ?_
    refine LAt.runU tOk 1 (by kernel_rfl) ?_
    refine LAt.doneU [1, 4, 2] [2] (by kernel_rfl) ?_
    refine Tr.seq ?_
    refine Tr.rs ?_
    refine LAt.runU tOk 2 (by kernel_rfl) ?_
    refine LAt.doneU [17, 1, 4, 2] [2] (by kernel_rfl) ?_
    refine Tr.to ⟨31, 0, [(17, .val false [.lit (.bool (decide (r1 < 0)))]), (1, .val false [.lit (.int .i64 r1)]), (4, .val false [.lit (.int .i64 0)]), (2, .adr (.box 2) [(0, 0)] 11 0)], [(2, (CV.frzRow (Bridge.row x0)))]⟩ (by kernel_rfl) ?_
    cases h2 : (decide (r1 < 0))
    · have H := bifF h2 H
      refine Tr.cond (b := false) (by kernel_rfl) (fun h => nomatch h) (fun _ => ?_)
      refine Tr.skip ?_
      show Tr _ _ _ _ _
      refine Tr.rs ?_
      refine LAt.runU tOk 3 (by kernel_rfl) ?_
      obtain ⟨r2, er2, H⟩ := bind_some H
      refine LAt.callU tOk [.rd, .rd] (f := 95) (av := #[.tmp 19, .tmp 20]) (ats := #[48, 3]) (d := (some 21)) (ty := 3) (g := none) (by kernel_rfl) (by kernel_rfl) (by kernel_rfl) [] (laws_szFentS n x0.F r1 r2 er2) (by kernel_rfl) (.inl rfl) ?_
      refine LAt.runU tOk 1 (by kernel_rfl) ?_
      refine LAt.doneU [1, 4, 2] [2] (by kernel_rfl) ?_
      refine Tr.seq ?_
      refine Tr.rs ?_
      refine LAt.runU tOk 2 (by kernel_rfl) ?_
      refine LAt.doneU [23, 1, 4, 2] [2] (by kernel_rfl) ?_
      refine Tr.to ⟨31, 0, [(23, .val false [.lit (.bool (decide (r2 < 0)))]), (1, .val false [.lit (.int .i64 r2)]), (4, .val false [.lit (.int .i64 0)]), (2, .adr (.box 2) [(0, 0)] 11 0)], [(2, (CV.frzRow (Bridge.row x0)))]⟩ (by kernel_rfl) ?_
      cases h3 : (decide (r2 < 0))
      · have H := bifF h3 H
        refine Tr.cond (b := false) (by kernel_rfl) (fun h => nomatch h) (fun _ => ?_)
        refine Tr.skip ?_
        show Tr _ _ _ _ _
        refine Tr.rs ?_
        refine LAt.runU tOk 3 (by kernel_rfl) ?_
        obtain ⟨r3, er3, H⟩ := bind_some H
        refine LAt.callU tOk [.rd, .rd] (f := 96) (av := #[.tmp 25, .tmp 26]) (ats := #[51, 3]) (d := (some 27)) (ty := 3) (g := none) (by kernel_rfl) (by kernel_rfl) (by kernel_rfl) [] (laws_szVtab n x0.V r2 r3 er3) (by kernel_rfl) (.inl rfl) ?_
        refine LAt.runU tOk 1 (by kernel_rfl) ?_
        refine LAt.doneU [1, 4] [] (by kernel_rfl) ?_
        refine Tr.seq ?_
        refine Tr.rs ?_
        refine LAt.runU tOk 2 (by kernel_rfl) ?_
        refine LAt.doneU [29, 1, 4] [] (by kernel_rfl) ?_
        refine Tr.to ⟨31, 0, [(29, .val false [.lit (.bool (decide (r3 < 0)))]), (1, .val false [.lit (.int .i64 r3)]), (4, .val false [.lit (.int .i64 0)])], []⟩ (by kernel_rfl) ?_
        cases h4 : (decide (r3 < 0))
        · have H := bifF h4 H
          refine Tr.cond (b := false) (by kernel_rfl) (fun h => nomatch h) (fun _ => ?_)
          refine Tr.skip ?_
          show Tr _ _ _ _ _
          refine Tr.rs ?_
          refine LAt.runU tOk 2 (by kernel_rfl) ?_
          refine LAt.doneU [4] [] (by kernel_rfl) ?_
          refine Tr.ret ?_
          have H := Option.some.inj H
          subst H
          exact Fin.of _ [(false, [.lit (.int .i64 r3)])] (by kernel_rfl) rfl rfl
        · have H := bifT h4 H
          refine Tr.cond (b := true) (by kernel_rfl) (fun _ => ?_) (fun h => nomatch h)
          refine Tr.rs ?_
          refine LAt.runU tOk 1 (by kernel_rfl) ?_
          refine LAt.doneU [4, 1] [] (by kernel_rfl) ?_
          refine Tr.ret ?_
          have H := Option.some.inj H
          subst H
          exact Fin.of _ [(false, [.lit (.int .i64 (-1))])] (by kernel_rfl) rfl rfl
      · have H := bifT h3 H
        refine Tr.cond (b := true) (by kernel_rfl) (fun _ => ?_) (fun h => nomatch h)
        refine Tr.rs ?_
        refine LAt.runU tOk 1 (by kernel_rfl) ?_
        refine LAt.doneU [4, 1, 2] [2] (by kernel_rfl) ?_
        refine Tr.ret ?_
        have H := Option.some.inj H
        subst H
        exact Fin.of _ [(false, [.lit (.int .i64 (-1))])] (by kernel_rfl) rfl rfl
    · have H := bifT h2 H
      refine Tr.cond (b := true) (by kernel_rfl) (fun _ => ?_) (fun h => nomatch h)
      refine Tr.rs ?_
      refine LAt.runU tOk 1 (by kernel_rfl) ?_
      refine LAt.doneU [4, 1, 2] [2] (by kernel_rfl) ?_
      refine Tr.ret ?_
      have H := Option.some.inj H
      subst H
      exact Fin.of _ [(false, [.lit (.int .i64 (-1))])] (by kernel_rfl) rfl rfl
  · have H := bifT h1 H
    refine Tr.cond (b := true) (by kernel_rfl) (fun _ => ?_) (fun h => nomatch h)
    refine Tr.rs ?_
    refine LAt.runU tOk 1 (by kernel_rfl) ?_
    refine LAt.doneU [4, 1, 2] [2] (by kernel_rfl) ?_
    refine Tr.ret ?_
    have H := Option.some.inj H
    subst H
    exact Fin.of _ [(false, [.lit (.int .i64 (-1))])] (by kernel_rfl) rfl rfl

def laws_szBridgeS_J1 (n : Nat) (y3 : Int) : Option (Int) :=
  (some y3)
def laws_szBridgeS_L2 (n : Nat) : Nat → (List Bridge) → Int → Int → Option ((Int) ⊕ (Int))
  | 0, _, _, _ => none
  | mo4 + 1, x0, y1, y2 => (bif (decide (y1 < (x0.length : Int))) then ((idx x0 y1).bind fun v5 => ((laws_szBridgeF n v5 y2).bind fun r6 => (bif (decide (r6 < 0)) then (some (Sum.inr (-1))) else (laws_szBridgeS_L2 n mo4 x0 (IntKind.wrap .i64 (y1 + 1)) r6)))) else (some (Sum.inl y2)))
def laws_szBridgeSF (n : Nat) (x0 : (List Bridge)) (x1 : Int) : Option (Int) :=
  (bif (decide ((IntKind.wrap .i64 (x1 - (x0.length : Int))) < 0)) then (some (-1)) else ((laws_szBridgeS_L2 n n x0 0 (IntKind.wrap .i64 (x1 - (x0.length : Int)))).bind fun o => match o with | .inl y3 => (laws_szBridgeS_J1 n y3) | .inr r => some r))
/-- loop.example/g00326/laws.szBridgeS -/
theorem laws_szBridgeS (n : Nat) (x0 : (List Bridge)) (x1 : Int) (r : Int) (H : laws_szBridgeSF n x0 x1 = some r) : LCall Try.prog 62 [.val false [.sl false 11 (CV.frzEs (x0.map Bridge.row))], .val false [.lit (.int .i64 x1)]] [.val false [.lit (.int .i64 r)]] [] := by
  refine LCall.of_body tOk Try.func62 rfl (c := (.seq (.region 0 (rg Try.f62 0) false) (.seq (.region 1 (rg Try.f62 1) false) (.seq (.seq (.region 2 (rg Try.f62 2) false) (.cond (.tmp 11) (.seq (.region 3 (rg Try.f62 3) false) .ret) .skip)) (.seq (.seq (.region 4 (rg Try.f62 4) false) (.block 0 (.loop (.seq (.seq (.region 5 (rg Try.f62 5) false) (.cond (.tmp 15) .skip (.exit 0))) (.seq (.block 1 (.seq (.region 7 (rg Try.f62 7) false) (.seq (.region 8 (rg Try.f62 8) false) (.cond (.tmp 25) (.seq (.region 9 (rg Try.f62 9) false) .ret) .skip)))) (.region 6 (rg Try.f62 6) false)))))) (.seq (.region 10 (rg Try.f62 10) false) .ret)))))) (by kernel_rfl) (Nat.le_of_ble_eq_true (by kernel_rfl)) 0 (rs := [.tmp 4]) rfl [] .nil [(false, [.lit (.int .i64 r)])] [] [] fun cx => ?_
  show Tr _ _ _ ⟨27, 0, [(0, .val false [.sl false 11 (CV.frzEs (x0.map Bridge.row))]), (1, .val false [.lit (.int .i64 x1)])], []⟩ _
  unfold laws_szBridgeSF at H
  refine Tr.rs ?_
  refine LAt.runU tOk 1 (by kernel_rfl) ?_
  refine LAt.doneU [4, 0, 1] [] (by kernel_rfl) ?_
  refine Tr.rs ?_
  refine LAt.runU tOk 2 (by kernel_rfl) ?_
  refine LAt.lenE tOk (t := 22) (ty := 3) (e := 53) (x := (.tmp 7)) (d := 8) (g := none) ⟨(.slot 7), [], 0, false, 11, (CV.frzEs (x0.map Bridge.row))⟩ (x0).length _ (by kernel_rfl) (by kernel_rfl) (by kernel_rfl) (by kernel_rfl) (by kernel_rfl) (frz_len _ _) rfl ?_
  refine LAt.runU tOk 2 (by kernel_rfl) ?_
  refine LAt.doneU [1, 4, 0] [] (by kernel_rfl) ?_
  refine Tr.seq ?_
  refine Tr.rs ?_
  refine LAt.runU tOk 2 (by kernel_rfl) ?_
  refine LAt.doneU [11, 1, 4, 0] [] (by kernel_rfl) ?_
  refine Tr.to ⟨27, 0, [(11, .val false [.lit (.bool (decide ((IntKind.wrap .i64 (x1 - (x0.length : Int))) < 0)))]), (1, .val false [.lit (.int .i64 (IntKind.wrap .i64 (x1 - (x0.length : Int))))]), (4, .val false [.lit (.int .i64 0)]), (0, .val false [.sl false 11 (CV.frzEs (x0.map Bridge.row))])], []⟩ (by kernel_rfl) ?_
  cases h1 : (decide ((IntKind.wrap .i64 (x1 - (x0.length : Int))) < 0))
  · have H := bifF h1 H
    refine Tr.cond (b := false) (by kernel_rfl) (fun h => nomatch h) (fun _ => ?_)
    refine Tr.skip ?_
    show Tr _ _ _ _ _
    refine Tr.seq ?_
    refine Tr.rs ?_
    refine LAt.runU tOk 1 (by kernel_rfl) ?_
    refine LAt.doneU [5, 1, 4, 0] [] (by kernel_rfl) ?_
    obtain ⟨o4, eo4, Ho4⟩ := bind_some H
    clear H
    refine Tr.mid (ι := Int) (fun v => ⟨27, 0, [(1, .val false [.lit (.int .i64 v)]), (4, .val false [.lit (.int .i64 0)])], []⟩) (fun v => laws_szBridgeS_J1 n v = some r) ?_ ?_
    · refine Tr.block ?_
      refine Tr.loop (ι := Nat × (Int × Int)) (fun v => ⟨27, 0, [(5, .val false [.lit (.int .i64 v.2.1)]), (1, .val false [.lit (.int .i64 v.2.2)]), (4, .val false [.lit (.int .i64 0)]), (0, .val false [.sl false 11 (CV.frzEs (x0.map Bridge.row))])], []⟩) (fun v => laws_szBridgeS_L2 n v.1 x0 v.2.1 v.2.2 = some o4) (fun v => v.1) (n, (0, (IntKind.wrap .i64 (x1 - (x0.length : Int))))) eo4 (St.sub_of [5, 1, 4, 0] [] (by kernel_rfl)) ?_
      rintro ⟨mo4, y1, y2⟩ H
      have H : laws_szBridgeS_L2 n mo4 x0 y1 y2 = some o4 := H
      obtain _ | mo4 := mo4
      · cases (show (none : Option _) = some o4 from H)
      · rw [laws_szBridgeS_L2] at H
        refine Tr.seq ?_
        refine Tr.rs ?_
        refine LAt.runU tOk 2 (by kernel_rfl) ?_
        refine LAt.lenE tOk (t := 22) (ty := 3) (e := 53) (x := (.tmp 13)) (d := 14) (g := none) ⟨(.slot 13), [], 0, false, 11, (CV.frzEs (x0.map Bridge.row))⟩ (x0).length _ (by kernel_rfl) (by kernel_rfl) (by kernel_rfl) (by kernel_rfl) (by kernel_rfl) (frz_len _ _) rfl ?_
        refine LAt.runU tOk 1 (by kernel_rfl) ?_
        refine LAt.doneU [15, 14, 13, 12, 5, 1, 4, 0] [] (by kernel_rfl) ?_
        refine Tr.to ⟨27, 0, [(15, .val false [.lit (.bool (decide (y1 < (x0.length : Int))))]), (14, .val false [.lit (.int .i64 (x0.length : Int))]), (13, .val false [.sl false 11 (CV.frzEs (x0.map Bridge.row))]), (12, .val false [.lit (.int .i64 y1)]), (5, .val false [.lit (.int .i64 y1)]), (1, .val false [.lit (.int .i64 y2)]), (4, .val false [.lit (.int .i64 0)]), (0, .val false [.sl false 11 (CV.frzEs (x0.map Bridge.row))])], []⟩ (by kernel_rfl) ?_
        cases h2 : (decide (y1 < (x0.length : Int)))
        · have H := bifF h2 H
          refine Tr.cond (b := false) (by kernel_rfl) (fun h => nomatch h) (fun _ => ?_)
          refine Tr.exit ?_
          refine And.intro (fun _ => ?_) (fun h => absurd rfl h)
          have H := Option.some.inj H
          subst H
          have H := Ho4
          dsimp only at H
          exact Exists.intro y2 (And.intro H (St.sub_of [1, 4] [] (by kernel_rfl)))
        · have H := bifT h2 H
          refine Tr.cond (b := true) (by kernel_rfl) (fun _ => ?_) (fun h => nomatch h)
          refine Tr.skip ?_
          show Tr _ _ _ _ _
          refine Tr.seq ?_
          refine Tr.block ?_
          refine Tr.rs ?_
          refine LAt.runU tOk 2 (by kernel_rfl) ?_
          obtain ⟨v5, ev5, H⟩ := bind_some H
          refine LAt.indexF tOk (t := 22) (ty := 0) (x := (.tmp 18)) (y := (.tmp 19)) (d := 20) (g := none) ⟨(.slot 18), [], 0, false, 11, (CV.frzEs (x0.map Bridge.row))⟩ y1 (CV.frzRow (Bridge.row v5)) _ (by kernel_rfl) (by kernel_rfl) (by kernel_rfl) (by kernel_rfl) rfl (idx_isF ev5) rfl ?_
          refine LAt.runU tOk 2 (by kernel_rfl) ?_
          obtain ⟨r6, er6, H⟩ := bind_some H
          refine LAt.callU tOk [.rd, .rd] (f := 35) (av := #[.tmp 21, .tmp 22]) (ats := #[53, 3]) (d := (some 23)) (ty := 3) (g := none) (by kernel_rfl) (by kernel_rfl) (by kernel_rfl) [] (laws_szBridge n v5 y2 r6 er6) (by kernel_rfl) (.inl rfl) ?_
          refine LAt.runU tOk 1 (by kernel_rfl) ?_
          refine LAt.doneU [1, 23, 22, 21, 20, 19, 18, 15, 14, 13, 12, 5, 4, 0] [] (by kernel_rfl) ?_
          refine Tr.rs ?_
          refine LAt.runU tOk 2 (by kernel_rfl) ?_
          refine LAt.doneU [25, 24, 1, 23, 22, 21, 20, 19, 18, 15, 14, 13, 12, 5, 4, 0] [] (by kernel_rfl) ?_
          refine Tr.to ⟨27, 0, [(25, .val false [.lit (.bool (decide (r6 < 0)))]), (24, .val false [.lit (.int .i64 r6)]), (1, .val false [.lit (.int .i64 r6)]), (23, .val false [.lit (.int .i64 r6)]), (22, .val false [.lit (.int .i64 y2)]), (21, .val true (CV.frzRow (Bridge.row v5))), (20, .fad ((CV.frzRow (Bridge.row v5)))), (19, .val false [.lit (.int .i64 y1)]), (18, .val false [.sl false 11 (CV.frzEs (x0.map Bridge.row))]), (15, .val false [.lit (.bool true)]), (14, .val false [.lit (.int .i64 (x0.length : Int))]), (13, .val false [.sl false 11 (CV.frzEs (x0.map Bridge.row))]), (12, .val false [.lit (.int .i64 y1)]), (5, .val false [.lit (.int .i64 y1)]), (4, .val false [.lit (.int .i64 0)]), (0, .val false [.sl false 11 (CV.frzEs (x0.map Bridge.row))])], []⟩ (by kernel_rfl) ?_
          cases h3 : (decide (r6 < 0))
          · have H := bifF h3 H
            refine Tr.cond (b := false) (by kernel_rfl) (fun h => nomatch h) (fun _ => ?_)
            refine Tr.skip ?_
            show Tr _ _ _ _ _
            refine Tr.at ?_
            refine LAt.runU tOk 3 (by kernel_rfl) ?_
            refine LAt.doneU [5, 17, 16, 25, 24, 1, 23, 22, 21, 20, 19, 18, 15, 14, 13, 12, 4, 0] [] (by kernel_rfl) ?_
            exact Exists.intro (mo4, ((IntKind.wrap .i64 (y1 + 1)), r6)) (And.intro H (And.intro (Nat.lt_succ_self mo4) (St.sub_of [5, 1, 4, 0] [] (by kernel_rfl))))
          · have H := bifT h3 H
            refine Tr.cond (b := true) (by kernel_rfl) (fun _ => ?_) (fun h => nomatch h)
            refine Tr.rs ?_
            refine LAt.runU tOk 1 (by kernel_rfl) ?_
            refine LAt.doneU [4, 25, 24, 1, 23, 22, 21, 20, 19, 18, 15, 14, 13, 12, 5, 0] [] (by kernel_rfl) ?_
            refine Tr.ret ?_
            have H := Option.some.inj H
            subst H
            have H := Ho4
            dsimp only at H
            have H := Option.some.inj H
            subst H
            exact Fin.of _ [(false, [.lit (.int .i64 (-1))])] (by kernel_rfl) rfl rfl
    · rintro y3 H
      have H : (laws_szBridgeS_J1 n y3) = some r := H
      unfold laws_szBridgeS_J1 at H
      show Tr _ _ _ _ _
      refine Tr.rs ?_
      refine LAt.runU tOk 2 (by kernel_rfl) ?_
      refine LAt.doneU [4] [] (by kernel_rfl) ?_
      refine Tr.ret ?_
      have H := Option.some.inj H
      subst H
      exact Fin.of _ [(false, [.lit (.int .i64 y3)])] (by kernel_rfl) rfl rfl
  · have H := bifT h1 H
    refine Tr.cond (b := true) (by kernel_rfl) (fun _ => ?_) (fun h => nomatch h)
    refine Tr.rs ?_
    refine LAt.runU tOk 1 (by kernel_rfl) ?_
    refine LAt.doneU [4, 1, 0] [] (by kernel_rfl) ?_
    refine Tr.ret ?_
    have H := Option.some.inj H
    subst H
    exact Fin.of _ [(false, [.lit (.int .i64 (-1))])] (by kernel_rfl) rfl rfl

def laws_szLinkSF (n : Nat) (x0 : (List Link)) (x1 : Int) : Option (Int) :=
  (bif (decide ((IntKind.wrap .i64 (x1 - (x0.length : Int))) < 0)) then (some (-1)) else (some (IntKind.wrap .i64 (x1 - (x0.length : Int)))))
/-- loop.example/g00326/laws.szLinkS -/
theorem laws_szLinkS (n : Nat) (x0 : (List Link)) (x1 : Int) (r : Int) (H : laws_szLinkSF n x0 x1 = some r) : LCall Try.prog 63 [.val false [.sl false 4 (CV.frzEs (x0.map Link.row))], .val false [.lit (.int .i64 x1)]] [.val false [.lit (.int .i64 r)]] [] := by
  refine LCall.of_body tOk Try.func63 rfl (c := (.seq (.region 0 (rg Try.f63 0) false) (.seq (.region 1 (rg Try.f63 1) false) (.seq (.seq (.region 2 (rg Try.f63 2) false) (.cond (.tmp 10) (.seq (.region 3 (rg Try.f63 3) false) .ret) .skip)) (.seq (.region 4 (rg Try.f63 4) false) .ret))))) (by kernel_rfl) (Nat.le_of_ble_eq_true (by kernel_rfl)) 0 (rs := [.tmp 4]) rfl [] .nil [(false, [.lit (.int .i64 r)])] [] [] fun cx => ?_
  show Tr _ _ _ ⟨12, 0, [(0, .val false [.sl false 4 (CV.frzEs (x0.map Link.row))]), (1, .val false [.lit (.int .i64 x1)])], []⟩ _
  unfold laws_szLinkSF at H
  refine Tr.rs ?_
  refine LAt.runU tOk 1 (by kernel_rfl) ?_
  refine LAt.doneU [4, 0, 1] [] (by kernel_rfl) ?_
  refine Tr.rs ?_
  refine LAt.runU tOk 2 (by kernel_rfl) ?_
  refine LAt.lenE tOk (t := 23) (ty := 3) (e := 146) (x := (.tmp 6)) (d := 7) (g := none) ⟨(.slot 6), [], 0, false, 4, (CV.frzEs (x0.map Link.row))⟩ (x0).length _ (by kernel_rfl) (by kernel_rfl) (by kernel_rfl) (by kernel_rfl) (by kernel_rfl) (frz_len _ _) rfl ?_
  refine LAt.runU tOk 2 (by kernel_rfl) ?_
  refine LAt.doneU [1, 4] [] (by kernel_rfl) ?_
  refine Tr.seq ?_
  refine Tr.rs ?_
  refine LAt.runU tOk 2 (by kernel_rfl) ?_
  refine LAt.doneU [10, 1, 4] [] (by kernel_rfl) ?_
  refine Tr.to ⟨12, 0, [(10, .val false [.lit (.bool (decide ((IntKind.wrap .i64 (x1 - (x0.length : Int))) < 0)))]), (1, .val false [.lit (.int .i64 (IntKind.wrap .i64 (x1 - (x0.length : Int))))]), (4, .val false [.lit (.int .i64 0)])], []⟩ (by kernel_rfl) ?_
  cases h1 : (decide ((IntKind.wrap .i64 (x1 - (x0.length : Int))) < 0))
  · have H := bifF h1 H
    refine Tr.cond (b := false) (by kernel_rfl) (fun h => nomatch h) (fun _ => ?_)
    refine Tr.skip ?_
    show Tr _ _ _ _ _
    refine Tr.rs ?_
    refine LAt.runU tOk 2 (by kernel_rfl) ?_
    refine LAt.doneU [4] [] (by kernel_rfl) ?_
    refine Tr.ret ?_
    have H := Option.some.inj H
    subst H
    exact Fin.of _ [(false, [.lit (.int .i64 (IntKind.wrap .i64 (x1 - (x0.length : Int))))])] (by kernel_rfl) rfl rfl
  · have H := bifT h1 H
    refine Tr.cond (b := true) (by kernel_rfl) (fun _ => ?_) (fun h => nomatch h)
    refine Tr.rs ?_
    refine LAt.runU tOk 1 (by kernel_rfl) ?_
    refine LAt.doneU [4, 1] [] (by kernel_rfl) ?_
    refine Tr.ret ?_
    have H := Option.some.inj H
    subst H
    exact Fin.of _ [(false, [.lit (.int .i64 (-1))])] (by kernel_rfl) rfl rfl

def laws_szSaySF (n : Nat) (x0 : (List Say)) (x1 : Int) : Option (Int) :=
  (bif (decide ((IntKind.wrap .i64 (x1 - (x0.length : Int))) < 0)) then (some (-1)) else (some (IntKind.wrap .i64 (x1 - (x0.length : Int)))))
/-- loop.example/g00326/laws.szSayS -/
theorem laws_szSayS (n : Nat) (x0 : (List Say)) (x1 : Int) (r : Int) (H : laws_szSaySF n x0 x1 = some r) : LCall Try.prog 64 [.val false [.sl false 7 (CV.frzEs (x0.map Say.row))], .val false [.lit (.int .i64 x1)]] [.val false [.lit (.int .i64 r)]] [] := by
  refine LCall.of_body tOk Try.func64 rfl (c := (.seq (.region 0 (rg Try.f64 0) false) (.seq (.region 1 (rg Try.f64 1) false) (.seq (.seq (.region 2 (rg Try.f64 2) false) (.cond (.tmp 10) (.seq (.region 3 (rg Try.f64 3) false) .ret) .skip)) (.seq (.region 4 (rg Try.f64 4) false) .ret))))) (by kernel_rfl) (Nat.le_of_ble_eq_true (by kernel_rfl)) 0 (rs := [.tmp 4]) rfl [] .nil [(false, [.lit (.int .i64 r)])] [] [] fun cx => ?_
  show Tr _ _ _ ⟨12, 0, [(0, .val false [.sl false 7 (CV.frzEs (x0.map Say.row))]), (1, .val false [.lit (.int .i64 x1)])], []⟩ _
  unfold laws_szSaySF at H
  refine Tr.rs ?_
  refine LAt.runU tOk 1 (by kernel_rfl) ?_
  refine LAt.doneU [4, 0, 1] [] (by kernel_rfl) ?_
  refine Tr.rs ?_
  refine LAt.runU tOk 2 (by kernel_rfl) ?_
  refine LAt.lenE tOk (t := 24) (ty := 3) (e := 149) (x := (.tmp 6)) (d := 7) (g := none) ⟨(.slot 6), [], 0, false, 7, (CV.frzEs (x0.map Say.row))⟩ (x0).length _ (by kernel_rfl) (by kernel_rfl) (by kernel_rfl) (by kernel_rfl) (by kernel_rfl) (frz_len _ _) rfl ?_
  refine LAt.runU tOk 2 (by kernel_rfl) ?_
  refine LAt.doneU [1, 4] [] (by kernel_rfl) ?_
  refine Tr.seq ?_
  refine Tr.rs ?_
  refine LAt.runU tOk 2 (by kernel_rfl) ?_
  refine LAt.doneU [10, 1, 4] [] (by kernel_rfl) ?_
  refine Tr.to ⟨12, 0, [(10, .val false [.lit (.bool (decide ((IntKind.wrap .i64 (x1 - (x0.length : Int))) < 0)))]), (1, .val false [.lit (.int .i64 (IntKind.wrap .i64 (x1 - (x0.length : Int))))]), (4, .val false [.lit (.int .i64 0)])], []⟩ (by kernel_rfl) ?_
  cases h1 : (decide ((IntKind.wrap .i64 (x1 - (x0.length : Int))) < 0))
  · have H := bifF h1 H
    refine Tr.cond (b := false) (by kernel_rfl) (fun h => nomatch h) (fun _ => ?_)
    refine Tr.skip ?_
    show Tr _ _ _ _ _
    refine Tr.rs ?_
    refine LAt.runU tOk 2 (by kernel_rfl) ?_
    refine LAt.doneU [4] [] (by kernel_rfl) ?_
    refine Tr.ret ?_
    have H := Option.some.inj H
    subst H
    exact Fin.of _ [(false, [.lit (.int .i64 (IntKind.wrap .i64 (x1 - (x0.length : Int))))])] (by kernel_rfl) rfl rfl
  · have H := bifT h1 H
    refine Tr.cond (b := true) (by kernel_rfl) (fun _ => ?_) (fun h => nomatch h)
    refine Tr.rs ?_
    refine LAt.runU tOk 1 (by kernel_rfl) ?_
    refine LAt.doneU [4, 1] [] (by kernel_rfl) ?_
    refine Tr.ret ?_
    have H := Option.some.inj H
    subst H
    exact Fin.of _ [(false, [.lit (.int .i64 (-1))])] (by kernel_rfl) rfl rfl

def laws_szNetF (n : Nat) (x0 : Net) (x1 : Int) : Option (Int) :=
  ((laws_szBridgeSF n x0.Bridges x1).bind fun r1 => (bif (decide (r1 < 0)) then (some (-1)) else ((laws_szLinkSF n x0.Links r1).bind fun r2 => (bif (decide (r2 < 0)) then (some (-1)) else ((laws_szSaySF n x0.Said r2).bind fun r3 => (bif (decide (r3 < 0)) then (some (-1)) else (some r3)))))))
/-- loop.example/g00326/laws.szNet -/
theorem laws_szNet (n : Nat) (x0 : Net) (x1 : Int) (r : Int) (H : laws_szNetF n x0 x1 = some r) : LCall Try.prog 15 [.val true (CV.frzRow (Net.row x0)), .val false [.lit (.int .i64 x1)]] [.val false [.lit (.int .i64 r)]] [] := by
  refine LCall.of_body tOk Try.func15 rfl (c := (.seq (.region 0 (rg Try.f15 0) false) (.seq (.region 1 (rg Try.f15 1) false) (.seq (.seq (.region 2 (rg Try.f15 2) false) (.cond (.tmp 10) (.seq (.region 3 (rg Try.f15 3) false) .ret) .skip)) (.seq (.region 4 (rg Try.f15 4) false) (.seq (.seq (.region 5 (rg Try.f15 5) false) (.cond (.tmp 16) (.seq (.region 6 (rg Try.f15 6) false) .ret) .skip)) (.seq (.region 7 (rg Try.f15 7) false) (.seq (.seq (.region 8 (rg Try.f15 8) false) (.cond (.tmp 22) (.seq (.region 9 (rg Try.f15 9) false) .ret) .skip)) (.seq (.region 10 (rg Try.f15 10) false) .ret))))))))) (by kernel_rfl) (Nat.le_of_ble_eq_true (by kernel_rfl)) 0 (rs := [.tmp 4]) rfl [] .nil [(false, [.lit (.int .i64 r)])] [] [] fun cx => ?_
  show Tr _ _ _ ⟨24, 0, [(0, .val true (CV.frzRow (Net.row x0))), (1, .val false [.lit (.int .i64 x1)])], []⟩ _
  unfold laws_szNetF at H
  refine Tr.rs ?_
  refine LAt.runU tOk 2 (by kernel_rfl) ?_
  refine LAt.doneU [4, 2, 1] [2] (by kernel_rfl) ?_
  refine Tr.rs ?_
  refine LAt.runU tOk 3 (by kernel_rfl) ?_
  obtain ⟨r1, er1, H⟩ := bind_some H
  refine LAt.callU tOk [.rd, .rd] (f := 62) (av := #[.tmp 6, .tmp 7]) (ats := #[22, 3]) (d := (some 8)) (ty := 3) (g := none) (by kernel_rfl) (by kernel_rfl) (by kernel_rfl) [] (laws_szBridgeS n x0.Bridges x1 r1 er1) (by kernel_rfl) (.inl rfl) ?_
  refine LAt.runU tOk 1 (by kernel_rfl) ?_
  refine LAt.doneU [1, 4, 2] [2] (by kernel_rfl) ?_
  refine Tr.seq ?_
  refine Tr.rs ?_
  refine LAt.runU tOk 2 (by kernel_rfl) ?_
  refine LAt.doneU [10, 1, 4, 2] [2] (by kernel_rfl) ?_
  refine Tr.to ⟨24, 0, [(10, .val false [.lit (.bool (decide (r1 < 0)))]), (1, .val false [.lit (.int .i64 r1)]), (4, .val false [.lit (.int .i64 0)]), (2, .adr (.box 2) [(0, 0)] 3 0)], [(2, (CV.frzRow (Net.row x0)))]⟩ (by kernel_rfl) ?_
  cases h1 : (decide (r1 < 0))
  · have H := bifF h1 H
    refine Tr.cond (b := false) (by kernel_rfl) (fun h => nomatch h) (fun _ => ?_)
    refine Tr.skip ?_
    show Tr _ _ _ _ _
    refine Tr.rs ?_
    refine LAt.runU tOk 3 (by kernel_rfl) ?_
    obtain ⟨r2, er2, H⟩ := bind_some H
    refine LAt.callU tOk [.rd, .rd] (f := 63) (av := #[.tmp 12, .tmp 13]) (ats := #[23, 3]) (d := (some 14)) (ty := 3) (g := none) (by kernel_rfl) (by kernel_rfl) (by kernel_rfl) [] (laws_szLinkS n x0.Links r1 r2 er2) (by kernel_rfl) (.inl rfl) ?_
    refine LAt.runU tOk 1 (by kernel_rfl) ?_
    refine LAt.doneU [1, 4, 2] [2] (by kernel_rfl) ?_
    refine Tr.seq ?_
    refine Tr.rs ?_
    refine LAt.runU tOk 2 (by kernel_rfl) ?_
    refine LAt.doneU [16, 1, 4, 2] [2] (by kernel_rfl) ?_
    refine Tr.to ⟨24, 0, [(16, .val false [.lit (.bool (decide (r2 < 0)))]), (1, .val false [.lit (.int .i64 r2)]), (4, .val false [.lit (.int .i64 0)]), (2, .adr (.box 2) [(0, 0)] 3 0)], [(2, (CV.frzRow (Net.row x0)))]⟩ (by kernel_rfl) ?_
    cases h2 : (decide (r2 < 0))
    · have H := bifF h2 H
      refine Tr.cond (b := false) (by kernel_rfl) (fun h => nomatch h) (fun _ => ?_)
      refine Tr.skip ?_
      show Tr _ _ _ _ _
      refine Tr.rs ?_
      refine LAt.runU tOk 3 (by kernel_rfl) ?_
      obtain ⟨r3, er3, H⟩ := bind_some H
      refine LAt.callU tOk [.rd, .rd] (f := 64) (av := #[.tmp 18, .tmp 19]) (ats := #[24, 3]) (d := (some 20)) (ty := 3) (g := none) (by kernel_rfl) (by kernel_rfl) (by kernel_rfl) [] (laws_szSayS n x0.Said r2 r3 er3) (by kernel_rfl) (.inl rfl) ?_
      refine LAt.runU tOk 1 (by kernel_rfl) ?_
      refine LAt.doneU [1, 4] [] (by kernel_rfl) ?_
      refine Tr.seq ?_
      refine Tr.rs ?_
      refine LAt.runU tOk 2 (by kernel_rfl) ?_
      refine LAt.doneU [22, 1, 4] [] (by kernel_rfl) ?_
      refine Tr.to ⟨24, 0, [(22, .val false [.lit (.bool (decide (r3 < 0)))]), (1, .val false [.lit (.int .i64 r3)]), (4, .val false [.lit (.int .i64 0)])], []⟩ (by kernel_rfl) ?_
      cases h3 : (decide (r3 < 0))
      · have H := bifF h3 H
        refine Tr.cond (b := false) (by kernel_rfl) (fun h => nomatch h) (fun _ => ?_)
        refine Tr.skip ?_
        show Tr _ _ _ _ _
        refine Tr.rs ?_
        refine LAt.runU tOk 2 (by kernel_rfl) ?_
        refine LAt.doneU [4] [] (by kernel_rfl) ?_
        refine Tr.ret ?_
        have H := Option.some.inj H
        subst H
        exact Fin.of _ [(false, [.lit (.int .i64 r3)])] (by kernel_rfl) rfl rfl
      · have H := bifT h3 H
        refine Tr.cond (b := true) (by kernel_rfl) (fun _ => ?_) (fun h => nomatch h)
        refine Tr.rs ?_
        refine LAt.runU tOk 1 (by kernel_rfl) ?_
        refine LAt.doneU [4, 1] [] (by kernel_rfl) ?_
        refine Tr.ret ?_
        have H := Option.some.inj H
        subst H
        exact Fin.of _ [(false, [.lit (.int .i64 (-1))])] (by kernel_rfl) rfl rfl
    · have H := bifT h2 H
      refine Tr.cond (b := true) (by kernel_rfl) (fun _ => ?_) (fun h => nomatch h)
      refine Tr.rs ?_
      refine LAt.runU tOk 1 (by kernel_rfl) ?_
      refine LAt.doneU [4, 1, 2] [2] (by kernel_rfl) ?_
      refine Tr.ret ?_
      have H := Option.some.inj H
      subst H
      exact Fin.of _ [(false, [.lit (.int .i64 (-1))])] (by kernel_rfl) rfl rfl
  · have H := bifT h1 H
    refine Tr.cond (b := true) (by kernel_rfl) (fun _ => ?_) (fun h => nomatch h)
    refine Tr.rs ?_
    refine LAt.runU tOk 1 (by kernel_rfl) ?_
    refine LAt.doneU [4, 1, 2] [2] (by kernel_rfl) ?_
    refine Tr.ret ?_
    have H := Option.some.inj H
    subst H
    exact Fin.of _ [(false, [.lit (.int .i64 (-1))])] (by kernel_rfl) rfl rfl

def laws_toVecF (n : Nat) (x0 : Vec) : Option (Vec) :=
  (some x0)
/-- loop.example/g00326/laws.toVec -/
theorem laws_toVec (n : Nat) (x0 : Vec) (r : Vec) (H : laws_toVecF n x0 = some r) : LCall Try.prog 43 [.val true (CV.frzRow (Vec.row x0))] [.val true (Vec.row r)] [] := by
  refine LCall.of_body tOk Try.func43 rfl (c := (.seq (.region 0 (rg Try.f43 0) false) (.seq (.region 1 (rg Try.f43 1) false) (.seq (.region 2 (rg Try.f43 2) false) (.seq (.region 3 (rg Try.f43 3) false) (.seq (.region 4 (rg Try.f43 4) false) (.seq (.region 5 (rg Try.f43 5) false) (.seq (.region 6 (rg Try.f43 6) false) (.seq (.region 7 (rg Try.f43 7) false) .ret))))))))) (by kernel_rfl) (Nat.le_of_ble_eq_true (by kernel_rfl)) 0 (rs := [.cell 2 70]) rfl [] .nil [(true, (Vec.row r))] [] [] fun cx => ?_
  show Tr _ _ _ ⟨20, 0, [(0, .val true (Vec.row x0))], []⟩ _
  unfold laws_toVecF at H
  refine Tr.rs ?_
  refine LAt.runU tOk 2 (by kernel_rfl) ?_
  refine LAt.doneU [2, 1] [2, 1] (by kernel_rfl) ?_
  refine Tr.rs ?_
  refine LAt.runU tOk 1 (by kernel_rfl) ?_
  refine LAt.doneU [3, 2, 1] [3, 2, 1] (by kernel_rfl) ?_
  refine Tr.rs ?_
  refine LAt.runU tOk 4 (by kernel_rfl) ?_
  refine LAt.doneU [3, 2, 1] [3, 2, 1] (by kernel_rfl) ?_
  refine Tr.rs ?_
  refine LAt.runU tOk 4 (by kernel_rfl) ?_
  refine LAt.doneU [3, 2, 1] [3, 2, 1] (by kernel_rfl) ?_
  refine Tr.rs ?_
  refine LAt.runU tOk 4 (by kernel_rfl) ?_
  refine LAt.doneU [3, 2, 1] [3, 2, 1] (by kernel_rfl) ?_
  refine Tr.rs ?_
  refine LAt.runU tOk 4 (by kernel_rfl) ?_
  refine LAt.doneU [3, 2, 1] [3, 2, 1] (by kernel_rfl) ?_
  refine Tr.rs ?_
  refine LAt.runU tOk 4 (by kernel_rfl) ?_
  refine LAt.doneU [3, 2] [3, 2] (by kernel_rfl) ?_
  refine Tr.rs ?_
  refine LAt.runU tOk 2 (by kernel_rfl) ?_
  refine LAt.doneU [2] [2] (by kernel_rfl) ?_
  refine Tr.ret ?_
  have H := Option.some.inj H
  subst H
  exact Fin.of _ [(true, (Vec.row x0))] (by kernel_rfl) rfl rfl

def laws_toPtF (n : Nat) (x0 : Pt) : Option (Pt) :=
  ((laws_toVecF n x0.Heard).bind fun r1 => (some (⟨x0.Up, x0.Cost, x0.Has, r1⟩ : Pt)))
/-- loop.example/g00326/laws.toPt -/
theorem laws_toPt (n : Nat) (x0 : Pt) (r : Pt) (H : laws_toPtF n x0 = some r) : LCall Try.prog 155 [.val true (CV.frzRow (Pt.row x0))] [.val true (Pt.row r)] [] := by
  refine LCall.of_body tOk Try.func155 rfl (c := (.seq (.region 0 (rg Try.f155 0) false) (.seq (.region 1 (rg Try.f155 1) false) (.seq (.region 2 (rg Try.f155 2) false) (.seq (.region 3 (rg Try.f155 3) false) (.seq (.region 4 (rg Try.f155 4) false) (.seq (.region 5 (rg Try.f155 5) false) (.seq (.region 6 (rg Try.f155 6) false) .ret)))))))) (by kernel_rfl) (Nat.le_of_ble_eq_true (by kernel_rfl)) 0 (rs := [.cell 2 114]) rfl [] .nil [(true, (Pt.row r))] [] [] fun cx => ?_
  show Tr _ _ _ ⟨18, 0, [(0, .val true (Pt.row x0))], []⟩ _
  unfold laws_toPtF at H
  refine Tr.rs ?_
  refine LAt.runU tOk 2 (by kernel_rfl) ?_
  refine LAt.doneU [2, 1] [2, 1] (by kernel_rfl) ?_
  refine Tr.rs ?_
  refine LAt.runU tOk 1 (by kernel_rfl) ?_
  refine LAt.doneU [3, 2, 1] [3, 2, 1] (by kernel_rfl) ?_
  refine Tr.rs ?_
  refine LAt.runU tOk 4 (by kernel_rfl) ?_
  refine LAt.doneU [3, 2, 1] [3, 2, 1] (by kernel_rfl) ?_
  refine Tr.rs ?_
  refine LAt.runU tOk 4 (by kernel_rfl) ?_
  refine LAt.doneU [3, 2, 1] [3, 2, 1] (by kernel_rfl) ?_
  refine Tr.rs ?_
  refine LAt.runU tOk 4 (by kernel_rfl) ?_
  refine LAt.doneU [3, 2, 1] [3, 2, 1] (by kernel_rfl) ?_
  refine Tr.rs ?_
  refine LAt.runU tOk 2 (by kernel_rfl) ?_
  obtain ⟨r1, er1, H⟩ := bind_some H
  refine LAt.callU tOk [.rd] (f := 43) (av := #[.tmp 14]) (ats := #[68]) (d := (some 15)) (ty := 70) (g := none) (by kernel_rfl) (by kernel_rfl) (by kernel_rfl) [] (laws_toVec n x0.Heard r1 er1) (by kernel_rfl) (.inl rfl) ?_
  refine LAt.runU tOk 2 (by kernel_rfl) ?_
  refine LAt.doneU [3, 2] [3, 2] (by kernel_rfl) ?_
  refine Tr.rs ?_
  refine LAt.runU tOk 2 (by kernel_rfl) ?_
  refine LAt.doneU [2] [2] (by kernel_rfl) ?_
  refine Tr.ret ?_
  have H := Option.some.inj H
  subst H
  exact Fin.of _ [(true, [.lit (.bool x0.Up), .lit (.int .i64 x0.Cost), .lit (.bool x0.Has), .lit (.int .i64 r1.Root), .lit (.int .i64 r1.Cost), .lit (.int .i64 r1.Hops), .lit (.int .i64 r1.Bridge), .lit (.int .i64 r1.Port)])] (by kernel_rfl) rfl rfl

def laws_toPtS_J1 (n : Nat) (y4 : (List Pt)) : Option ((List Pt)) :=
  (some y4)
def laws_toPtS_L2 (n : Nat) : Nat → (List Pt) → Int → (List Pt) → Option (((List Pt)) ⊕ ((List Pt)))
  | 0, _, _, _ => none
  | mo5 + 1, x0, y2, y3 => (bif (decide (y2 < (x0.length : Int))) then ((idx x0 y2).bind fun v6 => ((laws_toPtF n v6).bind fun r7 => ((idx y3 y2).bind fun v8 => (laws_toPtS_L2 n mo5 x0 (IntKind.wrap .i64 (y2 + 1)) (y3.set (y2.toNat) r7))))) else (some (Sum.inl y3)))
def laws_toPtSF (n : Nat) (x0 : (List Pt)) : Option ((List Pt)) :=
  (bif (decide (0 ≤ (x0.length : Int)) && decide ((x0.length : Int) ≤ 268435456)) then ((laws_toPtS_L2 n n x0 0 (List.replicate ((x0.length : Int)).toNat (⟨false, 0, false, (⟨0, 0, 0, 0, 0⟩ : Vec)⟩ : Pt))).bind fun o => match o with | .inl y4 => (laws_toPtS_J1 n y4) | .inr r => some r) else none)
/-- loop.example/g00326/laws.toPtS -/
theorem laws_toPtS (n : Nat) (x0 : (List Pt)) (r : (List Pt)) (H : laws_toPtSF n x0 = some r) : LCall Try.prog 100 [.val false [.sl false 8 (CV.frzEs (x0.map Pt.row))]] [.val false [.sl true 8 (r.map Pt.row)]] [] := by
  refine LCall.of_body tOk Try.func100 rfl (c := (.seq (.region 0 (rg Try.f100 0) false) (.seq (.region 1 (rg Try.f100 1) false) (.seq (.seq (.region 2 (rg Try.f100 2) false) (.block 0 (.loop (.seq (.seq (.region 3 (rg Try.f100 3) false) (.cond (.tmp 11) .skip (.exit 0))) (.seq (.block 1 (.region 5 (rg Try.f100 5) false)) (.region 4 (rg Try.f100 4) false)))))) (.seq (.region 6 (rg Try.f100 6) false) .ret))))) (by kernel_rfl) (Nat.le_of_ble_eq_true (by kernel_rfl)) 0 (rs := [.tmp 2]) rfl [] .nil [(false, [.sl true 8 (r.map Pt.row)])] [] [] fun cx => ?_
  show Tr _ _ _ ⟨23, 0, [(0, .val false [.sl false 8 (CV.frzEs (x0.map Pt.row))])], []⟩ _
  unfold laws_toPtSF at H
  refine Tr.rs ?_
  refine LAt.runU tOk 1 (by kernel_rfl) ?_
  refine LAt.doneU [2, 0] [] (by kernel_rfl) ?_
  refine Tr.rs ?_
  refine LAt.runU tOk 1 (by kernel_rfl) ?_
  refine LAt.lenE tOk (t := 47) (ty := 3) (e := 169) (x := (.tmp 5)) (d := 6) (g := none) ⟨(.slot 5), [], 0, false, 8, (CV.frzEs (x0.map Pt.row))⟩ (x0).length _ (by kernel_rfl) (by kernel_rfl) (by kernel_rfl) (by kernel_rfl) (by kernel_rfl) (frz_len _ _) rfl ?_
  obtain ⟨hg1, H⟩ := guard_some H
  refine LAt.makeG tOk (t := 55) (ty := 55) (e := 114) (x := (.tmp 6)) (d := 7) (g := none) ⟨.st [(0, 1, 4), (1, 1, 3), (2, 1, 4), (3, 5, 70)], 8, 64, [.lit (.bool false), .lit (.int .i64 0), .lit (.bool false), .lit (.int .i64 0), .lit (.int .i64 0), .lit (.int .i64 0), .lit (.int .i64 0), .lit (.int .i64 0)]⟩ (x0.length : Int) ((List.replicate ((x0.length : Int)).toNat (⟨false, 0, false, (⟨0, 0, 0, 0, 0⟩ : Vec)⟩ : Pt)).map Pt.row) _ (by kernel_rfl) (by kernel_rfl) (by kernel_rfl) (by kernel_rfl) (by kernel_rfl) (by kernel_rfl) hg1 (by kernel_rfl) (rep_map _ rfl) rfl ?_
  refine LAt.moveU (T := lk tab) (ty := 55) (x := (.tmp 7)) (d := 3) (g := none) false [.sl true 8 ((List.replicate ((x0.length : Int)).toNat (⟨false, 0, false, (⟨0, 0, 0, 0, 0⟩ : Vec)⟩ : Pt)).map Pt.row)] (by kernel_rfl) (by kernel_rfl) (by kernel_rfl) (by kernel_rfl) (by kernel_rfl) ?_
  refine LAt.doneU [3, 2, 0] [] (by kernel_rfl) ?_
  refine Tr.seq ?_
  refine Tr.rs ?_
  refine LAt.runU tOk 1 (by kernel_rfl) ?_
  refine LAt.doneU [4, 3, 2, 0] [] (by kernel_rfl) ?_
  obtain ⟨o5, eo5, Ho5⟩ := bind_some H
  clear H
  refine Tr.mid (ι := (List Pt)) (fun v => ⟨23, 0, [(3, .val false [.sl true 8 (v.map Pt.row)]), (2, .val false [.sl true 8 (([] : List Pt).map Pt.row)])], []⟩) (fun v => laws_toPtS_J1 n v = some r) ?_ ?_
  · refine Tr.block ?_
    refine Tr.loop (ι := Nat × (Int × (List Pt))) (fun v => ⟨23, 0, [(4, .val false [.lit (.int .i64 v.2.1)]), (3, .val false [.sl true 8 (v.2.2.map Pt.row)]), (2, .val false [.sl true 8 (([] : List Pt).map Pt.row)]), (0, .val false [.sl false 8 (CV.frzEs (x0.map Pt.row))])], []⟩) (fun v => laws_toPtS_L2 n v.1 x0 v.2.1 v.2.2 = some o5) (fun v => v.1) (n, (0, (List.replicate ((x0.length : Int)).toNat (⟨false, 0, false, (⟨0, 0, 0, 0, 0⟩ : Vec)⟩ : Pt)))) eo5 (St.sub_of [4, 3, 2, 0] [] (by kernel_rfl)) ?_
    rintro ⟨mo5, y2, y3⟩ H
    have H : laws_toPtS_L2 n mo5 x0 y2 y3 = some o5 := H
    obtain _ | mo5 := mo5
    · cases (show (none : Option _) = some o5 from H)
    · rw [laws_toPtS_L2] at H
      refine Tr.seq ?_
      refine Tr.rs ?_
      refine LAt.runU tOk 2 (by kernel_rfl) ?_
      refine LAt.lenE tOk (t := 47) (ty := 3) (e := 169) (x := (.tmp 9)) (d := 10) (g := none) ⟨(.slot 9), [], 0, false, 8, (CV.frzEs (x0.map Pt.row))⟩ (x0).length _ (by kernel_rfl) (by kernel_rfl) (by kernel_rfl) (by kernel_rfl) (by kernel_rfl) (frz_len _ _) rfl ?_
      refine LAt.runU tOk 1 (by kernel_rfl) ?_
      refine LAt.doneU [11, 10, 9, 8, 4, 3, 2, 0] [] (by kernel_rfl) ?_
      refine Tr.to ⟨23, 0, [(11, .val false [.lit (.bool (decide (y2 < (x0.length : Int))))]), (10, .val false [.lit (.int .i64 (x0.length : Int))]), (9, .val false [.sl false 8 (CV.frzEs (x0.map Pt.row))]), (8, .val false [.lit (.int .i64 y2)]), (4, .val false [.lit (.int .i64 y2)]), (3, .val false [.sl true 8 (y3.map Pt.row)]), (2, .val false [.sl true 8 (([] : List Pt).map Pt.row)]), (0, .val false [.sl false 8 (CV.frzEs (x0.map Pt.row))])], []⟩ (by kernel_rfl) ?_
      cases h1 : (decide (y2 < (x0.length : Int)))
      · have H := bifF h1 H
        refine Tr.cond (b := false) (by kernel_rfl) (fun h => nomatch h) (fun _ => ?_)
        refine Tr.exit ?_
        refine And.intro (fun _ => ?_) (fun h => absurd rfl h)
        have H := Option.some.inj H
        subst H
        have H := Ho5
        dsimp only at H
        exact Exists.intro y3 (And.intro H (St.sub_of [3, 2] [] (by kernel_rfl)))
      · have H := bifT h1 H
        refine Tr.cond (b := true) (by kernel_rfl) (fun _ => ?_) (fun h => nomatch h)
        refine Tr.skip ?_
        show Tr _ _ _ _ _
        refine Tr.seq ?_
        refine Tr.block ?_
        refine Tr.at ?_
        refine LAt.runU tOk 4 (by kernel_rfl) ?_
        obtain ⟨v6, ev6, H⟩ := bind_some H
        refine LAt.indexF tOk (t := 47) (ty := 0) (x := (.tmp 16)) (y := (.tmp 17)) (d := 18) (g := none) ⟨(.slot 16), [], 0, false, 8, (CV.frzEs (x0.map Pt.row))⟩ y2 (Pt.row v6) _ (by kernel_rfl) (by kernel_rfl) (by kernel_rfl) (by kernel_rfl) rfl (idx_isF ev6) rfl ?_
        refine LAt.runU tOk 1 (by kernel_rfl) ?_
        obtain ⟨r7, er7, H⟩ := bind_some H
        refine LAt.callU tOk [.rd] (f := 155) (av := #[.tmp 19]) (ats := #[169]) (d := (some 20)) (ty := 114) (g := none) (by kernel_rfl) (by kernel_rfl) (by kernel_rfl) [] (laws_toPt n v6 r7 er7) (by kernel_rfl) (.inl rfl) ?_
        obtain ⟨v8, ev8, H⟩ := bind_some H
        refine LAt.indexO tOk (t := 55) (ty := 0) (x := (.tmp 14)) (y := (.tmp 15)) (d := 21) (g := none) ⟨(.slot 3), [], 0, true, 8, (y3.map Pt.row)⟩ y2 (y2.toNat) (Pt.row v8) _ (by kernel_rfl) (by kernel_rfl) (by kernel_rfl) (by kernel_rfl) rfl (by kernel_rfl) (idx_isE ev8) rfl rfl ?_
        refine LAt.storeK tOk (t := 114) (ty := 0) (ad := (.tmp 21)) (x := (.tmp 20)) (g := none) ⟨.st [(0, 1, 4), (1, 1, 3), (2, 1, 4), (3, 5, 70)], 8, 64, [.lit (.bool false), .lit (.int .i64 0), .lit (.bool false), .lit (.int .i64 0), .lit (.int .i64 0), .lit (.int .i64 0), .lit (.int .i64 0), .lit (.int .i64 0)]⟩ true (Pt.row r7) (.slot 3) [(0, (y2.toNat))] [(0, (y2.toNat))] 8 0 [.sl true 8 (y3.map Pt.row)] (Pt.row v8) [.sl true 8 (y3.map Pt.row)] [.sl true 8 ((y3.set (y2.toNat) r7).map Pt.row)] (by kernel_rfl) (by kernel_rfl) (by kernel_rfl) (by kernel_rfl) (by kernel_rfl) (by kernel_rfl) (getQ_elem rfl (idx_get ev8).2) rfl (by intro h; cases h) (by kernel_rfl) (by kernel_rfl) (by kernel_rfl) (modQ_elem (new := r7) rfl (idx_get ev8).2 rfl) (by kernel_rfl) ?_
        refine LAt.doneU [3, 21, 20, 19, 18, 17, 16, 15, 11, 10, 9, 8, 4, 2, 0, 14] [] (by kernel_rfl) ?_
        show Tr _ _ _ _ _
        refine Tr.at ?_
        refine LAt.runU tOk 3 (by kernel_rfl) ?_
        refine LAt.doneU [4, 13, 12, 3, 21, 20, 19, 18, 17, 16, 15, 11, 10, 9, 8, 2, 0, 14] [] (by kernel_rfl) ?_
        exact Exists.intro (mo5, ((IntKind.wrap .i64 (y2 + 1)), (y3.set (y2.toNat) r7))) (And.intro H (And.intro (Nat.lt_succ_self mo5) (St.sub_of [4, 3, 2, 0] [] (by kernel_rfl))))
  · rintro y4 H
    have H : (laws_toPtS_J1 n y4) = some r := H
    unfold laws_toPtS_J1 at H
    show Tr _ _ _ _ _
    refine Tr.rs ?_
    refine LAt.runU tOk 2 (by kernel_rfl) ?_
    refine LAt.doneU [2, 3] [] (by kernel_rfl) ?_
    refine Tr.ret ?_
    have H := Option.some.inj H
    subst H
    exact Fin.of _ [(false, [.sl true 8 (y4.map Pt.row)])] (by kernel_rfl) rfl rfl

def laws_toFentF (n : Nat) (x0 : Fent) : Option (Fent) :=
  (some x0)
/-- loop.example/g00326/laws.toFent -/
theorem laws_toFent (n : Nat) (x0 : Fent) (r : Fent) (H : laws_toFentF n x0 = some r) : LCall Try.prog 156 [.val true (CV.frzRow (Fent.row x0))] [.val true (Fent.row r)] [] := by
  refine LCall.of_body tOk Try.func156 rfl (c := (.seq (.region 0 (rg Try.f156 0) false) (.seq (.region 1 (rg Try.f156 1) false) (.seq (.region 2 (rg Try.f156 2) false) (.seq (.region 3 (rg Try.f156 3) false) (.seq (.region 4 (rg Try.f156 4) false) (.seq (.region 5 (rg Try.f156 5) false) (.seq (.region 6 (rg Try.f156 6) false) (.seq (.region 7 (rg Try.f156 7) false) .ret))))))))) (by kernel_rfl) (Nat.le_of_ble_eq_true (by kernel_rfl)) 0 (rs := [.cell 2 141]) rfl [] .nil [(true, (Fent.row r))] [] [] fun cx => ?_
  show Tr _ _ _ ⟨20, 0, [(0, .val true (Fent.row x0))], []⟩ _
  unfold laws_toFentF at H
  refine Tr.rs ?_
  refine LAt.runU tOk 2 (by kernel_rfl) ?_
  refine LAt.doneU [2, 1] [2, 1] (by kernel_rfl) ?_
  refine Tr.rs ?_
  refine LAt.runU tOk 1 (by kernel_rfl) ?_
  refine LAt.doneU [3, 2, 1] [3, 2, 1] (by kernel_rfl) ?_
  refine Tr.rs ?_
  refine LAt.runU tOk 4 (by kernel_rfl) ?_
  refine LAt.doneU [3, 2, 1] [3, 2, 1] (by kernel_rfl) ?_
  refine Tr.rs ?_
  refine LAt.runU tOk 4 (by kernel_rfl) ?_
  refine LAt.doneU [3, 2, 1] [3, 2, 1] (by kernel_rfl) ?_
  refine Tr.rs ?_
  refine LAt.runU tOk 4 (by kernel_rfl) ?_
  refine LAt.doneU [3, 2, 1] [3, 2, 1] (by kernel_rfl) ?_
  refine Tr.rs ?_
  refine LAt.runU tOk 4 (by kernel_rfl) ?_
  refine LAt.doneU [3, 2, 1] [3, 2, 1] (by kernel_rfl) ?_
  refine Tr.rs ?_
  refine LAt.runU tOk 4 (by kernel_rfl) ?_
  refine LAt.doneU [3, 2] [3, 2] (by kernel_rfl) ?_
  refine Tr.rs ?_
  refine LAt.runU tOk 2 (by kernel_rfl) ?_
  refine LAt.doneU [2] [2] (by kernel_rfl) ?_
  refine Tr.ret ?_
  have H := Option.some.inj H
  subst H
  exact Fin.of _ [(true, (Fent.row x0))] (by kernel_rfl) rfl rfl

def laws_toFentS_J1 (n : Nat) (y4 : (List Fent)) : Option ((List Fent)) :=
  (some y4)
def laws_toFentS_L2 (n : Nat) : Nat → (List Fent) → Int → (List Fent) → Option (((List Fent)) ⊕ ((List Fent)))
  | 0, _, _, _ => none
  | mo5 + 1, x0, y2, y3 => (bif (decide (y2 < (x0.length : Int))) then ((idx x0 y2).bind fun v6 => ((laws_toFentF n v6).bind fun r7 => ((idx y3 y2).bind fun v8 => (laws_toFentS_L2 n mo5 x0 (IntKind.wrap .i64 (y2 + 1)) (y3.set (y2.toNat) r7))))) else (some (Sum.inl y3)))
def laws_toFentSF (n : Nat) (x0 : (List Fent)) : Option ((List Fent)) :=
  (bif (decide (0 ≤ (x0.length : Int)) && decide ((x0.length : Int) ≤ 268435456)) then ((laws_toFentS_L2 n n x0 0 (List.replicate ((x0.length : Int)).toNat (⟨0, 0, 0, 0, false⟩ : Fent))).bind fun o => match o with | .inl y4 => (laws_toFentS_J1 n y4) | .inr r => some r) else none)
/-- loop.example/g00326/laws.toFentS -/
theorem laws_toFentS (n : Nat) (x0 : (List Fent)) (r : (List Fent)) (H : laws_toFentSF n x0 = some r) : LCall Try.prog 101 [.val false [.sl false 5 (CV.frzEs (x0.map Fent.row))]] [.val false [.sl true 5 (r.map Fent.row)]] [] := by
  refine LCall.of_body tOk Try.func101 rfl (c := (.seq (.region 0 (rg Try.f101 0) false) (.seq (.region 1 (rg Try.f101 1) false) (.seq (.seq (.region 2 (rg Try.f101 2) false) (.block 0 (.loop (.seq (.seq (.region 3 (rg Try.f101 3) false) (.cond (.tmp 11) .skip (.exit 0))) (.seq (.block 1 (.region 5 (rg Try.f101 5) false)) (.region 4 (rg Try.f101 4) false)))))) (.seq (.region 6 (rg Try.f101 6) false) .ret))))) (by kernel_rfl) (Nat.le_of_ble_eq_true (by kernel_rfl)) 0 (rs := [.tmp 2]) rfl [] .nil [(false, [.sl true 5 (r.map Fent.row)])] [] [] fun cx => ?_
  show Tr _ _ _ ⟨23, 0, [(0, .val false [.sl false 5 (CV.frzEs (x0.map Fent.row))])], []⟩ _
  unfold laws_toFentSF at H
  refine Tr.rs ?_
  refine LAt.runU tOk 1 (by kernel_rfl) ?_
  refine LAt.doneU [2, 0] [] (by kernel_rfl) ?_
  refine Tr.rs ?_
  refine LAt.runU tOk 1 (by kernel_rfl) ?_
  refine LAt.lenE tOk (t := 48) (ty := 3) (e := 171) (x := (.tmp 5)) (d := 6) (g := none) ⟨(.slot 5), [], 0, false, 5, (CV.frzEs (x0.map Fent.row))⟩ (x0).length _ (by kernel_rfl) (by kernel_rfl) (by kernel_rfl) (by kernel_rfl) (by kernel_rfl) (frz_len _ _) rfl ?_
  obtain ⟨hg1, H⟩ := guard_some H
  refine LAt.makeG tOk (t := 56) (ty := 56) (e := 141) (x := (.tmp 6)) (d := 7) (g := none) ⟨.st [(0, 1, 3), (1, 1, 3), (2, 1, 3), (3, 1, 3), (4, 1, 4)], 5, 40, [.lit (.int .i64 0), .lit (.int .i64 0), .lit (.int .i64 0), .lit (.int .i64 0), .lit (.bool false)]⟩ (x0.length : Int) ((List.replicate ((x0.length : Int)).toNat (⟨0, 0, 0, 0, false⟩ : Fent)).map Fent.row) _ (by kernel_rfl) (by kernel_rfl) (by kernel_rfl) (by kernel_rfl) (by kernel_rfl) (by kernel_rfl) hg1 (by kernel_rfl) (rep_map _ rfl) rfl ?_
  refine LAt.moveU (T := lk tab) (ty := 56) (x := (.tmp 7)) (d := 3) (g := none) false [.sl true 5 ((List.replicate ((x0.length : Int)).toNat (⟨0, 0, 0, 0, false⟩ : Fent)).map Fent.row)] (by kernel_rfl) (by kernel_rfl) (by kernel_rfl) (by kernel_rfl) (by kernel_rfl) ?_
  refine LAt.doneU [3, 2, 0] [] (by kernel_rfl) ?_
  refine Tr.seq ?_
  refine Tr.rs ?_
  refine LAt.runU tOk 1 (by kernel_rfl) ?_
  refine LAt.doneU [4, 3, 2, 0] [] (by kernel_rfl) ?_
  obtain ⟨o5, eo5, Ho5⟩ := bind_some H
  clear H
  refine Tr.mid (ι := (List Fent)) (fun v => ⟨23, 0, [(3, .val false [.sl true 5 (v.map Fent.row)]), (2, .val false [.sl true 5 (([] : List Fent).map Fent.row)])], []⟩) (fun v => laws_toFentS_J1 n v = some r) ?_ ?_
  · refine Tr.block ?_
    refine Tr.loop (ι := Nat × (Int × (List Fent))) (fun v => ⟨23, 0, [(4, .val false [.lit (.int .i64 v.2.1)]), (3, .val false [.sl true 5 (v.2.2.map Fent.row)]), (2, .val false [.sl true 5 (([] : List Fent).map Fent.row)]), (0, .val false [.sl false 5 (CV.frzEs (x0.map Fent.row))])], []⟩) (fun v => laws_toFentS_L2 n v.1 x0 v.2.1 v.2.2 = some o5) (fun v => v.1) (n, (0, (List.replicate ((x0.length : Int)).toNat (⟨0, 0, 0, 0, false⟩ : Fent)))) eo5 (St.sub_of [4, 3, 2, 0] [] (by kernel_rfl)) ?_
    rintro ⟨mo5, y2, y3⟩ H
    have H : laws_toFentS_L2 n mo5 x0 y2 y3 = some o5 := H
    obtain _ | mo5 := mo5
    · cases (show (none : Option _) = some o5 from H)
    · rw [laws_toFentS_L2] at H
      refine Tr.seq ?_
      refine Tr.rs ?_
      refine LAt.runU tOk 2 (by kernel_rfl) ?_
      refine LAt.lenE tOk (t := 48) (ty := 3) (e := 171) (x := (.tmp 9)) (d := 10) (g := none) ⟨(.slot 9), [], 0, false, 5, (CV.frzEs (x0.map Fent.row))⟩ (x0).length _ (by kernel_rfl) (by kernel_rfl) (by kernel_rfl) (by kernel_rfl) (by kernel_rfl) (frz_len _ _) rfl ?_
      refine LAt.runU tOk 1 (by kernel_rfl) ?_
      refine LAt.doneU [11, 10, 9, 8, 4, 3, 2, 0] [] (by kernel_rfl) ?_
      refine Tr.to ⟨23, 0, [(11, .val false [.lit (.bool (decide (y2 < (x0.length : Int))))]), (10, .val false [.lit (.int .i64 (x0.length : Int))]), (9, .val false [.sl false 5 (CV.frzEs (x0.map Fent.row))]), (8, .val false [.lit (.int .i64 y2)]), (4, .val false [.lit (.int .i64 y2)]), (3, .val false [.sl true 5 (y3.map Fent.row)]), (2, .val false [.sl true 5 (([] : List Fent).map Fent.row)]), (0, .val false [.sl false 5 (CV.frzEs (x0.map Fent.row))])], []⟩ (by kernel_rfl) ?_
      cases h1 : (decide (y2 < (x0.length : Int)))
      · have H := bifF h1 H
        refine Tr.cond (b := false) (by kernel_rfl) (fun h => nomatch h) (fun _ => ?_)
        refine Tr.exit ?_
        refine And.intro (fun _ => ?_) (fun h => absurd rfl h)
        have H := Option.some.inj H
        subst H
        have H := Ho5
        dsimp only at H
        exact Exists.intro y3 (And.intro H (St.sub_of [3, 2] [] (by kernel_rfl)))
      · have H := bifT h1 H
        refine Tr.cond (b := true) (by kernel_rfl) (fun _ => ?_) (fun h => nomatch h)
        refine Tr.skip ?_
        show Tr _ _ _ _ _
        refine Tr.seq ?_
        refine Tr.block ?_
        refine Tr.at ?_
        refine LAt.runU tOk 4 (by kernel_rfl) ?_
        obtain ⟨v6, ev6, H⟩ := bind_some H
        refine LAt.indexF tOk (t := 48) (ty := 0) (x := (.tmp 16)) (y := (.tmp 17)) (d := 18) (g := none) ⟨(.slot 16), [], 0, false, 5, (CV.frzEs (x0.map Fent.row))⟩ y2 (Fent.row v6) _ (by kernel_rfl) (by kernel_rfl) (by kernel_rfl) (by kernel_rfl) rfl (idx_isF ev6) rfl ?_
        refine LAt.runU tOk 1 (by kernel_rfl) ?_
        obtain ⟨r7, er7, H⟩ := bind_some H
        refine LAt.callU tOk [.rd] (f := 156) (av := #[.tmp 19]) (ats := #[171]) (d := (some 20)) (ty := 141) (g := none) (by kernel_rfl) (by kernel_rfl) (by kernel_rfl) [] (laws_toFent n v6 r7 er7) (by kernel_rfl) (.inl rfl) ?_
        obtain ⟨v8, ev8, H⟩ := bind_some H
        refine LAt.indexO tOk (t := 56) (ty := 0) (x := (.tmp 14)) (y := (.tmp 15)) (d := 21) (g := none) ⟨(.slot 3), [], 0, true, 5, (y3.map Fent.row)⟩ y2 (y2.toNat) (Fent.row v8) _ (by kernel_rfl) (by kernel_rfl) (by kernel_rfl) (by kernel_rfl) rfl (by kernel_rfl) (idx_isE ev8) rfl rfl ?_
        refine LAt.storeK tOk (t := 141) (ty := 0) (ad := (.tmp 21)) (x := (.tmp 20)) (g := none) ⟨.st [(0, 1, 3), (1, 1, 3), (2, 1, 3), (3, 1, 3), (4, 1, 4)], 5, 40, [.lit (.int .i64 0), .lit (.int .i64 0), .lit (.int .i64 0), .lit (.int .i64 0), .lit (.bool false)]⟩ true (Fent.row r7) (.slot 3) [(0, (y2.toNat))] [(0, (y2.toNat))] 5 0 [.sl true 5 (y3.map Fent.row)] (Fent.row v8) [.sl true 5 (y3.map Fent.row)] [.sl true 5 ((y3.set (y2.toNat) r7).map Fent.row)] (by kernel_rfl) (by kernel_rfl) (by kernel_rfl) (by kernel_rfl) (by kernel_rfl) (by kernel_rfl) (getQ_elem rfl (idx_get ev8).2) rfl (by intro h; cases h) (by kernel_rfl) (by kernel_rfl) (by kernel_rfl) (modQ_elem (new := r7) rfl (idx_get ev8).2 rfl) (by kernel_rfl) ?_
        refine LAt.doneU [3, 21, 20, 19, 18, 17, 16, 15, 11, 10, 9, 8, 4, 2, 0, 14] [] (by kernel_rfl) ?_
        show Tr _ _ _ _ _
        refine Tr.at ?_
        refine LAt.runU tOk 3 (by kernel_rfl) ?_
        refine LAt.doneU [4, 13, 12, 3, 21, 20, 19, 18, 17, 16, 15, 11, 10, 9, 8, 2, 0, 14] [] (by kernel_rfl) ?_
        exact Exists.intro (mo5, ((IntKind.wrap .i64 (y2 + 1)), (y3.set (y2.toNat) r7))) (And.intro H (And.intro (Nat.lt_succ_self mo5) (St.sub_of [4, 3, 2, 0] [] (by kernel_rfl))))
  · rintro y4 H
    have H : (laws_toFentS_J1 n y4) = some r := H
    unfold laws_toFentS_J1 at H
    show Tr _ _ _ _ _
    refine Tr.rs ?_
    refine LAt.runU tOk 2 (by kernel_rfl) ?_
    refine LAt.doneU [2, 3] [] (by kernel_rfl) ?_
    refine Tr.ret ?_
    have H := Option.some.inj H
    subst H
    exact Fin.of _ [(false, [.sl true 5 (y4.map Fent.row)])] (by kernel_rfl) rfl rfl

def laws_toVrowF (n : Nat) (x0 : Vrow) : Option (Vrow) :=
  (some x0)
/-- loop.example/g00326/laws.toVrow -/
theorem laws_toVrow (n : Nat) (x0 : Vrow) (r : Vrow) (H : laws_toVrowF n x0 = some r) : LCall Try.prog 180 [.val true (CV.frzRow (Vrow.row x0))] [.val true (Vrow.row r)] [] := by
  refine LCall.of_body tOk Try.func180 rfl (c := (.seq (.region 0 (rg Try.f180 0) false) (.seq (.region 1 (rg Try.f180 1) false) (.seq (.region 2 (rg Try.f180 2) false) (.seq (.region 3 (rg Try.f180 3) false) (.seq (.region 4 (rg Try.f180 4) false) (.seq (.region 5 (rg Try.f180 5) false) .ret))))))) (by kernel_rfl) (Nat.le_of_ble_eq_true (by kernel_rfl)) 0 (rs := [.cell 2 138]) rfl [] .nil [(true, (Vrow.row r))] [] [] fun cx => ?_
  show Tr _ _ _ ⟨14, 0, [(0, .val true (Vrow.row x0))], []⟩ _
  unfold laws_toVrowF at H
  refine Tr.rs ?_
  refine LAt.runU tOk 2 (by kernel_rfl) ?_
  refine LAt.doneU [2, 1] [2, 1] (by kernel_rfl) ?_
  refine Tr.rs ?_
  refine LAt.runU tOk 1 (by kernel_rfl) ?_
  refine LAt.doneU [3, 2, 1] [3, 2, 1] (by kernel_rfl) ?_
  refine Tr.rs ?_
  refine LAt.runU tOk 4 (by kernel_rfl) ?_
  refine LAt.doneU [3, 2, 1] [3, 2, 1] (by kernel_rfl) ?_
  refine Tr.rs ?_
  refine LAt.runU tOk 4 (by kernel_rfl) ?_
  refine LAt.doneU [3, 2, 1] [3, 2, 1] (by kernel_rfl) ?_
  refine Tr.rs ?_
  refine LAt.runU tOk 4 (by kernel_rfl) ?_
  refine LAt.doneU [3, 2] [3, 2] (by kernel_rfl) ?_
  refine Tr.rs ?_
  refine LAt.runU tOk 2 (by kernel_rfl) ?_
  refine LAt.doneU [2] [2] (by kernel_rfl) ?_
  refine Tr.ret ?_
  have H := Option.some.inj H
  subst H
  exact Fin.of _ [(true, (Vrow.row x0))] (by kernel_rfl) rfl rfl

def laws_toVrowS_J1 (n : Nat) (y4 : (List Vrow)) : Option ((List Vrow)) :=
  (some y4)
def laws_toVrowS_L2 (n : Nat) : Nat → (List Vrow) → Int → (List Vrow) → Option (((List Vrow)) ⊕ ((List Vrow)))
  | 0, _, _, _ => none
  | mo5 + 1, x0, y2, y3 => (bif (decide (y2 < (x0.length : Int))) then ((idx x0 y2).bind fun v6 => ((laws_toVrowF n v6).bind fun r7 => ((idx y3 y2).bind fun v8 => (laws_toVrowS_L2 n mo5 x0 (IntKind.wrap .i64 (y2 + 1)) (y3.set (y2.toNat) r7))))) else (some (Sum.inl y3)))
def laws_toVrowSF (n : Nat) (x0 : (List Vrow)) : Option ((List Vrow)) :=
  (bif (decide (0 ≤ (x0.length : Int)) && decide ((x0.length : Int) ≤ 268435456)) then ((laws_toVrowS_L2 n n x0 0 (List.replicate ((x0.length : Int)).toNat (⟨0, 0, 0⟩ : Vrow))).bind fun o => match o with | .inl y4 => (laws_toVrowS_J1 n y4) | .inr r => some r) else none)
/-- loop.example/g00326/laws.toVrowS -/
theorem laws_toVrowS (n : Nat) (x0 : (List Vrow)) (r : (List Vrow)) (H : laws_toVrowSF n x0 = some r) : LCall Try.prog 157 [.val false [.sl false 3 (CV.frzEs (x0.map Vrow.row))]] [.val false [.sl true 3 (r.map Vrow.row)]] [] := by
  refine LCall.of_body tOk Try.func157 rfl (c := (.seq (.region 0 (rg Try.f157 0) false) (.seq (.region 1 (rg Try.f157 1) false) (.seq (.seq (.region 2 (rg Try.f157 2) false) (.block 0 (.loop (.seq (.seq (.region 3 (rg Try.f157 3) false) (.cond (.tmp 11) .skip (.exit 0))) (.seq (.block 1 (.region 5 (rg Try.f157 5) false)) (.region 4 (rg Try.f157 4) false)))))) (.seq (.region 6 (rg Try.f157 6) false) .ret))))) (by kernel_rfl) (Nat.le_of_ble_eq_true (by kernel_rfl)) 0 (rs := [.tmp 2]) rfl [] .nil [(false, [.sl true 3 (r.map Vrow.row)])] [] [] fun cx => ?_
  show Tr _ _ _ ⟨23, 0, [(0, .val false [.sl false 3 (CV.frzEs (x0.map Vrow.row))])], []⟩ _
  unfold laws_toVrowSF at H
  refine Tr.rs ?_
  refine LAt.runU tOk 1 (by kernel_rfl) ?_
  refine LAt.doneU [2, 0] [] (by kernel_rfl) ?_
  refine Tr.rs ?_
  refine LAt.runU tOk 1 (by kernel_rfl) ?_
  refine LAt.lenE tOk (t := 49) (ty := 3) (e := 187) (x := (.tmp 5)) (d := 6) (g := none) ⟨(.slot 5), [], 0, false, 3, (CV.frzEs (x0.map Vrow.row))⟩ (x0).length _ (by kernel_rfl) (by kernel_rfl) (by kernel_rfl) (by kernel_rfl) (by kernel_rfl) (frz_len _ _) rfl ?_
  obtain ⟨hg1, H⟩ := guard_some H
  refine LAt.makeG tOk (t := 57) (ty := 57) (e := 138) (x := (.tmp 6)) (d := 7) (g := none) ⟨.st [(0, 1, 3), (1, 1, 3), (2, 1, 3)], 3, 24, [.lit (.int .i64 0), .lit (.int .i64 0), .lit (.int .i64 0)]⟩ (x0.length : Int) ((List.replicate ((x0.length : Int)).toNat (⟨0, 0, 0⟩ : Vrow)).map Vrow.row) _ (by kernel_rfl) (by kernel_rfl) (by kernel_rfl) (by kernel_rfl) (by kernel_rfl) (by kernel_rfl) hg1 (by kernel_rfl) (rep_map _ rfl) rfl ?_
  refine LAt.moveU (T := lk tab) (ty := 57) (x := (.tmp 7)) (d := 3) (g := none) false [.sl true 3 ((List.replicate ((x0.length : Int)).toNat (⟨0, 0, 0⟩ : Vrow)).map Vrow.row)] (by kernel_rfl) (by kernel_rfl) (by kernel_rfl) (by kernel_rfl) (by kernel_rfl) ?_
  refine LAt.doneU [3, 2, 0] [] (by kernel_rfl) ?_
  refine Tr.seq ?_
  refine Tr.rs ?_
  refine LAt.runU tOk 1 (by kernel_rfl) ?_
  refine LAt.doneU [4, 3, 2, 0] [] (by kernel_rfl) ?_
  obtain ⟨o5, eo5, Ho5⟩ := bind_some H
  clear H
  refine Tr.mid (ι := (List Vrow)) (fun v => ⟨23, 0, [(3, .val false [.sl true 3 (v.map Vrow.row)]), (2, .val false [.sl true 3 (([] : List Vrow).map Vrow.row)])], []⟩) (fun v => laws_toVrowS_J1 n v = some r) ?_ ?_
  · refine Tr.block ?_
    refine Tr.loop (ι := Nat × (Int × (List Vrow))) (fun v => ⟨23, 0, [(4, .val false [.lit (.int .i64 v.2.1)]), (3, .val false [.sl true 3 (v.2.2.map Vrow.row)]), (2, .val false [.sl true 3 (([] : List Vrow).map Vrow.row)]), (0, .val false [.sl false 3 (CV.frzEs (x0.map Vrow.row))])], []⟩) (fun v => laws_toVrowS_L2 n v.1 x0 v.2.1 v.2.2 = some o5) (fun v => v.1) (n, (0, (List.replicate ((x0.length : Int)).toNat (⟨0, 0, 0⟩ : Vrow)))) eo5 (St.sub_of [4, 3, 2, 0] [] (by kernel_rfl)) ?_
    rintro ⟨mo5, y2, y3⟩ H
    have H : laws_toVrowS_L2 n mo5 x0 y2 y3 = some o5 := H
    obtain _ | mo5 := mo5
    · cases (show (none : Option _) = some o5 from H)
    · rw [laws_toVrowS_L2] at H
      refine Tr.seq ?_
      refine Tr.rs ?_
      refine LAt.runU tOk 2 (by kernel_rfl) ?_
      refine LAt.lenE tOk (t := 49) (ty := 3) (e := 187) (x := (.tmp 9)) (d := 10) (g := none) ⟨(.slot 9), [], 0, false, 3, (CV.frzEs (x0.map Vrow.row))⟩ (x0).length _ (by kernel_rfl) (by kernel_rfl) (by kernel_rfl) (by kernel_rfl) (by kernel_rfl) (frz_len _ _) rfl ?_
      refine LAt.runU tOk 1 (by kernel_rfl) ?_
      refine LAt.doneU [11, 10, 9, 8, 4, 3, 2, 0] [] (by kernel_rfl) ?_
      refine Tr.to ⟨23, 0, [(11, .val false [.lit (.bool (decide (y2 < (x0.length : Int))))]), (10, .val false [.lit (.int .i64 (x0.length : Int))]), (9, .val false [.sl false 3 (CV.frzEs (x0.map Vrow.row))]), (8, .val false [.lit (.int .i64 y2)]), (4, .val false [.lit (.int .i64 y2)]), (3, .val false [.sl true 3 (y3.map Vrow.row)]), (2, .val false [.sl true 3 (([] : List Vrow).map Vrow.row)]), (0, .val false [.sl false 3 (CV.frzEs (x0.map Vrow.row))])], []⟩ (by kernel_rfl) ?_
      cases h1 : (decide (y2 < (x0.length : Int)))
      · have H := bifF h1 H
        refine Tr.cond (b := false) (by kernel_rfl) (fun h => nomatch h) (fun _ => ?_)
        refine Tr.exit ?_
        refine And.intro (fun _ => ?_) (fun h => absurd rfl h)
        have H := Option.some.inj H
        subst H
        have H := Ho5
        dsimp only at H
        exact Exists.intro y3 (And.intro H (St.sub_of [3, 2] [] (by kernel_rfl)))
      · have H := bifT h1 H
        refine Tr.cond (b := true) (by kernel_rfl) (fun _ => ?_) (fun h => nomatch h)
        refine Tr.skip ?_
        show Tr _ _ _ _ _
        refine Tr.seq ?_
        refine Tr.block ?_
        refine Tr.at ?_
        refine LAt.runU tOk 4 (by kernel_rfl) ?_
        obtain ⟨v6, ev6, H⟩ := bind_some H
        refine LAt.indexF tOk (t := 49) (ty := 0) (x := (.tmp 16)) (y := (.tmp 17)) (d := 18) (g := none) ⟨(.slot 16), [], 0, false, 3, (CV.frzEs (x0.map Vrow.row))⟩ y2 (Vrow.row v6) _ (by kernel_rfl) (by kernel_rfl) (by kernel_rfl) (by kernel_rfl) rfl (idx_isF ev6) rfl ?_
        refine LAt.runU tOk 1 (by kernel_rfl) ?_
        obtain ⟨r7, er7, H⟩ := bind_some H
        refine LAt.callU tOk [.rd] (f := 180) (av := #[.tmp 19]) (ats := #[187]) (d := (some 20)) (ty := 138) (g := none) (by kernel_rfl) (by kernel_rfl) (by kernel_rfl) [] (laws_toVrow n v6 r7 er7) (by kernel_rfl) (.inl rfl) ?_
        obtain ⟨v8, ev8, H⟩ := bind_some H
        refine LAt.indexO tOk (t := 57) (ty := 0) (x := (.tmp 14)) (y := (.tmp 15)) (d := 21) (g := none) ⟨(.slot 3), [], 0, true, 3, (y3.map Vrow.row)⟩ y2 (y2.toNat) (Vrow.row v8) _ (by kernel_rfl) (by kernel_rfl) (by kernel_rfl) (by kernel_rfl) rfl (by kernel_rfl) (idx_isE ev8) rfl rfl ?_
        refine LAt.storeK tOk (t := 138) (ty := 0) (ad := (.tmp 21)) (x := (.tmp 20)) (g := none) ⟨.st [(0, 1, 3), (1, 1, 3), (2, 1, 3)], 3, 24, [.lit (.int .i64 0), .lit (.int .i64 0), .lit (.int .i64 0)]⟩ true (Vrow.row r7) (.slot 3) [(0, (y2.toNat))] [(0, (y2.toNat))] 3 0 [.sl true 3 (y3.map Vrow.row)] (Vrow.row v8) [.sl true 3 (y3.map Vrow.row)] [.sl true 3 ((y3.set (y2.toNat) r7).map Vrow.row)] (by kernel_rfl) (by kernel_rfl) (by kernel_rfl) (by kernel_rfl) (by kernel_rfl) (by kernel_rfl) (getQ_elem rfl (idx_get ev8).2) rfl (by intro h; cases h) (by kernel_rfl) (by kernel_rfl) (by kernel_rfl) (modQ_elem (new := r7) rfl (idx_get ev8).2 rfl) (by kernel_rfl) ?_
        refine LAt.doneU [3, 21, 20, 19, 18, 17, 16, 15, 11, 10, 9, 8, 4, 2, 0, 14] [] (by kernel_rfl) ?_
        show Tr _ _ _ _ _
        refine Tr.at ?_
        refine LAt.runU tOk 3 (by kernel_rfl) ?_
        refine LAt.doneU [4, 13, 12, 3, 21, 20, 19, 18, 17, 16, 15, 11, 10, 9, 8, 2, 0, 14] [] (by kernel_rfl) ?_
        exact Exists.intro (mo5, ((IntKind.wrap .i64 (y2 + 1)), (y3.set (y2.toNat) r7))) (And.intro H (And.intro (Nat.lt_succ_self mo5) (St.sub_of [4, 3, 2, 0] [] (by kernel_rfl))))
  · rintro y4 H
    have H : (laws_toVrowS_J1 n y4) = some r := H
    unfold laws_toVrowS_J1 at H
    show Tr _ _ _ _ _
    refine Tr.rs ?_
    refine LAt.runU tOk 2 (by kernel_rfl) ?_
    refine LAt.doneU [2, 3] [] (by kernel_rfl) ?_
    refine Tr.ret ?_
    have H := Option.some.inj H
    subst H
    exact Fin.of _ [(false, [.sl true 3 (y4.map Vrow.row)])] (by kernel_rfl) rfl rfl

def laws_toIntS_J1 (n : Nat) (y4 : (List Int)) : Option ((List Int)) :=
  (some y4)
def laws_toIntS_L2 (n : Nat) : Nat → (List Int) → Int → (List Int) → Option (((List Int)) ⊕ ((List Int)))
  | 0, _, _, _ => none
  | mo5 + 1, x0, y2, y3 => (bif (decide (y2 < (x0.length : Int))) then ((idx x0 y2).bind fun v6 => ((idx y3 y2).bind fun v7 => (laws_toIntS_L2 n mo5 x0 (IntKind.wrap .i64 (y2 + 1)) (y3.set (y2.toNat) v6)))) else (some (Sum.inl y3)))
def laws_toIntSF (n : Nat) (x0 : (List Int)) : Option ((List Int)) :=
  (bif (decide (0 ≤ (x0.length : Int)) && decide ((x0.length : Int) ≤ 268435456)) then ((laws_toIntS_L2 n n x0 0 (List.replicate ((x0.length : Int)).toNat 0)).bind fun o => match o with | .inl y4 => (laws_toIntS_J1 n y4) | .inr r => some r) else none)
/-- loop.example/g00326/laws.toIntS -/
theorem laws_toIntS (n : Nat) (x0 : (List Int)) (r : (List Int)) (H : laws_toIntSF n x0 = some r) : LCall Try.prog 18 [.val false [.sl false 1 (CV.frzEs (x0.map intRow))]] [.val false [.sl true 1 (r.map intRow)]] [] := by
  refine LCall.of_body tOk Try.func18 rfl (c := (.seq (.region 0 (rg Try.f18 0) false) (.seq (.region 1 (rg Try.f18 1) false) (.seq (.seq (.region 2 (rg Try.f18 2) false) (.block 0 (.loop (.seq (.seq (.region 3 (rg Try.f18 3) false) (.cond (.tmp 11) .skip (.exit 0))) (.seq (.block 1 (.region 5 (rg Try.f18 5) false)) (.region 4 (rg Try.f18 4) false)))))) (.seq (.region 6 (rg Try.f18 6) false) .ret))))) (by kernel_rfl) (Nat.le_of_ble_eq_true (by kernel_rfl)) 0 (rs := [.tmp 2]) rfl [] .nil [(false, [.sl true 1 (r.map intRow)])] [] [] fun cx => ?_
  show Tr _ _ _ ⟨22, 0, [(0, .val false [.sl false 1 (CV.frzEs (x0.map intRow))])], []⟩ _
  unfold laws_toIntSF at H
  refine Tr.rs ?_
  refine LAt.runU tOk 1 (by kernel_rfl) ?_
  refine LAt.doneU [2, 0] [] (by kernel_rfl) ?_
  refine Tr.rs ?_
  refine LAt.runU tOk 1 (by kernel_rfl) ?_
  refine LAt.lenE tOk (t := 27) (ty := 3) (e := 3) (x := (.tmp 5)) (d := 6) (g := none) ⟨(.slot 5), [], 0, false, 1, (CV.frzEs (x0.map intRow))⟩ (x0).length _ (by kernel_rfl) (by kernel_rfl) (by kernel_rfl) (by kernel_rfl) (by kernel_rfl) (frz_len _ _) rfl ?_
  obtain ⟨hg1, H⟩ := guard_some H
  refine LAt.makeG tOk (t := 27) (ty := 27) (e := 3) (x := (.tmp 6)) (d := 7) (g := none) ⟨.int .i64, 1, 8, [.lit (.int .i64 0)]⟩ (x0.length : Int) ((List.replicate ((x0.length : Int)).toNat 0).map intRow) _ (by kernel_rfl) (by kernel_rfl) (by kernel_rfl) (by kernel_rfl) (by kernel_rfl) (by kernel_rfl) hg1 (by kernel_rfl) (rep_map _ rfl) rfl ?_
  refine LAt.moveU (T := lk tab) (ty := 27) (x := (.tmp 7)) (d := 3) (g := none) false [.sl true 1 ((List.replicate ((x0.length : Int)).toNat 0).map intRow)] (by kernel_rfl) (by kernel_rfl) (by kernel_rfl) (by kernel_rfl) (by kernel_rfl) ?_
  refine LAt.doneU [3, 2, 0] [] (by kernel_rfl) ?_
  refine Tr.seq ?_
  refine Tr.rs ?_
  refine LAt.runU tOk 1 (by kernel_rfl) ?_
  refine LAt.doneU [4, 3, 2, 0] [] (by kernel_rfl) ?_
  obtain ⟨o5, eo5, Ho5⟩ := bind_some H
  clear H
  refine Tr.mid (ι := (List Int)) (fun v => ⟨22, 0, [(3, .val false [.sl true 1 (v.map intRow)]), (2, .val false [.sl true 1 (([] : List Int).map intRow)])], []⟩) (fun v => laws_toIntS_J1 n v = some r) ?_ ?_
  · refine Tr.block ?_
    refine Tr.loop (ι := Nat × (Int × (List Int))) (fun v => ⟨22, 0, [(4, .val false [.lit (.int .i64 v.2.1)]), (3, .val false [.sl true 1 (v.2.2.map intRow)]), (2, .val false [.sl true 1 (([] : List Int).map intRow)]), (0, .val false [.sl false 1 (CV.frzEs (x0.map intRow))])], []⟩) (fun v => laws_toIntS_L2 n v.1 x0 v.2.1 v.2.2 = some o5) (fun v => v.1) (n, (0, (List.replicate ((x0.length : Int)).toNat 0))) eo5 (St.sub_of [4, 3, 2, 0] [] (by kernel_rfl)) ?_
    rintro ⟨mo5, y2, y3⟩ H
    have H : laws_toIntS_L2 n mo5 x0 y2 y3 = some o5 := H
    obtain _ | mo5 := mo5
    · cases (show (none : Option _) = some o5 from H)
    · rw [laws_toIntS_L2] at H
      refine Tr.seq ?_
      refine Tr.rs ?_
      refine LAt.runU tOk 2 (by kernel_rfl) ?_
      refine LAt.lenE tOk (t := 27) (ty := 3) (e := 3) (x := (.tmp 9)) (d := 10) (g := none) ⟨(.slot 9), [], 0, false, 1, (CV.frzEs (x0.map intRow))⟩ (x0).length _ (by kernel_rfl) (by kernel_rfl) (by kernel_rfl) (by kernel_rfl) (by kernel_rfl) (frz_len _ _) rfl ?_
      refine LAt.runU tOk 1 (by kernel_rfl) ?_
      refine LAt.doneU [11, 10, 9, 8, 4, 3, 2, 0] [] (by kernel_rfl) ?_
      refine Tr.to ⟨22, 0, [(11, .val false [.lit (.bool (decide (y2 < (x0.length : Int))))]), (10, .val false [.lit (.int .i64 (x0.length : Int))]), (9, .val false [.sl false 1 (CV.frzEs (x0.map intRow))]), (8, .val false [.lit (.int .i64 y2)]), (4, .val false [.lit (.int .i64 y2)]), (3, .val false [.sl true 1 (y3.map intRow)]), (2, .val false [.sl true 1 (([] : List Int).map intRow)]), (0, .val false [.sl false 1 (CV.frzEs (x0.map intRow))])], []⟩ (by kernel_rfl) ?_
      cases h1 : (decide (y2 < (x0.length : Int)))
      · have H := bifF h1 H
        refine Tr.cond (b := false) (by kernel_rfl) (fun h => nomatch h) (fun _ => ?_)
        refine Tr.exit ?_
        refine And.intro (fun _ => ?_) (fun h => absurd rfl h)
        have H := Option.some.inj H
        subst H
        have H := Ho5
        dsimp only at H
        exact Exists.intro y3 (And.intro H (St.sub_of [3, 2] [] (by kernel_rfl)))
      · have H := bifT h1 H
        refine Tr.cond (b := true) (by kernel_rfl) (fun _ => ?_) (fun h => nomatch h)
        refine Tr.skip ?_
        show Tr _ _ _ _ _
        refine Tr.seq ?_
        refine Tr.block ?_
        refine Tr.at ?_
        refine LAt.runU tOk 4 (by kernel_rfl) ?_
        obtain ⟨v6, ev6, H⟩ := bind_some H
        refine LAt.indexF tOk (t := 27) (ty := 0) (x := (.tmp 16)) (y := (.tmp 17)) (d := 18) (g := none) ⟨(.slot 16), [], 0, false, 1, (CV.frzEs (x0.map intRow))⟩ y2 [.lit (.int .i64 v6)] _ (by kernel_rfl) (by kernel_rfl) (by kernel_rfl) (by kernel_rfl) rfl (idx_isF ev6) rfl ?_
        refine LAt.runU tOk 1 (by kernel_rfl) ?_
        obtain ⟨v7, ev7, H⟩ := bind_some H
        refine LAt.indexO tOk (t := 27) (ty := 0) (x := (.tmp 14)) (y := (.tmp 15)) (d := 20) (g := none) ⟨(.slot 3), [], 0, true, 1, (y3.map intRow)⟩ y2 (y2.toNat) (intRow v7) _ (by kernel_rfl) (by kernel_rfl) (by kernel_rfl) (by kernel_rfl) rfl (by kernel_rfl) (idx_isE ev7) rfl rfl ?_
        refine LAt.storeK tOk (t := 3) (ty := 0) (ad := (.tmp 20)) (x := (.tmp 19)) (g := none) ⟨.int .i64, 1, 8, [.lit (.int .i64 0)]⟩ false [.lit (.int .i64 v6)] (.slot 3) [(0, (y2.toNat))] [(0, (y2.toNat))] 1 0 [.sl true 1 (y3.map intRow)] (intRow v7) [.sl true 1 (y3.map intRow)] [.sl true 1 ((y3.set (y2.toNat) v6).map intRow)] (by kernel_rfl) (by kernel_rfl) (by kernel_rfl) (by kernel_rfl) (by kernel_rfl) (by kernel_rfl) (getQ_elem rfl (idx_get ev7).2) rfl (by intro h; cases h) (by kernel_rfl) (by kernel_rfl) (by kernel_rfl) (modQ_elem (new := v6) rfl (idx_get ev7).2 rfl) (by kernel_rfl) ?_
        refine LAt.doneU [3, 20, 19, 18, 17, 16, 15, 11, 10, 9, 8, 4, 2, 0, 14] [] (by kernel_rfl) ?_
        show Tr _ _ _ _ _
        refine Tr.at ?_
        refine LAt.runU tOk 3 (by kernel_rfl) ?_
        refine LAt.doneU [4, 13, 12, 3, 20, 19, 18, 17, 16, 15, 11, 10, 9, 8, 2, 0, 14] [] (by kernel_rfl) ?_
        exact Exists.intro (mo5, ((IntKind.wrap .i64 (y2 + 1)), (y3.set (y2.toNat) v6))) (And.intro H (And.intro (Nat.lt_succ_self mo5) (St.sub_of [4, 3, 2, 0] [] (by kernel_rfl))))
  · rintro y4 H
    have H : (laws_toIntS_J1 n y4) = some r := H
    unfold laws_toIntS_J1 at H
    show Tr _ _ _ _ _
    refine Tr.rs ?_
    refine LAt.runU tOk 2 (by kernel_rfl) ?_
    refine LAt.doneU [2, 3] [] (by kernel_rfl) ?_
    refine Tr.ret ?_
    have H := Option.some.inj H
    subst H
    exact Fin.of _ [(false, [.sl true 1 (y4.map intRow)])] (by kernel_rfl) rfl rfl

def laws_toVtabF (n : Nat) (x0 : Vtab) : Option (Vtab) :=
  ((laws_toVrowSF n x0.Rows).bind fun r1 => ((laws_toIntSF n x0.Pvid).bind fun r2 => (some (⟨r1, r2⟩ : Vtab))))
/-- loop.example/g00326/laws.toVtab -/
theorem laws_toVtab (n : Nat) (x0 : Vtab) (r : Vtab) (H : laws_toVtabF n x0 = some r) : LCall Try.prog 102 [.val true (CV.frzRow (Vtab.row x0))] [.val true (Vtab.row r)] [] := by
  refine LCall.of_body tOk Try.func102 rfl (c := (.seq (.region 0 (rg Try.f102 0) false) (.seq (.region 1 (rg Try.f102 1) false) (.seq (.region 2 (rg Try.f102 2) false) (.seq (.region 3 (rg Try.f102 3) false) (.seq (.region 4 (rg Try.f102 4) false) .ret)))))) (by kernel_rfl) (Nat.le_of_ble_eq_true (by kernel_rfl)) 0 (rs := [.cell 2 59]) rfl [] .nil [(true, (Vtab.row r))] [] [] fun cx => ?_
  show Tr _ _ _ ⟨13, 0, [(0, .val true (CV.frzRow (Vtab.row x0)))], []⟩ _
  unfold laws_toVtabF at H
  refine Tr.rs ?_
  refine LAt.runU tOk 2 (by kernel_rfl) ?_
  refine LAt.doneU [2, 1] [2, 1] (by kernel_rfl) ?_
  refine Tr.rs ?_
  refine LAt.runU tOk 1 (by kernel_rfl) ?_
  refine LAt.doneU [3, 2, 1] [3, 2, 1] (by kernel_rfl) ?_
  refine Tr.rs ?_
  refine LAt.runU tOk 2 (by kernel_rfl) ?_
  obtain ⟨r1, er1, H⟩ := bind_some H
  refine LAt.callU tOk [.rd] (f := 157) (av := #[.tmp 5]) (ats := #[49]) (d := (some 6)) (ty := 57) (g := none) (by kernel_rfl) (by kernel_rfl) (by kernel_rfl) [] (laws_toVrowS n x0.Rows r1 er1) (by kernel_rfl) (.inl rfl) ?_
  refine LAt.runU tOk 2 (by kernel_rfl) ?_
  refine LAt.doneU [3, 2, 1] [3, 2, 1] (by kernel_rfl) ?_
  refine Tr.rs ?_
  refine LAt.runU tOk 2 (by kernel_rfl) ?_
  obtain ⟨r2, er2, H⟩ := bind_some H
  refine LAt.callU tOk [.rd] (f := 18) (av := #[.tmp 9]) (ats := #[27]) (d := (some 10)) (ty := 27) (g := none) (by kernel_rfl) (by kernel_rfl) (by kernel_rfl) [] (laws_toIntS n x0.Pvid r2 er2) (by kernel_rfl) (.inl rfl) ?_
  refine LAt.runU tOk 2 (by kernel_rfl) ?_
  refine LAt.doneU [3, 2] [3, 2] (by kernel_rfl) ?_
  refine Tr.rs ?_
  refine LAt.runU tOk 2 (by kernel_rfl) ?_
  refine LAt.doneU [2] [2] (by kernel_rfl) ?_
  refine Tr.ret ?_
  have H := Option.some.inj H
  subst H
  exact Fin.of _ [(true, [.sl true 3 (r1.map Vrow.row), .sl true 1 (r2.map intRow)])] (by kernel_rfl) rfl rfl

def laws_toBridgeF (n : Nat) (x0 : Bridge) : Option (Bridge) :=
  ((laws_toPtSF n x0.Ports).bind fun r1 => ((laws_toFentSF n x0.F).bind fun r2 => ((laws_toVtabF n x0.V).bind fun r3 => (some (⟨x0.Id, x0.Name, r1, r2, r3, x0.Ticks, x0.Parse, x0.Word, x0.Drops, x0.Vers⟩ : Bridge)))))
/-- loop.example/g00326/laws.toBridge -/
theorem laws_toBridge (n : Nat) (x0 : Bridge) (r : Bridge) (H : laws_toBridgeF n x0 = some r) : LCall Try.prog 37 [.val true (CV.frzRow (Bridge.row x0))] [.val true (Bridge.row r)] [] := by
  refine LCall.of_body tOk Try.func37 rfl (c := (.seq (.region 0 (rg Try.f37 0) false) (.seq (.region 1 (rg Try.f37 1) false) (.seq (.region 2 (rg Try.f37 2) false) (.seq (.region 3 (rg Try.f37 3) false) (.seq (.region 4 (rg Try.f37 4) false) (.seq (.region 5 (rg Try.f37 5) false) (.seq (.region 6 (rg Try.f37 6) false) (.seq (.region 7 (rg Try.f37 7) false) (.seq (.region 8 (rg Try.f37 8) false) (.seq (.region 9 (rg Try.f37 9) false) (.seq (.region 10 (rg Try.f37 10) false) (.seq (.region 11 (rg Try.f37 11) false) (.seq (.region 12 (rg Try.f37 12) false) .ret)))))))))))))) (by kernel_rfl) (Nat.le_of_ble_eq_true (by kernel_rfl)) 0 (rs := [.cell 2 61]) rfl [] .nil [(true, (Bridge.row r))] [] [] fun cx => ?_
  show Tr _ _ _ ⟨38, 0, [(0, .val true (CV.frzRow (Bridge.row x0)))], []⟩ _
  unfold laws_toBridgeF at H
  refine Tr.rs ?_
  refine LAt.runU tOk 2 (by kernel_rfl) ?_
  refine LAt.doneU [2, 1] [2, 1] (by kernel_rfl) ?_
  refine Tr.rs ?_
  refine LAt.runU tOk 1 (by kernel_rfl) ?_
  refine LAt.doneU [3, 2, 1] [3, 2, 1] (by kernel_rfl) ?_
  refine Tr.rs ?_
  refine LAt.runU tOk 4 (by kernel_rfl) ?_
  refine LAt.doneU [3, 2, 1] [3, 2, 1] (by kernel_rfl) ?_
  refine Tr.rs ?_
  refine LAt.runU tOk 4 (by kernel_rfl) ?_
  refine LAt.doneU [3, 2, 1] [3, 2, 1] (by kernel_rfl) ?_
  refine Tr.rs ?_
  refine LAt.runU tOk 2 (by kernel_rfl) ?_
  obtain ⟨r1, er1, H⟩ := bind_some H
  refine LAt.callU tOk [.rd] (f := 100) (av := #[.tmp 11]) (ats := #[47]) (d := (some 12)) (ty := 55) (g := none) (by kernel_rfl) (by kernel_rfl) (by kernel_rfl) [] (laws_toPtS n x0.Ports r1 er1) (by kernel_rfl) (.inl rfl) ?_
  refine LAt.runU tOk 2 (by kernel_rfl) ?_
  refine LAt.doneU [3, 2, 1] [3, 2, 1] (by kernel_rfl) ?_
  refine Tr.rs ?_
  refine LAt.runU tOk 2 (by kernel_rfl) ?_
  obtain ⟨r2, er2, H⟩ := bind_some H
  refine LAt.callU tOk [.rd] (f := 101) (av := #[.tmp 15]) (ats := #[48]) (d := (some 16)) (ty := 56) (g := none) (by kernel_rfl) (by kernel_rfl) (by kernel_rfl) [] (laws_toFentS n x0.F r2 er2) (by kernel_rfl) (.inl rfl) ?_
  refine LAt.runU tOk 2 (by kernel_rfl) ?_
  refine LAt.doneU [3, 2, 1] [3, 2, 1] (by kernel_rfl) ?_
  refine Tr.rs ?_
  refine LAt.runU tOk 2 (by kernel_rfl) ?_
  obtain ⟨r3, er3, H⟩ := bind_some H
  refine LAt.callU tOk [.rd] (f := 102) (av := #[.tmp 19]) (ats := #[51]) (d := (some 20)) (ty := 59) (g := none) (by kernel_rfl) (by kernel_rfl) (by kernel_rfl) [] (laws_toVtab n x0.V r3 er3) (by kernel_rfl) (.inl rfl) ?_
  refine LAt.runU tOk 2 (by kernel_rfl) ?_
  refine LAt.doneU [3, 2, 1] [3, 2, 1] (by kernel_rfl) ?_
  refine Tr.rs ?_
  refine LAt.runU tOk 4 (by kernel_rfl) ?_
  refine LAt.doneU [3, 2, 1] [3, 2, 1] (by kernel_rfl) ?_
  refine Tr.rs ?_
  refine LAt.runU tOk 4 (by kernel_rfl) ?_
  refine LAt.doneU [3, 2, 1] [3, 2, 1] (by kernel_rfl) ?_
  refine Tr.rs ?_
  refine LAt.runU tOk 4 (by kernel_rfl) ?_
  refine LAt.doneU [3, 2, 1] [3, 2, 1] (by kernel_rfl) ?_
  refine Tr.rs ?_
  refine LAt.runU tOk 4 (by kernel_rfl) ?_
  refine LAt.doneU [3, 2, 1] [3, 2, 1] (by kernel_rfl) ?_
  refine Tr.rs ?_
  refine LAt.runU tOk 4 (by kernel_rfl) ?_
  refine LAt.doneU [3, 2] [3, 2] (by kernel_rfl) ?_
  refine Tr.rs ?_
  refine LAt.runU tOk 2 (by kernel_rfl) ?_
  refine LAt.doneU [2] [2] (by kernel_rfl) ?_
  refine Tr.ret ?_
  have H := Option.some.inj H
  subst H
  exact Fin.of _ [(true, [.lit (.int .i64 x0.Id), .lit (.string x0.Name), .sl true 8 (r1.map Pt.row), .sl true 5 (r2.map Fent.row), .sl true 3 (r3.Rows.map Vrow.row), .sl true 1 (r3.Pvid.map intRow), .lit (.int .i64 x0.Ticks), .lit (.int .i64 x0.Parse), .lit (.int .i64 x0.Word), .lit (.int .i64 x0.Drops), .lit (.int .i64 x0.Vers)])] (by kernel_rfl) rfl rfl

def laws_toBridgeS_J1 (n : Nat) (y4 : (List Bridge)) : Option ((List Bridge)) :=
  (some y4)
def laws_toBridgeS_L2 (n : Nat) : Nat → (List Bridge) → Int → (List Bridge) → Option (((List Bridge)) ⊕ ((List Bridge)))
  | 0, _, _, _ => none
  | mo5 + 1, x0, y2, y3 => (bif (decide (y2 < (x0.length : Int))) then ((idx x0 y2).bind fun v6 => ((laws_toBridgeF n v6).bind fun r7 => ((idx y3 y2).bind fun v8 => (laws_toBridgeS_L2 n mo5 x0 (IntKind.wrap .i64 (y2 + 1)) (y3.set (y2.toNat) r7))))) else (some (Sum.inl y3)))
def laws_toBridgeSF (n : Nat) (x0 : (List Bridge)) : Option ((List Bridge)) :=
  (bif (decide (0 ≤ (x0.length : Int)) && decide ((x0.length : Int) ≤ 268435456)) then ((laws_toBridgeS_L2 n n x0 0 (List.replicate ((x0.length : Int)).toNat (⟨0, (⟨#[]⟩ : ByteArray), ([] : List Pt), ([] : List Fent), (⟨([] : List Vrow), ([] : List Int)⟩ : Vtab), 0, 0, 0, 0, 0⟩ : Bridge))).bind fun o => match o with | .inl y4 => (laws_toBridgeS_J1 n y4) | .inr r => some r) else none)
/-- loop.example/g00326/laws.toBridgeS -/
theorem laws_toBridgeS (n : Nat) (x0 : (List Bridge)) (r : (List Bridge)) (H : laws_toBridgeSF n x0 = some r) : LCall Try.prog 67 [.val false [.sl false 11 (CV.frzEs (x0.map Bridge.row))]] [.val false [.sl true 11 (r.map Bridge.row)]] [] := by
  refine LCall.of_body tOk Try.func67 rfl (c := (.seq (.region 0 (rg Try.f67 0) false) (.seq (.region 1 (rg Try.f67 1) false) (.seq (.seq (.region 2 (rg Try.f67 2) false) (.block 0 (.loop (.seq (.seq (.region 3 (rg Try.f67 3) false) (.cond (.tmp 11) .skip (.exit 0))) (.seq (.block 1 (.region 5 (rg Try.f67 5) false)) (.region 4 (rg Try.f67 4) false)))))) (.seq (.region 6 (rg Try.f67 6) false) .ret))))) (by kernel_rfl) (Nat.le_of_ble_eq_true (by kernel_rfl)) 0 (rs := [.tmp 2]) rfl [] .nil [(false, [.sl true 11 (r.map Bridge.row)])] [] [] fun cx => ?_
  show Tr _ _ _ ⟨23, 0, [(0, .val false [.sl false 11 (CV.frzEs (x0.map Bridge.row))])], []⟩ _
  unfold laws_toBridgeSF at H
  refine Tr.rs ?_
  refine LAt.runU tOk 1 (by kernel_rfl) ?_
  refine LAt.doneU [2, 0] [] (by kernel_rfl) ?_
  refine Tr.rs ?_
  refine LAt.runU tOk 1 (by kernel_rfl) ?_
  refine LAt.lenE tOk (t := 22) (ty := 3) (e := 53) (x := (.tmp 5)) (d := 6) (g := none) ⟨(.slot 5), [], 0, false, 11, (CV.frzEs (x0.map Bridge.row))⟩ (x0).length _ (by kernel_rfl) (by kernel_rfl) (by kernel_rfl) (by kernel_rfl) (by kernel_rfl) (frz_len _ _) rfl ?_
  obtain ⟨hg1, H⟩ := guard_some H
  refine LAt.makeG tOk (t := 30) (ty := 30) (e := 61) (x := (.tmp 6)) (d := 7) (g := none) ⟨.st [(0, 1, 3), (1, 1, 9), (2, 1, 55), (3, 1, 56), (4, 2, 59), (6, 1, 3), (7, 1, 3), (8, 1, 3), (9, 1, 3), (10, 1, 3)], 11, 160, [.lit (.int .i64 0), .lit (.string ⟨#[]⟩), .sl true 8 [], .sl true 5 [], .sl true 3 [], .sl true 1 [], .lit (.int .i64 0), .lit (.int .i64 0), .lit (.int .i64 0), .lit (.int .i64 0), .lit (.int .i64 0)]⟩ (x0.length : Int) ((List.replicate ((x0.length : Int)).toNat (⟨0, (⟨#[]⟩ : ByteArray), ([] : List Pt), ([] : List Fent), (⟨([] : List Vrow), ([] : List Int)⟩ : Vtab), 0, 0, 0, 0, 0⟩ : Bridge)).map Bridge.row) _ (by kernel_rfl) (by kernel_rfl) (by kernel_rfl) (by kernel_rfl) (by kernel_rfl) (by kernel_rfl) hg1 (by kernel_rfl) (rep_map _ rfl) rfl ?_
  refine LAt.moveU (T := lk tab) (ty := 30) (x := (.tmp 7)) (d := 3) (g := none) false [.sl true 11 ((List.replicate ((x0.length : Int)).toNat (⟨0, (⟨#[]⟩ : ByteArray), ([] : List Pt), ([] : List Fent), (⟨([] : List Vrow), ([] : List Int)⟩ : Vtab), 0, 0, 0, 0, 0⟩ : Bridge)).map Bridge.row)] (by kernel_rfl) (by kernel_rfl) (by kernel_rfl) (by kernel_rfl) (by kernel_rfl) ?_
  refine LAt.doneU [3, 2, 0] [] (by kernel_rfl) ?_
  refine Tr.seq ?_
  refine Tr.rs ?_
  refine LAt.runU tOk 1 (by kernel_rfl) ?_
  refine LAt.doneU [4, 3, 2, 0] [] (by kernel_rfl) ?_
  obtain ⟨o5, eo5, Ho5⟩ := bind_some H
  clear H
  refine Tr.mid (ι := (List Bridge)) (fun v => ⟨23, 0, [(3, .val false [.sl true 11 (v.map Bridge.row)]), (2, .val false [.sl true 11 (([] : List Bridge).map Bridge.row)])], []⟩) (fun v => laws_toBridgeS_J1 n v = some r) ?_ ?_
  · refine Tr.block ?_
    refine Tr.loop (ι := Nat × (Int × (List Bridge))) (fun v => ⟨23, 0, [(4, .val false [.lit (.int .i64 v.2.1)]), (3, .val false [.sl true 11 (v.2.2.map Bridge.row)]), (2, .val false [.sl true 11 (([] : List Bridge).map Bridge.row)]), (0, .val false [.sl false 11 (CV.frzEs (x0.map Bridge.row))])], []⟩) (fun v => laws_toBridgeS_L2 n v.1 x0 v.2.1 v.2.2 = some o5) (fun v => v.1) (n, (0, (List.replicate ((x0.length : Int)).toNat (⟨0, (⟨#[]⟩ : ByteArray), ([] : List Pt), ([] : List Fent), (⟨([] : List Vrow), ([] : List Int)⟩ : Vtab), 0, 0, 0, 0, 0⟩ : Bridge)))) eo5 (St.sub_of [4, 3, 2, 0] [] (by kernel_rfl)) ?_
    rintro ⟨mo5, y2, y3⟩ H
    have H : laws_toBridgeS_L2 n mo5 x0 y2 y3 = some o5 := H
    obtain _ | mo5 := mo5
    · cases (show (none : Option _) = some o5 from H)
    · rw [laws_toBridgeS_L2] at H
      refine Tr.seq ?_
      refine Tr.rs ?_
      refine LAt.runU tOk 2 (by kernel_rfl) ?_
      refine LAt.lenE tOk (t := 22) (ty := 3) (e := 53) (x := (.tmp 9)) (d := 10) (g := none) ⟨(.slot 9), [], 0, false, 11, (CV.frzEs (x0.map Bridge.row))⟩ (x0).length _ (by kernel_rfl) (by kernel_rfl) (by kernel_rfl) (by kernel_rfl) (by kernel_rfl) (frz_len _ _) rfl ?_
      refine LAt.runU tOk 1 (by kernel_rfl) ?_
      refine LAt.doneU [11, 10, 9, 8, 4, 3, 2, 0] [] (by kernel_rfl) ?_
      refine Tr.to ⟨23, 0, [(11, .val false [.lit (.bool (decide (y2 < (x0.length : Int))))]), (10, .val false [.lit (.int .i64 (x0.length : Int))]), (9, .val false [.sl false 11 (CV.frzEs (x0.map Bridge.row))]), (8, .val false [.lit (.int .i64 y2)]), (4, .val false [.lit (.int .i64 y2)]), (3, .val false [.sl true 11 (y3.map Bridge.row)]), (2, .val false [.sl true 11 (([] : List Bridge).map Bridge.row)]), (0, .val false [.sl false 11 (CV.frzEs (x0.map Bridge.row))])], []⟩ (by kernel_rfl) ?_
      cases h1 : (decide (y2 < (x0.length : Int)))
      · have H := bifF h1 H
        refine Tr.cond (b := false) (by kernel_rfl) (fun h => nomatch h) (fun _ => ?_)
        refine Tr.exit ?_
        refine And.intro (fun _ => ?_) (fun h => absurd rfl h)
        have H := Option.some.inj H
        subst H
        have H := Ho5
        dsimp only at H
        exact Exists.intro y3 (And.intro H (St.sub_of [3, 2] [] (by kernel_rfl)))
      · have H := bifT h1 H
        refine Tr.cond (b := true) (by kernel_rfl) (fun _ => ?_) (fun h => nomatch h)
        refine Tr.skip ?_
        show Tr _ _ _ _ _
        refine Tr.seq ?_
        refine Tr.block ?_
        refine Tr.at ?_
        refine LAt.runU tOk 4 (by kernel_rfl) ?_
        obtain ⟨v6, ev6, H⟩ := bind_some H
        refine LAt.indexF tOk (t := 22) (ty := 0) (x := (.tmp 16)) (y := (.tmp 17)) (d := 18) (g := none) ⟨(.slot 16), [], 0, false, 11, (CV.frzEs (x0.map Bridge.row))⟩ y2 (CV.frzRow (Bridge.row v6)) _ (by kernel_rfl) (by kernel_rfl) (by kernel_rfl) (by kernel_rfl) rfl (idx_isF ev6) rfl ?_
        refine LAt.runU tOk 1 (by kernel_rfl) ?_
        obtain ⟨r7, er7, H⟩ := bind_some H
        refine LAt.callU tOk [.rd] (f := 37) (av := #[.tmp 19]) (ats := #[53]) (d := (some 20)) (ty := 61) (g := none) (by kernel_rfl) (by kernel_rfl) (by kernel_rfl) [] (laws_toBridge n v6 r7 er7) (by kernel_rfl) (.inl rfl) ?_
        obtain ⟨v8, ev8, H⟩ := bind_some H
        refine LAt.indexO tOk (t := 30) (ty := 0) (x := (.tmp 14)) (y := (.tmp 15)) (d := 21) (g := none) ⟨(.slot 3), [], 0, true, 11, (y3.map Bridge.row)⟩ y2 (y2.toNat) (Bridge.row v8) _ (by kernel_rfl) (by kernel_rfl) (by kernel_rfl) (by kernel_rfl) rfl (by kernel_rfl) (idx_isE ev8) rfl rfl ?_
        refine LAt.storeK tOk (t := 61) (ty := 0) (ad := (.tmp 21)) (x := (.tmp 20)) (g := none) ⟨.st [(0, 1, 3), (1, 1, 9), (2, 1, 55), (3, 1, 56), (4, 2, 59), (6, 1, 3), (7, 1, 3), (8, 1, 3), (9, 1, 3), (10, 1, 3)], 11, 160, [.lit (.int .i64 0), .lit (.string ⟨#[]⟩), .sl true 8 [], .sl true 5 [], .sl true 3 [], .sl true 1 [], .lit (.int .i64 0), .lit (.int .i64 0), .lit (.int .i64 0), .lit (.int .i64 0), .lit (.int .i64 0)]⟩ true (Bridge.row r7) (.slot 3) [(0, (y2.toNat))] [(0, (y2.toNat))] 11 0 [.sl true 11 (y3.map Bridge.row)] (Bridge.row v8) [.sl true 11 (y3.map Bridge.row)] [.sl true 11 ((y3.set (y2.toNat) r7).map Bridge.row)] (by kernel_rfl) (by kernel_rfl) (by kernel_rfl) (by kernel_rfl) (by kernel_rfl) (by kernel_rfl) (getQ_elem rfl (idx_get ev8).2) rfl (by intro h; cases h) (by kernel_rfl) (by kernel_rfl) (by kernel_rfl) (modQ_elem (new := r7) rfl (idx_get ev8).2 rfl) (by kernel_rfl) ?_
        refine LAt.doneU [3, 19, 18, 17, 16, 15, 11, 10, 9, 8, 4, 2, 0, 14] [] (by kernel_rfl) ?_
        show Tr _ _ _ _ _
        refine Tr.at ?_
        refine LAt.runU tOk 3 (by kernel_rfl) ?_
        refine LAt.doneU [4, 13, 12, 3, 19, 18, 17, 16, 15, 11, 10, 9, 8, 2, 0, 14] [] (by kernel_rfl) ?_
        exact Exists.intro (mo5, ((IntKind.wrap .i64 (y2 + 1)), (y3.set (y2.toNat) r7))) (And.intro H (And.intro (Nat.lt_succ_self mo5) (St.sub_of [4, 3, 2, 0] [] (by kernel_rfl))))
  · rintro y4 H
    have H : (laws_toBridgeS_J1 n y4) = some r := H
    unfold laws_toBridgeS_J1 at H
    show Tr _ _ _ _ _
    refine Tr.rs ?_
    refine LAt.runU tOk 2 (by kernel_rfl) ?_
    refine LAt.doneU [2, 3] [] (by kernel_rfl) ?_
    refine Tr.ret ?_
    have H := Option.some.inj H
    subst H
    exact Fin.of _ [(false, [.sl true 11 (y4.map Bridge.row)])] (by kernel_rfl) rfl rfl

def laws_toLinkF (n : Nat) (x0 : Link) : Option (Link) :=
  (some x0)
/-- loop.example/g00326/laws.toLink -/
theorem laws_toLink (n : Nat) (x0 : Link) (r : Link) (H : laws_toLinkF n x0 = some r) : LCall Try.prog 132 [.val true (CV.frzRow (Link.row x0))] [.val true (Link.row r)] [] := by
  refine LCall.of_body tOk Try.func132 rfl (c := (.seq (.region 0 (rg Try.f132 0) false) (.seq (.region 1 (rg Try.f132 1) false) (.seq (.region 2 (rg Try.f132 2) false) (.seq (.region 3 (rg Try.f132 3) false) (.seq (.region 4 (rg Try.f132 4) false) (.seq (.region 5 (rg Try.f132 5) false) (.seq (.region 6 (rg Try.f132 6) false) .ret)))))))) (by kernel_rfl) (Nat.le_of_ble_eq_true (by kernel_rfl)) 0 (rs := [.cell 2 96]) rfl [] .nil [(true, (Link.row r))] [] [] fun cx => ?_
  show Tr _ _ _ ⟨17, 0, [(0, .val true (Link.row x0))], []⟩ _
  unfold laws_toLinkF at H
  refine Tr.rs ?_
  refine LAt.runU tOk 2 (by kernel_rfl) ?_
  refine LAt.doneU [2, 1] [2, 1] (by kernel_rfl) ?_
  refine Tr.rs ?_
  refine LAt.runU tOk 1 (by kernel_rfl) ?_
  refine LAt.doneU [3, 2, 1] [3, 2, 1] (by kernel_rfl) ?_
  refine Tr.rs ?_
  refine LAt.runU tOk 4 (by kernel_rfl) ?_
  refine LAt.doneU [3, 2, 1] [3, 2, 1] (by kernel_rfl) ?_
  refine Tr.rs ?_
  refine LAt.runU tOk 4 (by kernel_rfl) ?_
  refine LAt.doneU [3, 2, 1] [3, 2, 1] (by kernel_rfl) ?_
  refine Tr.rs ?_
  refine LAt.runU tOk 4 (by kernel_rfl) ?_
  refine LAt.doneU [3, 2, 1] [3, 2, 1] (by kernel_rfl) ?_
  refine Tr.rs ?_
  refine LAt.runU tOk 4 (by kernel_rfl) ?_
  refine LAt.doneU [3, 2] [3, 2] (by kernel_rfl) ?_
  refine Tr.rs ?_
  refine LAt.runU tOk 2 (by kernel_rfl) ?_
  refine LAt.doneU [2] [2] (by kernel_rfl) ?_
  refine Tr.ret ?_
  have H := Option.some.inj H
  subst H
  exact Fin.of _ [(true, (Link.row x0))] (by kernel_rfl) rfl rfl

def laws_toLinkS_J1 (n : Nat) (y4 : (List Link)) : Option ((List Link)) :=
  (some y4)
def laws_toLinkS_L2 (n : Nat) : Nat → (List Link) → Int → (List Link) → Option (((List Link)) ⊕ ((List Link)))
  | 0, _, _, _ => none
  | mo5 + 1, x0, y2, y3 => (bif (decide (y2 < (x0.length : Int))) then ((idx x0 y2).bind fun v6 => ((laws_toLinkF n v6).bind fun r7 => ((idx y3 y2).bind fun v8 => (laws_toLinkS_L2 n mo5 x0 (IntKind.wrap .i64 (y2 + 1)) (y3.set (y2.toNat) r7))))) else (some (Sum.inl y3)))
def laws_toLinkSF (n : Nat) (x0 : (List Link)) : Option ((List Link)) :=
  (bif (decide (0 ≤ (x0.length : Int)) && decide ((x0.length : Int) ≤ 268435456)) then ((laws_toLinkS_L2 n n x0 0 (List.replicate ((x0.length : Int)).toNat (⟨0, 0, 0, 0⟩ : Link))).bind fun o => match o with | .inl y4 => (laws_toLinkS_J1 n y4) | .inr r => some r) else none)
/-- loop.example/g00326/laws.toLinkS -/
theorem laws_toLinkS (n : Nat) (x0 : (List Link)) (r : (List Link)) (H : laws_toLinkSF n x0 = some r) : LCall Try.prog 68 [.val false [.sl false 4 (CV.frzEs (x0.map Link.row))]] [.val false [.sl true 4 (r.map Link.row)]] [] := by
  refine LCall.of_body tOk Try.func68 rfl (c := (.seq (.region 0 (rg Try.f68 0) false) (.seq (.region 1 (rg Try.f68 1) false) (.seq (.seq (.region 2 (rg Try.f68 2) false) (.block 0 (.loop (.seq (.seq (.region 3 (rg Try.f68 3) false) (.cond (.tmp 11) .skip (.exit 0))) (.seq (.block 1 (.region 5 (rg Try.f68 5) false)) (.region 4 (rg Try.f68 4) false)))))) (.seq (.region 6 (rg Try.f68 6) false) .ret))))) (by kernel_rfl) (Nat.le_of_ble_eq_true (by kernel_rfl)) 0 (rs := [.tmp 2]) rfl [] .nil [(false, [.sl true 4 (r.map Link.row)])] [] [] fun cx => ?_
  show Tr _ _ _ ⟨23, 0, [(0, .val false [.sl false 4 (CV.frzEs (x0.map Link.row))])], []⟩ _
  unfold laws_toLinkSF at H
  refine Tr.rs ?_
  refine LAt.runU tOk 1 (by kernel_rfl) ?_
  refine LAt.doneU [2, 0] [] (by kernel_rfl) ?_
  refine Tr.rs ?_
  refine LAt.runU tOk 1 (by kernel_rfl) ?_
  refine LAt.lenE tOk (t := 23) (ty := 3) (e := 146) (x := (.tmp 5)) (d := 6) (g := none) ⟨(.slot 5), [], 0, false, 4, (CV.frzEs (x0.map Link.row))⟩ (x0).length _ (by kernel_rfl) (by kernel_rfl) (by kernel_rfl) (by kernel_rfl) (by kernel_rfl) (frz_len _ _) rfl ?_
  obtain ⟨hg1, H⟩ := guard_some H
  refine LAt.makeG tOk (t := 31) (ty := 31) (e := 96) (x := (.tmp 6)) (d := 7) (g := none) ⟨.st [(0, 1, 3), (1, 1, 3), (2, 1, 3), (3, 1, 3)], 4, 32, [.lit (.int .i64 0), .lit (.int .i64 0), .lit (.int .i64 0), .lit (.int .i64 0)]⟩ (x0.length : Int) ((List.replicate ((x0.length : Int)).toNat (⟨0, 0, 0, 0⟩ : Link)).map Link.row) _ (by kernel_rfl) (by kernel_rfl) (by kernel_rfl) (by kernel_rfl) (by kernel_rfl) (by kernel_rfl) hg1 (by kernel_rfl) (rep_map _ rfl) rfl ?_
  refine LAt.moveU (T := lk tab) (ty := 31) (x := (.tmp 7)) (d := 3) (g := none) false [.sl true 4 ((List.replicate ((x0.length : Int)).toNat (⟨0, 0, 0, 0⟩ : Link)).map Link.row)] (by kernel_rfl) (by kernel_rfl) (by kernel_rfl) (by kernel_rfl) (by kernel_rfl) ?_
  refine LAt.doneU [3, 2, 0] [] (by kernel_rfl) ?_
  refine Tr.seq ?_
  refine Tr.rs ?_
  refine LAt.runU tOk 1 (by kernel_rfl) ?_
  refine LAt.doneU [4, 3, 2, 0] [] (by kernel_rfl) ?_
  obtain ⟨o5, eo5, Ho5⟩ := bind_some H
  clear H
  refine Tr.mid (ι := (List Link)) (fun v => ⟨23, 0, [(3, .val false [.sl true 4 (v.map Link.row)]), (2, .val false [.sl true 4 (([] : List Link).map Link.row)])], []⟩) (fun v => laws_toLinkS_J1 n v = some r) ?_ ?_
  · refine Tr.block ?_
    refine Tr.loop (ι := Nat × (Int × (List Link))) (fun v => ⟨23, 0, [(4, .val false [.lit (.int .i64 v.2.1)]), (3, .val false [.sl true 4 (v.2.2.map Link.row)]), (2, .val false [.sl true 4 (([] : List Link).map Link.row)]), (0, .val false [.sl false 4 (CV.frzEs (x0.map Link.row))])], []⟩) (fun v => laws_toLinkS_L2 n v.1 x0 v.2.1 v.2.2 = some o5) (fun v => v.1) (n, (0, (List.replicate ((x0.length : Int)).toNat (⟨0, 0, 0, 0⟩ : Link)))) eo5 (St.sub_of [4, 3, 2, 0] [] (by kernel_rfl)) ?_
    rintro ⟨mo5, y2, y3⟩ H
    have H : laws_toLinkS_L2 n mo5 x0 y2 y3 = some o5 := H
    obtain _ | mo5 := mo5
    · cases (show (none : Option _) = some o5 from H)
    · rw [laws_toLinkS_L2] at H
      refine Tr.seq ?_
      refine Tr.rs ?_
      refine LAt.runU tOk 2 (by kernel_rfl) ?_
      refine LAt.lenE tOk (t := 23) (ty := 3) (e := 146) (x := (.tmp 9)) (d := 10) (g := none) ⟨(.slot 9), [], 0, false, 4, (CV.frzEs (x0.map Link.row))⟩ (x0).length _ (by kernel_rfl) (by kernel_rfl) (by kernel_rfl) (by kernel_rfl) (by kernel_rfl) (frz_len _ _) rfl ?_
      refine LAt.runU tOk 1 (by kernel_rfl) ?_
      refine LAt.doneU [11, 10, 9, 8, 4, 3, 2, 0] [] (by kernel_rfl) ?_
      refine Tr.to ⟨23, 0, [(11, .val false [.lit (.bool (decide (y2 < (x0.length : Int))))]), (10, .val false [.lit (.int .i64 (x0.length : Int))]), (9, .val false [.sl false 4 (CV.frzEs (x0.map Link.row))]), (8, .val false [.lit (.int .i64 y2)]), (4, .val false [.lit (.int .i64 y2)]), (3, .val false [.sl true 4 (y3.map Link.row)]), (2, .val false [.sl true 4 (([] : List Link).map Link.row)]), (0, .val false [.sl false 4 (CV.frzEs (x0.map Link.row))])], []⟩ (by kernel_rfl) ?_
      cases h1 : (decide (y2 < (x0.length : Int)))
      · have H := bifF h1 H
        refine Tr.cond (b := false) (by kernel_rfl) (fun h => nomatch h) (fun _ => ?_)
        refine Tr.exit ?_
        refine And.intro (fun _ => ?_) (fun h => absurd rfl h)
        have H := Option.some.inj H
        subst H
        have H := Ho5
        dsimp only at H
        exact Exists.intro y3 (And.intro H (St.sub_of [3, 2] [] (by kernel_rfl)))
      · have H := bifT h1 H
        refine Tr.cond (b := true) (by kernel_rfl) (fun _ => ?_) (fun h => nomatch h)
        refine Tr.skip ?_
        show Tr _ _ _ _ _
        refine Tr.seq ?_
        refine Tr.block ?_
        refine Tr.at ?_
        refine LAt.runU tOk 4 (by kernel_rfl) ?_
        obtain ⟨v6, ev6, H⟩ := bind_some H
        refine LAt.indexF tOk (t := 23) (ty := 0) (x := (.tmp 16)) (y := (.tmp 17)) (d := 18) (g := none) ⟨(.slot 16), [], 0, false, 4, (CV.frzEs (x0.map Link.row))⟩ y2 (Link.row v6) _ (by kernel_rfl) (by kernel_rfl) (by kernel_rfl) (by kernel_rfl) rfl (idx_isF ev6) rfl ?_
        refine LAt.runU tOk 1 (by kernel_rfl) ?_
        obtain ⟨r7, er7, H⟩ := bind_some H
        refine LAt.callU tOk [.rd] (f := 132) (av := #[.tmp 19]) (ats := #[146]) (d := (some 20)) (ty := 96) (g := none) (by kernel_rfl) (by kernel_rfl) (by kernel_rfl) [] (laws_toLink n v6 r7 er7) (by kernel_rfl) (.inl rfl) ?_
        obtain ⟨v8, ev8, H⟩ := bind_some H
        refine LAt.indexO tOk (t := 31) (ty := 0) (x := (.tmp 14)) (y := (.tmp 15)) (d := 21) (g := none) ⟨(.slot 3), [], 0, true, 4, (y3.map Link.row)⟩ y2 (y2.toNat) (Link.row v8) _ (by kernel_rfl) (by kernel_rfl) (by kernel_rfl) (by kernel_rfl) rfl (by kernel_rfl) (idx_isE ev8) rfl rfl ?_
        refine LAt.storeK tOk (t := 96) (ty := 0) (ad := (.tmp 21)) (x := (.tmp 20)) (g := none) ⟨.st [(0, 1, 3), (1, 1, 3), (2, 1, 3), (3, 1, 3)], 4, 32, [.lit (.int .i64 0), .lit (.int .i64 0), .lit (.int .i64 0), .lit (.int .i64 0)]⟩ true (Link.row r7) (.slot 3) [(0, (y2.toNat))] [(0, (y2.toNat))] 4 0 [.sl true 4 (y3.map Link.row)] (Link.row v8) [.sl true 4 (y3.map Link.row)] [.sl true 4 ((y3.set (y2.toNat) r7).map Link.row)] (by kernel_rfl) (by kernel_rfl) (by kernel_rfl) (by kernel_rfl) (by kernel_rfl) (by kernel_rfl) (getQ_elem rfl (idx_get ev8).2) rfl (by intro h; cases h) (by kernel_rfl) (by kernel_rfl) (by kernel_rfl) (modQ_elem (new := r7) rfl (idx_get ev8).2 rfl) (by kernel_rfl) ?_
        refine LAt.doneU [3, 21, 20, 19, 18, 17, 16, 15, 11, 10, 9, 8, 4, 2, 0, 14] [] (by kernel_rfl) ?_
        show Tr _ _ _ _ _
        refine Tr.at ?_
        refine LAt.runU tOk 3 (by kernel_rfl) ?_
        refine LAt.doneU [4, 13, 12, 3, 21, 20, 19, 18, 17, 16, 15, 11, 10, 9, 8, 2, 0, 14] [] (by kernel_rfl) ?_
        exact Exists.intro (mo5, ((IntKind.wrap .i64 (y2 + 1)), (y3.set (y2.toNat) r7))) (And.intro H (And.intro (Nat.lt_succ_self mo5) (St.sub_of [4, 3, 2, 0] [] (by kernel_rfl))))
  · rintro y4 H
    have H : (laws_toLinkS_J1 n y4) = some r := H
    unfold laws_toLinkS_J1 at H
    show Tr _ _ _ _ _
    refine Tr.rs ?_
    refine LAt.runU tOk 2 (by kernel_rfl) ?_
    refine LAt.doneU [2, 3] [] (by kernel_rfl) ?_
    refine Tr.ret ?_
    have H := Option.some.inj H
    subst H
    exact Fin.of _ [(false, [.sl true 4 (y4.map Link.row)])] (by kernel_rfl) rfl rfl

def laws_toSayF (n : Nat) (x0 : Say) : Option (Say) :=
  ((laws_toVecF n x0.V).bind fun r1 => (some (⟨x0.Link, x0.Back, r1⟩ : Say)))
/-- loop.example/g00326/laws.toSay -/
theorem laws_toSay (n : Nat) (x0 : Say) (r : Say) (H : laws_toSayF n x0 = some r) : LCall Try.prog 133 [.val true (CV.frzRow (Say.row x0))] [.val true (Say.row r)] [] := by
  refine LCall.of_body tOk Try.func133 rfl (c := (.seq (.region 0 (rg Try.f133 0) false) (.seq (.region 1 (rg Try.f133 1) false) (.seq (.region 2 (rg Try.f133 2) false) (.seq (.region 3 (rg Try.f133 3) false) (.seq (.region 4 (rg Try.f133 4) false) (.seq (.region 5 (rg Try.f133 5) false) .ret))))))) (by kernel_rfl) (Nat.le_of_ble_eq_true (by kernel_rfl)) 0 (rs := [.cell 2 116]) rfl [] .nil [(true, (Say.row r))] [] [] fun cx => ?_
  show Tr _ _ _ ⟨15, 0, [(0, .val true (Say.row x0))], []⟩ _
  unfold laws_toSayF at H
  refine Tr.rs ?_
  refine LAt.runU tOk 2 (by kernel_rfl) ?_
  refine LAt.doneU [2, 1] [2, 1] (by kernel_rfl) ?_
  refine Tr.rs ?_
  refine LAt.runU tOk 1 (by kernel_rfl) ?_
  refine LAt.doneU [3, 2, 1] [3, 2, 1] (by kernel_rfl) ?_
  refine Tr.rs ?_
  refine LAt.runU tOk 4 (by kernel_rfl) ?_
  refine LAt.doneU [3, 2, 1] [3, 2, 1] (by kernel_rfl) ?_
  refine Tr.rs ?_
  refine LAt.runU tOk 4 (by kernel_rfl) ?_
  refine LAt.doneU [3, 2, 1] [3, 2, 1] (by kernel_rfl) ?_
  refine Tr.rs ?_
  refine LAt.runU tOk 2 (by kernel_rfl) ?_
  obtain ⟨r1, er1, H⟩ := bind_some H
  refine LAt.callU tOk [.rd] (f := 43) (av := #[.tmp 11]) (ats := #[68]) (d := (some 12)) (ty := 70) (g := none) (by kernel_rfl) (by kernel_rfl) (by kernel_rfl) [] (laws_toVec n x0.V r1 er1) (by kernel_rfl) (.inl rfl) ?_
  refine LAt.runU tOk 2 (by kernel_rfl) ?_
  refine LAt.doneU [3, 2] [3, 2] (by kernel_rfl) ?_
  refine Tr.rs ?_
  refine LAt.runU tOk 2 (by kernel_rfl) ?_
  refine LAt.doneU [2] [2] (by kernel_rfl) ?_
  refine Tr.ret ?_
  have H := Option.some.inj H
  subst H
  exact Fin.of _ [(true, [.lit (.int .i64 x0.Link), .lit (.bool x0.Back), .lit (.int .i64 r1.Root), .lit (.int .i64 r1.Cost), .lit (.int .i64 r1.Hops), .lit (.int .i64 r1.Bridge), .lit (.int .i64 r1.Port)])] (by kernel_rfl) rfl rfl

def laws_toSayS_J1 (n : Nat) (y4 : (List Say)) : Option ((List Say)) :=
  (some y4)
def laws_toSayS_L2 (n : Nat) : Nat → (List Say) → Int → (List Say) → Option (((List Say)) ⊕ ((List Say)))
  | 0, _, _, _ => none
  | mo5 + 1, x0, y2, y3 => (bif (decide (y2 < (x0.length : Int))) then ((idx x0 y2).bind fun v6 => ((laws_toSayF n v6).bind fun r7 => ((idx y3 y2).bind fun v8 => (laws_toSayS_L2 n mo5 x0 (IntKind.wrap .i64 (y2 + 1)) (y3.set (y2.toNat) r7))))) else (some (Sum.inl y3)))
def laws_toSaySF (n : Nat) (x0 : (List Say)) : Option ((List Say)) :=
  (bif (decide (0 ≤ (x0.length : Int)) && decide ((x0.length : Int) ≤ 268435456)) then ((laws_toSayS_L2 n n x0 0 (List.replicate ((x0.length : Int)).toNat (⟨0, false, (⟨0, 0, 0, 0, 0⟩ : Vec)⟩ : Say))).bind fun o => match o with | .inl y4 => (laws_toSayS_J1 n y4) | .inr r => some r) else none)
/-- loop.example/g00326/laws.toSayS -/
theorem laws_toSayS (n : Nat) (x0 : (List Say)) (r : (List Say)) (H : laws_toSaySF n x0 = some r) : LCall Try.prog 69 [.val false [.sl false 7 (CV.frzEs (x0.map Say.row))]] [.val false [.sl true 7 (r.map Say.row)]] [] := by
  refine LCall.of_body tOk Try.func69 rfl (c := (.seq (.region 0 (rg Try.f69 0) false) (.seq (.region 1 (rg Try.f69 1) false) (.seq (.seq (.region 2 (rg Try.f69 2) false) (.block 0 (.loop (.seq (.seq (.region 3 (rg Try.f69 3) false) (.cond (.tmp 11) .skip (.exit 0))) (.seq (.block 1 (.region 5 (rg Try.f69 5) false)) (.region 4 (rg Try.f69 4) false)))))) (.seq (.region 6 (rg Try.f69 6) false) .ret))))) (by kernel_rfl) (Nat.le_of_ble_eq_true (by kernel_rfl)) 0 (rs := [.tmp 2]) rfl [] .nil [(false, [.sl true 7 (r.map Say.row)])] [] [] fun cx => ?_
  show Tr _ _ _ ⟨23, 0, [(0, .val false [.sl false 7 (CV.frzEs (x0.map Say.row))])], []⟩ _
  unfold laws_toSaySF at H
  refine Tr.rs ?_
  refine LAt.runU tOk 1 (by kernel_rfl) ?_
  refine LAt.doneU [2, 0] [] (by kernel_rfl) ?_
  refine Tr.rs ?_
  refine LAt.runU tOk 1 (by kernel_rfl) ?_
  refine LAt.lenE tOk (t := 24) (ty := 3) (e := 149) (x := (.tmp 5)) (d := 6) (g := none) ⟨(.slot 5), [], 0, false, 7, (CV.frzEs (x0.map Say.row))⟩ (x0).length _ (by kernel_rfl) (by kernel_rfl) (by kernel_rfl) (by kernel_rfl) (by kernel_rfl) (frz_len _ _) rfl ?_
  obtain ⟨hg1, H⟩ := guard_some H
  refine LAt.makeG tOk (t := 32) (ty := 32) (e := 116) (x := (.tmp 6)) (d := 7) (g := none) ⟨.st [(0, 1, 3), (1, 1, 4), (2, 5, 70)], 7, 56, [.lit (.int .i64 0), .lit (.bool false), .lit (.int .i64 0), .lit (.int .i64 0), .lit (.int .i64 0), .lit (.int .i64 0), .lit (.int .i64 0)]⟩ (x0.length : Int) ((List.replicate ((x0.length : Int)).toNat (⟨0, false, (⟨0, 0, 0, 0, 0⟩ : Vec)⟩ : Say)).map Say.row) _ (by kernel_rfl) (by kernel_rfl) (by kernel_rfl) (by kernel_rfl) (by kernel_rfl) (by kernel_rfl) hg1 (by kernel_rfl) (rep_map _ rfl) rfl ?_
  refine LAt.moveU (T := lk tab) (ty := 32) (x := (.tmp 7)) (d := 3) (g := none) false [.sl true 7 ((List.replicate ((x0.length : Int)).toNat (⟨0, false, (⟨0, 0, 0, 0, 0⟩ : Vec)⟩ : Say)).map Say.row)] (by kernel_rfl) (by kernel_rfl) (by kernel_rfl) (by kernel_rfl) (by kernel_rfl) ?_
  refine LAt.doneU [3, 2, 0] [] (by kernel_rfl) ?_
  refine Tr.seq ?_
  refine Tr.rs ?_
  refine LAt.runU tOk 1 (by kernel_rfl) ?_
  refine LAt.doneU [4, 3, 2, 0] [] (by kernel_rfl) ?_
  obtain ⟨o5, eo5, Ho5⟩ := bind_some H
  clear H
  refine Tr.mid (ι := (List Say)) (fun v => ⟨23, 0, [(3, .val false [.sl true 7 (v.map Say.row)]), (2, .val false [.sl true 7 (([] : List Say).map Say.row)])], []⟩) (fun v => laws_toSayS_J1 n v = some r) ?_ ?_
  · refine Tr.block ?_
    refine Tr.loop (ι := Nat × (Int × (List Say))) (fun v => ⟨23, 0, [(4, .val false [.lit (.int .i64 v.2.1)]), (3, .val false [.sl true 7 (v.2.2.map Say.row)]), (2, .val false [.sl true 7 (([] : List Say).map Say.row)]), (0, .val false [.sl false 7 (CV.frzEs (x0.map Say.row))])], []⟩) (fun v => laws_toSayS_L2 n v.1 x0 v.2.1 v.2.2 = some o5) (fun v => v.1) (n, (0, (List.replicate ((x0.length : Int)).toNat (⟨0, false, (⟨0, 0, 0, 0, 0⟩ : Vec)⟩ : Say)))) eo5 (St.sub_of [4, 3, 2, 0] [] (by kernel_rfl)) ?_
    rintro ⟨mo5, y2, y3⟩ H
    have H : laws_toSayS_L2 n mo5 x0 y2 y3 = some o5 := H
    obtain _ | mo5 := mo5
    · cases (show (none : Option _) = some o5 from H)
    · rw [laws_toSayS_L2] at H
      refine Tr.seq ?_
      refine Tr.rs ?_
      refine LAt.runU tOk 2 (by kernel_rfl) ?_
      refine LAt.lenE tOk (t := 24) (ty := 3) (e := 149) (x := (.tmp 9)) (d := 10) (g := none) ⟨(.slot 9), [], 0, false, 7, (CV.frzEs (x0.map Say.row))⟩ (x0).length _ (by kernel_rfl) (by kernel_rfl) (by kernel_rfl) (by kernel_rfl) (by kernel_rfl) (frz_len _ _) rfl ?_
      refine LAt.runU tOk 1 (by kernel_rfl) ?_
      refine LAt.doneU [11, 10, 9, 8, 4, 3, 2, 0] [] (by kernel_rfl) ?_
      refine Tr.to ⟨23, 0, [(11, .val false [.lit (.bool (decide (y2 < (x0.length : Int))))]), (10, .val false [.lit (.int .i64 (x0.length : Int))]), (9, .val false [.sl false 7 (CV.frzEs (x0.map Say.row))]), (8, .val false [.lit (.int .i64 y2)]), (4, .val false [.lit (.int .i64 y2)]), (3, .val false [.sl true 7 (y3.map Say.row)]), (2, .val false [.sl true 7 (([] : List Say).map Say.row)]), (0, .val false [.sl false 7 (CV.frzEs (x0.map Say.row))])], []⟩ (by kernel_rfl) ?_
      cases h1 : (decide (y2 < (x0.length : Int)))
      · have H := bifF h1 H
        refine Tr.cond (b := false) (by kernel_rfl) (fun h => nomatch h) (fun _ => ?_)
        refine Tr.exit ?_
        refine And.intro (fun _ => ?_) (fun h => absurd rfl h)
        have H := Option.some.inj H
        subst H
        have H := Ho5
        dsimp only at H
        exact Exists.intro y3 (And.intro H (St.sub_of [3, 2] [] (by kernel_rfl)))
      · have H := bifT h1 H
        refine Tr.cond (b := true) (by kernel_rfl) (fun _ => ?_) (fun h => nomatch h)
        refine Tr.skip ?_
        show Tr _ _ _ _ _
        refine Tr.seq ?_
        refine Tr.block ?_
        refine Tr.at ?_
        refine LAt.runU tOk 4 (by kernel_rfl) ?_
        obtain ⟨v6, ev6, H⟩ := bind_some H
        refine LAt.indexF tOk (t := 24) (ty := 0) (x := (.tmp 16)) (y := (.tmp 17)) (d := 18) (g := none) ⟨(.slot 16), [], 0, false, 7, (CV.frzEs (x0.map Say.row))⟩ y2 (Say.row v6) _ (by kernel_rfl) (by kernel_rfl) (by kernel_rfl) (by kernel_rfl) rfl (idx_isF ev6) rfl ?_
        refine LAt.runU tOk 1 (by kernel_rfl) ?_
        obtain ⟨r7, er7, H⟩ := bind_some H
        refine LAt.callU tOk [.rd] (f := 133) (av := #[.tmp 19]) (ats := #[149]) (d := (some 20)) (ty := 116) (g := none) (by kernel_rfl) (by kernel_rfl) (by kernel_rfl) [] (laws_toSay n v6 r7 er7) (by kernel_rfl) (.inl rfl) ?_
        obtain ⟨v8, ev8, H⟩ := bind_some H
        refine LAt.indexO tOk (t := 32) (ty := 0) (x := (.tmp 14)) (y := (.tmp 15)) (d := 21) (g := none) ⟨(.slot 3), [], 0, true, 7, (y3.map Say.row)⟩ y2 (y2.toNat) (Say.row v8) _ (by kernel_rfl) (by kernel_rfl) (by kernel_rfl) (by kernel_rfl) rfl (by kernel_rfl) (idx_isE ev8) rfl rfl ?_
        refine LAt.storeK tOk (t := 116) (ty := 0) (ad := (.tmp 21)) (x := (.tmp 20)) (g := none) ⟨.st [(0, 1, 3), (1, 1, 4), (2, 5, 70)], 7, 56, [.lit (.int .i64 0), .lit (.bool false), .lit (.int .i64 0), .lit (.int .i64 0), .lit (.int .i64 0), .lit (.int .i64 0), .lit (.int .i64 0)]⟩ true (Say.row r7) (.slot 3) [(0, (y2.toNat))] [(0, (y2.toNat))] 7 0 [.sl true 7 (y3.map Say.row)] (Say.row v8) [.sl true 7 (y3.map Say.row)] [.sl true 7 ((y3.set (y2.toNat) r7).map Say.row)] (by kernel_rfl) (by kernel_rfl) (by kernel_rfl) (by kernel_rfl) (by kernel_rfl) (by kernel_rfl) (getQ_elem rfl (idx_get ev8).2) rfl (by intro h; cases h) (by kernel_rfl) (by kernel_rfl) (by kernel_rfl) (modQ_elem (new := r7) rfl (idx_get ev8).2 rfl) (by kernel_rfl) ?_
        refine LAt.doneU [3, 21, 20, 19, 18, 17, 16, 15, 11, 10, 9, 8, 4, 2, 0, 14] [] (by kernel_rfl) ?_
        show Tr _ _ _ _ _
        refine Tr.at ?_
        refine LAt.runU tOk 3 (by kernel_rfl) ?_
        refine LAt.doneU [4, 13, 12, 3, 21, 20, 19, 18, 17, 16, 15, 11, 10, 9, 8, 2, 0, 14] [] (by kernel_rfl) ?_
        exact Exists.intro (mo5, ((IntKind.wrap .i64 (y2 + 1)), (y3.set (y2.toNat) r7))) (And.intro H (And.intro (Nat.lt_succ_self mo5) (St.sub_of [4, 3, 2, 0] [] (by kernel_rfl))))
  · rintro y4 H
    have H : (laws_toSayS_J1 n y4) = some r := H
    unfold laws_toSayS_J1 at H
    show Tr _ _ _ _ _
    refine Tr.rs ?_
    refine LAt.runU tOk 2 (by kernel_rfl) ?_
    refine LAt.doneU [2, 3] [] (by kernel_rfl) ?_
    refine Tr.ret ?_
    have H := Option.some.inj H
    subst H
    exact Fin.of _ [(false, [.sl true 7 (y4.map Say.row)])] (by kernel_rfl) rfl rfl

def laws_toNetF (n : Nat) (x0 : Net) : Option (Net) :=
  ((laws_toBridgeSF n x0.Bridges).bind fun r1 => ((laws_toLinkSF n x0.Links).bind fun r2 => ((laws_toSaySF n x0.Said).bind fun r3 => (some (⟨r1, r2, r3⟩ : Net)))))
/-- loop.example/g00326/laws.toNet -/
theorem laws_toNet (n : Nat) (x0 : Net) (r : Net) (H : laws_toNetF n x0 = some r) : LCall Try.prog 17 [.val true (CV.frzRow (Net.row x0))] [.val true (Net.row r)] [] := by
  refine LCall.of_body tOk Try.func17 rfl (c := (.seq (.region 0 (rg Try.f17 0) false) (.seq (.region 1 (rg Try.f17 1) false) (.seq (.region 2 (rg Try.f17 2) false) (.seq (.region 3 (rg Try.f17 3) false) (.seq (.region 4 (rg Try.f17 4) false) (.seq (.region 5 (rg Try.f17 5) false) .ret))))))) (by kernel_rfl) (Nat.le_of_ble_eq_true (by kernel_rfl)) 0 (rs := [.cell 2 34]) rfl [] .nil [(true, (Net.row r))] [] [] fun cx => ?_
  show Tr _ _ _ ⟨17, 0, [(0, .val true (CV.frzRow (Net.row x0)))], []⟩ _
  unfold laws_toNetF at H
  refine Tr.rs ?_
  refine LAt.runU tOk 2 (by kernel_rfl) ?_
  refine LAt.doneU [2, 1] [2, 1] (by kernel_rfl) ?_
  refine Tr.rs ?_
  refine LAt.runU tOk 1 (by kernel_rfl) ?_
  refine LAt.doneU [3, 2, 1] [3, 2, 1] (by kernel_rfl) ?_
  refine Tr.rs ?_
  refine LAt.runU tOk 2 (by kernel_rfl) ?_
  obtain ⟨r1, er1, H⟩ := bind_some H
  refine LAt.callU tOk [.rd] (f := 67) (av := #[.tmp 5]) (ats := #[22]) (d := (some 6)) (ty := 30) (g := none) (by kernel_rfl) (by kernel_rfl) (by kernel_rfl) [] (laws_toBridgeS n x0.Bridges r1 er1) (by kernel_rfl) (.inl rfl) ?_
  refine LAt.runU tOk 2 (by kernel_rfl) ?_
  refine LAt.doneU [3, 2, 1] [3, 2, 1] (by kernel_rfl) ?_
  refine Tr.rs ?_
  refine LAt.runU tOk 2 (by kernel_rfl) ?_
  obtain ⟨r2, er2, H⟩ := bind_some H
  refine LAt.callU tOk [.rd] (f := 68) (av := #[.tmp 9]) (ats := #[23]) (d := (some 10)) (ty := 31) (g := none) (by kernel_rfl) (by kernel_rfl) (by kernel_rfl) [] (laws_toLinkS n x0.Links r2 er2) (by kernel_rfl) (.inl rfl) ?_
  refine LAt.runU tOk 2 (by kernel_rfl) ?_
  refine LAt.doneU [3, 2, 1] [3, 2, 1] (by kernel_rfl) ?_
  refine Tr.rs ?_
  refine LAt.runU tOk 2 (by kernel_rfl) ?_
  obtain ⟨r3, er3, H⟩ := bind_some H
  refine LAt.callU tOk [.rd] (f := 69) (av := #[.tmp 13]) (ats := #[24]) (d := (some 14)) (ty := 32) (g := none) (by kernel_rfl) (by kernel_rfl) (by kernel_rfl) [] (laws_toSayS n x0.Said r3 er3) (by kernel_rfl) (.inl rfl) ?_
  refine LAt.runU tOk 2 (by kernel_rfl) ?_
  refine LAt.doneU [3, 2] [3, 2] (by kernel_rfl) ?_
  refine Tr.rs ?_
  refine LAt.runU tOk 2 (by kernel_rfl) ?_
  refine LAt.doneU [2] [2] (by kernel_rfl) ?_
  refine Tr.ret ?_
  have H := Option.some.inj H
  subst H
  exact Fin.of _ [(true, [.sl true 11 (r1.map Bridge.row), .sl true 4 (r2.map Link.row), .sl true 7 (r3.map Say.row)])] (by kernel_rfl) rfl rfl

def spec_l1InF (n : Nat) (x0 : Int) (x1 : Int) (x2 : Int) : Option (Bool) :=
  (bif (decide (x0 ≥ x1)) then (some (decide (x0 ≤ x2))) else (some false))
/-- loop.example/g00326/spec.l1In -/
theorem spec_l1In (n : Nat) (x0 : Int) (x1 : Int) (x2 : Int) (r : Bool) (H : spec_l1InF n x0 x1 x2 = some r) : LCall Try.prog 65 [.val false [.lit (.int .i64 x0)], .val false [.lit (.int .i64 x1)], .val false [.lit (.int .i64 x2)]] [.val false [.lit (.bool r)]] [] := by
  refine LCall.of_body tOk Try.func65 rfl (c := (.seq (.region 0 (rg Try.f65 0) false) (.seq (.region 1 (rg Try.f65 1) false) .ret))) (by kernel_rfl) (Nat.le_of_ble_eq_true (by kernel_rfl)) 0 (rs := [.tmp 6]) rfl [] .nil [(false, [.lit (.bool r)])] [] [] fun cx => ?_
  show Tr _ _ _ ⟨15, 0, [(0, .val false [.lit (.int .i64 x0)]), (1, .val false [.lit (.int .i64 x1)]), (2, .val false [.lit (.int .i64 x2)])], []⟩ _
  unfold spec_l1InF at H
  refine Tr.rs ?_
  refine LAt.runU tOk 1 (by kernel_rfl) ?_
  refine LAt.doneU [6, 0, 1, 2] [] (by kernel_rfl) ?_
  refine Tr.rs ?_
  refine LAt.runU tOk 4 (by kernel_rfl) ?_
  refine LAt.to ⟨15, 0, [(10, .val false [.lit (.bool (decide (x0 ≥ x1)))]), (9, .val false [.lit (.bool (decide (x0 ≥ x1)))]), (8, .val false [.lit (.int .i64 x1)]), (7, .val false [.lit (.int .i64 x0)]), (6, .val false [.lit (.bool false)]), (0, .val false [.lit (.int .i64 x0)]), (1, .val false [.lit (.int .i64 x1)]), (2, .val false [.lit (.int .i64 x2)])], []⟩ (by kernel_rfl) ?_
  cases h1 : (decide (x0 ≥ x1))
  · have H := bifF h1 H
    refine LAt.runU tOk 5 (by kernel_rfl) ?_
    refine LAt.doneU [6] [] (by kernel_rfl) ?_
    refine Tr.ret ?_
    have H := Option.some.inj H
    subst H
    exact Fin.of _ [(false, [.lit (.bool false)])] (by kernel_rfl) rfl rfl
  · have H := bifT h1 H
    refine LAt.runU tOk 5 (by kernel_rfl) ?_
    refine LAt.doneU [6] [] (by kernel_rfl) ?_
    refine Tr.ret ?_
    have H := Option.some.inj H
    subst H
    exact Fin.of _ [(false, [.lit (.bool (decide (x0 ≤ x2)))])] (by kernel_rfl) rfl rfl

def spec_l15Has_J1 (n : Nat) : Option (Bool) :=
  (some false)
def spec_l15Has_L2 (n : Nat) : Nat → (List Int) → Int → Int → Option ((Unit) ⊕ (Bool))
  | 0, _, _, _ => none
  | mo2 + 1, x0, x1, y1 => (bif (decide (y1 < (x0.length : Int))) then ((idx x0 y1).bind fun v3 => (bif (v3 == x1) then (some (Sum.inr true)) else (spec_l15Has_L2 n mo2 x0 x1 (IntKind.wrap .i64 (y1 + 1))))) else (some (Sum.inl ())))
def spec_l15HasF (n : Nat) (x0 : (List Int)) (x1 : Int) : Option (Bool) :=
  ((spec_l15Has_L2 n n x0 x1 0).bind fun o => match o with | .inl _ => (spec_l15Has_J1 n) | .inr r => some r)
/-- loop.example/g00326/spec.l15Has -/
theorem spec_l15Has (n : Nat) (x0 : (List Int)) (x1 : Int) (r : Bool) (H : spec_l15HasF n x0 x1 = some r) : LCall Try.prog 66 [.val false [.sl false 1 (CV.frzEs (x0.map intRow))], .val false [.lit (.int .i64 x1)]] [.val false [.lit (.bool r)]] [] := by
  refine LCall.of_body tOk Try.func66 rfl (c := (.seq (.region 0 (rg Try.f66 0) false) (.seq (.seq (.region 1 (rg Try.f66 1) false) (.block 0 (.loop (.seq (.seq (.region 2 (rg Try.f66 2) false) (.cond (.tmp 9) .skip (.exit 0))) (.seq (.block 1 (.seq (.region 4 (rg Try.f66 4) false) (.cond (.tmp 17) (.seq (.region 5 (rg Try.f66 5) false) .ret) .skip))) (.region 3 (rg Try.f66 3) false)))))) (.seq (.region 6 (rg Try.f66 6) false) .ret)))) (by kernel_rfl) (Nat.le_of_ble_eq_true (by kernel_rfl)) 0 (rs := [.tmp 4]) rfl [] .nil [(false, [.lit (.bool r)])] [] [] fun cx => ?_
  show Tr _ _ _ ⟨18, 0, [(0, .val false [.sl false 1 (CV.frzEs (x0.map intRow))]), (1, .val false [.lit (.int .i64 x1)])], []⟩ _
  unfold spec_l15HasF at H
  refine Tr.rs ?_
  refine LAt.runU tOk 1 (by kernel_rfl) ?_
  refine LAt.doneU [4, 0, 1] [] (by kernel_rfl) ?_
  refine Tr.seq ?_
  refine Tr.rs ?_
  refine LAt.runU tOk 1 (by kernel_rfl) ?_
  refine LAt.doneU [5, 4, 0, 1] [] (by kernel_rfl) ?_
  obtain ⟨o2, eo2, Ho2⟩ := bind_some H
  clear H
  refine Tr.mid (ι := Unit) (fun v => ⟨18, 0, [(4, .val false [.lit (.bool false)])], []⟩) (fun v => spec_l15Has_J1 n = some r) ?_ ?_
  · refine Tr.block ?_
    refine Tr.loop (ι := Nat × (Int)) (fun v => ⟨18, 0, [(5, .val false [.lit (.int .i64 v.2)]), (4, .val false [.lit (.bool false)]), (0, .val false [.sl false 1 (CV.frzEs (x0.map intRow))]), (1, .val false [.lit (.int .i64 x1)])], []⟩) (fun v => spec_l15Has_L2 n v.1 x0 x1 v.2 = some o2) (fun v => v.1) (n, 0) eo2 (St.sub_of [5, 4, 0, 1] [] (by kernel_rfl)) ?_
    rintro ⟨mo2, y1⟩ H
    have H : spec_l15Has_L2 n mo2 x0 x1 y1 = some o2 := H
    obtain _ | mo2 := mo2
    · cases (show (none : Option _) = some o2 from H)
    · rw [spec_l15Has_L2] at H
      refine Tr.seq ?_
      refine Tr.rs ?_
      refine LAt.runU tOk 2 (by kernel_rfl) ?_
      refine LAt.lenE tOk (t := 27) (ty := 3) (e := 3) (x := (.tmp 7)) (d := 8) (g := none) ⟨(.slot 7), [], 0, false, 1, (CV.frzEs (x0.map intRow))⟩ (x0).length _ (by kernel_rfl) (by kernel_rfl) (by kernel_rfl) (by kernel_rfl) (by kernel_rfl) (frz_len _ _) rfl ?_
      refine LAt.runU tOk 1 (by kernel_rfl) ?_
      refine LAt.doneU [9, 8, 7, 6, 5, 4, 0, 1] [] (by kernel_rfl) ?_
      refine Tr.to ⟨18, 0, [(9, .val false [.lit (.bool (decide (y1 < (x0.length : Int))))]), (8, .val false [.lit (.int .i64 (x0.length : Int))]), (7, .val false [.sl false 1 (CV.frzEs (x0.map intRow))]), (6, .val false [.lit (.int .i64 y1)]), (5, .val false [.lit (.int .i64 y1)]), (4, .val false [.lit (.bool false)]), (0, .val false [.sl false 1 (CV.frzEs (x0.map intRow))]), (1, .val false [.lit (.int .i64 x1)])], []⟩ (by kernel_rfl) ?_
      cases h1 : (decide (y1 < (x0.length : Int)))
      · have H := bifF h1 H
        refine Tr.cond (b := false) (by kernel_rfl) (fun h => nomatch h) (fun _ => ?_)
        refine Tr.exit ?_
        refine And.intro (fun _ => ?_) (fun h => absurd rfl h)
        have H := Option.some.inj H
        subst H
        have H := Ho2
        dsimp only at H
        exact Exists.intro () (And.intro H (St.sub_of [4] [] (by kernel_rfl)))
      · have H := bifT h1 H
        refine Tr.cond (b := true) (by kernel_rfl) (fun _ => ?_) (fun h => nomatch h)
        refine Tr.skip ?_
        show Tr _ _ _ _ _
        refine Tr.seq ?_
        refine Tr.block ?_
        refine Tr.rs ?_
        refine LAt.runU tOk 2 (by kernel_rfl) ?_
        obtain ⟨v3, ev3, H⟩ := bind_some H
        refine LAt.indexF tOk (t := 27) (ty := 0) (x := (.tmp 12)) (y := (.tmp 13)) (d := 14) (g := none) ⟨(.slot 12), [], 0, false, 1, (CV.frzEs (x0.map intRow))⟩ y1 [.lit (.int .i64 v3)] _ (by kernel_rfl) (by kernel_rfl) (by kernel_rfl) (by kernel_rfl) rfl (idx_isF ev3) rfl ?_
        refine LAt.runU tOk 3 (by kernel_rfl) ?_
        refine LAt.doneU [17, 16, 15, 14, 13, 12, 9, 8, 7, 6, 5, 4, 0, 1] [] (by kernel_rfl) ?_
        refine Tr.to ⟨18, 0, [(17, .val false [.lit (.bool (v3 == x1))]), (16, .val false [.lit (.int .i64 x1)]), (15, .val false [.lit (.int .i64 v3)]), (14, .fad ([.lit (.int .i64 v3)])), (13, .val false [.lit (.int .i64 y1)]), (12, .val false [.sl false 1 (CV.frzEs (x0.map intRow))]), (9, .val false [.lit (.bool true)]), (8, .val false [.lit (.int .i64 (x0.length : Int))]), (7, .val false [.sl false 1 (CV.frzEs (x0.map intRow))]), (6, .val false [.lit (.int .i64 y1)]), (5, .val false [.lit (.int .i64 y1)]), (4, .val false [.lit (.bool false)]), (0, .val false [.sl false 1 (CV.frzEs (x0.map intRow))]), (1, .val false [.lit (.int .i64 x1)])], []⟩ (by kernel_rfl) ?_
        cases h2 : (v3 == x1)
        · have H := bifF h2 H
          refine Tr.cond (b := false) (by kernel_rfl) (fun h => nomatch h) (fun _ => ?_)
          refine Tr.skip ?_
          show Tr _ _ _ _ _
          refine Tr.at ?_
          refine LAt.runU tOk 3 (by kernel_rfl) ?_
          refine LAt.doneU [5, 11, 10, 17, 16, 15, 14, 13, 12, 9, 8, 7, 6, 4, 0, 1] [] (by kernel_rfl) ?_
          exact Exists.intro (mo2, (IntKind.wrap .i64 (y1 + 1))) (And.intro H (And.intro (Nat.lt_succ_self mo2) (St.sub_of [5, 4, 0, 1] [] (by kernel_rfl))))
        · have H := bifT h2 H
          refine Tr.cond (b := true) (by kernel_rfl) (fun _ => ?_) (fun h => nomatch h)
          refine Tr.rs ?_
          refine LAt.runU tOk 1 (by kernel_rfl) ?_
          refine LAt.doneU [4, 17, 16, 15, 14, 13, 12, 9, 8, 7, 6, 5, 0, 1] [] (by kernel_rfl) ?_
          refine Tr.ret ?_
          have H := Option.some.inj H
          subst H
          have H := Ho2
          dsimp only at H
          have H := Option.some.inj H
          subst H
          exact Fin.of _ [(false, [.lit (.bool true)])] (by kernel_rfl) rfl rfl
  · rintro _ H
    have H : (spec_l15Has_J1 n) = some r := H
    unfold spec_l15Has_J1 at H
    show Tr _ _ _ _ _
    refine Tr.rs ?_
    refine LAt.runU tOk 1 (by kernel_rfl) ?_
    refine LAt.doneU [4] [] (by kernel_rfl) ?_
    refine Tr.ret ?_
    have H := Option.some.inj H
    subst H
    exact Fin.of _ [(false, [.lit (.bool false)])] (by kernel_rfl) rfl rfl

def spec_l15More_J1 (n : Nat) (y4 : (List Int)) : Option ((List Int)) :=
  (some y4)
def spec_l15More_J4 (n : Nat) (k : (Int × (List Int) → Option (((List Int)) ⊕ ((List Int))))) (v9 : Link) (y15 : (List Int)) (y2 : Int) (y16 : Bool) (y17 : Bool) (y18 : Bool) (y19 : Bool) (y20 : Bool) : Option (((List Int)) ⊕ ((List Int))) :=
  (bif y16 then (bif (decide (y15.length + [v9.A].length ≤ 268435456)) then (k ((IntKind.wrap .i64 (y2 + 1)), (y15 ++ [v9.A]))) else none) else (k ((IntKind.wrap .i64 (y2 + 1)), y15)))
def spec_l15More_J3 (n : Nat) (k : (Int × (List Int) → Option (((List Int)) ⊕ ((List Int))))) (v9 : Link) (x0 : Net) (y2 : Int) (y10 : Bool) (y11 : Bool) (y12 : Bool) (y13 : Bool) (y14 : Bool) (y15 : (List Int)) : Option (((List Int)) ⊕ ((List Int))) :=
  ((spec_l15HasF n y15 v9.B).bind fun r22 => (bif r22 then ((spec_l15HasF n y15 v9.A).bind fun r23 => (bif (!r23) then ((spec_l1InF n v9.A 0 (IntKind.wrap .i64 ((x0.Bridges.length : Int) - 1))).bind fun r24 => (spec_l15More_J4 n k v9 y15 y2 r24 true true true true)) else (spec_l15More_J4 n k v9 y15 y2 false false false true true))) else (spec_l15More_J4 n k v9 y15 y2 false false false false false)))
def spec_l15More_J5 (n : Nat) (k : (Int × (List Int) → Option (((List Int)) ⊕ ((List Int))))) (v9 : Link) (x0 : Net) (y2 : Int) (y3 : (List Int)) (y25 : Bool) (y26 : Bool) (y27 : Bool) (y28 : Bool) (y29 : Bool) : Option (((List Int)) ⊕ ((List Int))) :=
  (bif y25 then (bif (decide (y3.length + [v9.B].length ≤ 268435456)) then (spec_l15More_J3 n k v9 x0 y2 true y26 y27 y28 y29 (y3 ++ [v9.B])) else none) else (spec_l15More_J3 n k v9 x0 y2 false y26 y27 y28 y29 y3))
def spec_l15More_L2 (n : Nat) : Nat → Net → (List Int) → Int → (List Int) → Option (((List Int)) ⊕ ((List Int)))
  | 0, _, _, _, _ => none
  | mo5 + 1, x0, x1, y2, y3 => (bif (decide (y2 < (x1.length : Int))) then ((idx x1 y2).bind fun v6 => ((spec_l1InF n v6 0 (IntKind.wrap .i64 ((x0.Links.length : Int) - 1))).bind fun r7 => (bif (!r7) then (spec_l15More_L2 n mo5 x0 x1 (IntKind.wrap .i64 (y2 + 1)) y3) else ((idx x1 y2).bind fun v8 => ((idx x0.Links v8).bind fun v9 => ((spec_l15HasF n y3 v9.A).bind fun r31 => (bif r31 then ((spec_l15HasF n y3 v9.B).bind fun r32 => (bif (!r32) then ((spec_l1InF n v9.B 0 (IntKind.wrap .i64 ((x0.Bridges.length : Int) - 1))).bind fun r33 => (spec_l15More_J5 n (fun v => spec_l15More_L2 n mo5 x0 x1 v.1 v.2) v9 x0 y2 y3 r33 true true true true)) else (spec_l15More_J5 n (fun v => spec_l15More_L2 n mo5 x0 x1 v.1 v.2) v9 x0 y2 y3 false false false true true))) else (spec_l15More_J5 n (fun v => spec_l15More_L2 n mo5 x0 x1 v.1 v.2) v9 x0 y2 y3 false false false false false)))))))) else (some (Sum.inl y3)))
def spec_l15MoreF (n : Nat) (x0 : Net) (x1 : (List Int)) (x2 : (List Int)) : Option ((List Int)) :=
  (bif (decide (([] : List Int).length + x2.length ≤ 268435456)) then ((spec_l15More_L2 n n x0 x1 0 (([] : List Int) ++ x2)).bind fun o => match o with | .inl y4 => (spec_l15More_J1 n y4) | .inr r => some r) else none)
/-- loop.example/g00326/spec.l15More -/
theorem spec_l15More (n : Nat) (x0 : Net) (x1 : (List Int)) (x2 : (List Int)) (r : (List Int)) (H : spec_l15MoreF n x0 x1 x2 = some r) : LCall Try.prog 84 [.val true (CV.frzRow (Net.row x0)), .val false [.sl false 1 (CV.frzEs (x1.map intRow))], .val false [.sl false 1 (CV.frzEs (x2.map intRow))]] [.val false [.sl true 1 (r.map intRow)]] [] := by
  refine LCall.of_body tOk Try.func84 rfl (c := (.seq (.region 0 (rg Try.f84 0) false) (.seq (.region 1 (rg Try.f84 1) false) (.seq (.seq (.region 2 (rg Try.f84 2) false) (.block 0 (.loop (.seq (.seq (.region 3 (rg Try.f84 3) false) (.cond (.tmp 16) .skip (.exit 0))) (.seq (.block 1 (.seq (.seq (.region 5 (rg Try.f84 5) true) (.cond (.tmp 28) (.exit 1) .skip)) (.seq (.region 6 (rg Try.f84 6) true) (.seq (.seq (.region 7 (rg Try.f84 7) false) (.cond (.tmp 56) (.region 8 (rg Try.f84 8) false) .skip)) (.seq (.region 9 (rg Try.f84 9) false) (.cond (.tmp 81) (.region 10 (rg Try.f84 10) false) .skip)))))) (.region 4 (rg Try.f84 4) false)))))) (.seq (.region 11 (rg Try.f84 11) false) .ret))))) (by kernel_rfl) (Nat.le_of_ble_eq_true (by kernel_rfl)) 0 (rs := [.tmp 6]) rfl [] .nil [(false, [.sl true 1 (r.map intRow)])] [] [] fun cx => ?_
  show Tr _ _ _ ⟨88, 0, [(0, .val true (CV.frzRow (Net.row x0))), (1, .val false [.sl false 1 (CV.frzEs (x1.map intRow))]), (2, .val false [.sl false 1 (CV.frzEs (x2.map intRow))])], []⟩ _
  unfold spec_l15MoreF at H
  refine Tr.rs ?_
  refine LAt.runU tOk 2 (by kernel_rfl) ?_
  refine LAt.doneU [6, 3, 1, 2] [3] (by kernel_rfl) ?_
  refine Tr.rs ?_
  refine LAt.runU tOk 2 (by kernel_rfl) ?_
  obtain ⟨hg1, H⟩ := guard_some H
  refine LAt.appCU tOk (t := 27) (ty := 27) (e := 3) (x := (.tmp 10)) (y := (.tmp 11)) (d := 12) (g := none) ⟨.int .i64, 1, 8, [.lit (.int .i64 0)]⟩ intRow ([] : List Int) x2 ⟨(.slot 11), [], 0, false, 1, (CV.frzEs (x2.map intRow))⟩ (by kernel_rfl) (by kernel_rfl) (by kernel_rfl) (by kernel_rfl) (by kernel_rfl) (by kernel_rfl) (by kernel_rfl) (by kernel_rfl) (by kernel_rfl) (by kernel_rfl) (by kernel_rfl) (.inr rfl) (fun _ => rfl) (fun _ => rfl) hg1 ?_
  refine LAt.moveU (T := lk tab) (ty := 27) (x := (.tmp 12)) (d := 7) (g := none) false [.sl true 1 ((([] : List Int) ++ x2).map intRow)] (by kernel_rfl) (by kernel_rfl) (by kernel_rfl) (by kernel_rfl) (by kernel_rfl) ?_
  refine LAt.doneU [7, 6, 3, 1] [3] (by kernel_rfl) ?_
  refine Tr.seq ?_
  refine Tr.rs ?_
  refine LAt.runU tOk 1 (by kernel_rfl) ?_
  refine LAt.doneU [8, 7, 6, 3, 1] [3] (by kernel_rfl) ?_
  obtain ⟨o5, eo5, Ho5⟩ := bind_some H
  clear H
  refine Tr.mid (ι := (List Int)) (fun v => ⟨88, 0, [(7, .val false [.sl true 1 (v.map intRow)]), (6, .val false [.sl true 1 (([] : List Int).map intRow)])], []⟩) (fun v => spec_l15More_J1 n v = some r) ?_ ?_
  · refine Tr.block ?_
    refine Tr.loop (ι := Nat × (Int × (List Int))) (fun v => ⟨88, 0, [(8, .val false [.lit (.int .i64 v.2.1)]), (7, .val false [.sl true 1 (v.2.2.map intRow)]), (6, .val false [.sl true 1 (([] : List Int).map intRow)]), (3, .adr (.box 3) [(0, 0)] 3 0), (1, .val false [.sl false 1 (CV.frzEs (x1.map intRow))])], [(3, (CV.frzRow (Net.row x0)))]⟩) (fun v => spec_l15More_L2 n v.1 x0 x1 v.2.1 v.2.2 = some o5) (fun v => v.1) (n, (0, (([] : List Int) ++ x2))) eo5 (St.sub_of [8, 7, 6, 3, 1] [3] (by kernel_rfl)) ?_
    rintro ⟨mo5, y2, y3⟩ H
    have H : spec_l15More_L2 n mo5 x0 x1 y2 y3 = some o5 := H
    obtain _ | mo5 := mo5
    · cases (show (none : Option _) = some o5 from H)
    · rw [spec_l15More_L2] at H
      refine Tr.seq ?_
      refine Tr.rs ?_
      refine LAt.runU tOk 2 (by kernel_rfl) ?_
      refine LAt.lenE tOk (t := 27) (ty := 3) (e := 3) (x := (.tmp 14)) (d := 15) (g := none) ⟨(.slot 14), [], 0, false, 1, (CV.frzEs (x1.map intRow))⟩ (x1).length _ (by kernel_rfl) (by kernel_rfl) (by kernel_rfl) (by kernel_rfl) (by kernel_rfl) (frz_len _ _) rfl ?_
      refine LAt.runU tOk 1 (by kernel_rfl) ?_
      refine LAt.doneU [16, 15, 14, 13, 8, 7, 6, 3, 1] [3] (by kernel_rfl) ?_
      refine Tr.to ⟨88, 0, [(16, .val false [.lit (.bool (decide (y2 < (x1.length : Int))))]), (15, .val false [.lit (.int .i64 (x1.length : Int))]), (14, .val false [.sl false 1 (CV.frzEs (x1.map intRow))]), (13, .val false [.lit (.int .i64 y2)]), (8, .val false [.lit (.int .i64 y2)]), (7, .val false [.sl true 1 (y3.map intRow)]), (6, .val false [.sl true 1 (([] : List Int).map intRow)]), (3, .adr (.box 3) [(0, 0)] 3 0), (1, .val false [.sl false 1 (CV.frzEs (x1.map intRow))])], [(3, (CV.frzRow (Net.row x0)))]⟩ (by kernel_rfl) ?_
      cases h1 : (decide (y2 < (x1.length : Int)))
      · have H := bifF h1 H
        refine Tr.cond (b := false) (by kernel_rfl) (fun h => nomatch h) (fun _ => ?_)
        refine Tr.exit ?_
        refine And.intro (fun _ => ?_) (fun h => absurd rfl h)
        have H := Option.some.inj H
        subst H
        have H := Ho5
        dsimp only at H
        exact Exists.intro y3 (And.intro H (St.sub_of [7, 6] [] (by kernel_rfl)))
      · have H := bifT h1 H
        refine Tr.cond (b := true) (by kernel_rfl) (fun _ => ?_) (fun h => nomatch h)
        refine Tr.skip ?_
        show Tr _ _ _ _ _
        refine Tr.seq ?_
        refine Tr.block ?_
        refine Tr.seq ?_
        obtain ⟨v6, ev6, H⟩ := bind_some H
        obtain ⟨r7, er7, H⟩ := bind_some H
        refine Tr.draws mixed 10 (by kernel_rfl) ⟨88, 0, [(28, .val false [.lit (.bool (!r7))]), (27, .val false [.lit (.bool r7)]), (26, .val false [.lit (.int .i64 (IntKind.wrap .i64 ((x0.Links.length : Int) - 1)))]), (25, .val false [.lit (.int .i64 (x0.Links.length : Int))]), (24, .ref (.box 3) [(0, 0)] 3 1 1 false), (23, .adr (.box 3) [(0, 0)] 3 1), (22, .val false [.lit (.int .i64 v6)]), (21, .fad ([.lit (.int .i64 v6)])), (20, .val false [.lit (.int .i64 y2)]), (19, .val false [.sl false 1 (CV.frzEs (x1.map intRow))]), (16, .val false [.lit (.bool true)]), (15, .val false [.lit (.int .i64 (x1.length : Int))]), (14, .val false [.sl false 1 (CV.frzEs (x1.map intRow))]), (13, .val false [.lit (.int .i64 y2)]), (8, .val false [.lit (.int .i64 y2)]), (7, .val false [.sl true 1 (y3.map intRow)]), (6, .val false [.sl true 1 (([] : List Int).map intRow)]), (3, .adr (.box 3) [(0, 0)] 3 0), (1, .val false [.sl false 1 (CV.frzEs (x1.map intRow))])], [(3, (CV.frzRow (Net.row x0)))]⟩ (fun cx => ?_) ?_
        · refine AT.runU tOk [(0, []), (1, [])] 8 [] [1, 0] rfl (by kernel_rfl) (fun cx => ?_)
          refine AT.indexF tOk 2 (t := 27) (ty := 0) (x := (.tmp 19)) (y := (.tmp 20)) (d := 21) (g := none) ⟨(.slot 19), [], 0, false, 1, (CV.frzEs (x1.map intRow))⟩ y2 [.lit (.int .i64 v6)] _ (by kernel_rfl) (by kernel_rfl) (by kernel_rfl) (by kernel_rfl) (by kernel_rfl) (by kernel_rfl) rfl (idx_isF ev6) rfl (fun cx => ?_)
          refine AT.runU tOk [(3, []), (4, []), (5, [8])] 4 [⟨[8], 31, 23, 24⟩] [5, 4, 3, 2, 1, 0] rfl (by kernel_rfl) (fun cx => ?_)
          refine AT.lenE tOk 6 (t := 31) (ty := 3) (e := 96) (x := (.tmp 24)) (d := 25) (g := none) ⟨(.box 3), [(0, 0)], 1, false, 4, (CV.frzEs (x0.Links.map Link.row))⟩ (x0.Links).length _ (by kernel_rfl) (by kernel_rfl) (by kernel_rfl) (by kernel_rfl) (by kernel_rfl) (by kernel_rfl) (by kernel_rfl) (frz_len _ _) rfl (fun cx => ?_)
          refine AT.runU tOk [(7, [])] 2 [⟨[8], 31, 23, 24⟩] [7, 6, 5, 4, 3, 2, 1, 0] rfl (by kernel_rfl) (fun cx => ?_)
          refine AT.big1 tOk 8 (by kernel_rfl) (by kernel_rfl) ?_
          refine LAt.callU tOk [.rd, .rd, .rd] (f := 65) (av := #[.tmp 22, .const (.int .i64 0), .tmp 26]) (ats := #[3, 3, 3]) (d := (some 27)) (ty := 4) (g := none) (by kernel_rfl) (by kernel_rfl) (by kernel_rfl) [] (spec_l1In n v6 0 (IntKind.wrap .i64 ((x0.Links.length : Int) - 1)) r7 er7) (by kernel_rfl) (.inl rfl) ?_
          refine LAt.fin (by kernel_rfl) (And.intro (And.intro (by kernel_rfl) (by kernel_rfl)) ?_)
          refine AT.runU tOk [(9, [])] 0 [⟨[8], 31, 23, 24⟩] [9, 8, 7, 6, 5, 4, 3, 2, 1, 0] rfl (by kernel_rfl) (fun cx => ?_)
          exact AT.done [28, 27, 26, 25, 24, 23, 22, 21, 20, 19, 16, 15, 14, 13, 8, 7, 6, 3, 1] [3] _ (by kernel_rfl) (by kernel_rfl) rfl
        · refine Tr.to ⟨88, 0, [(28, .val false [.lit (.bool (!r7))]), (27, .val false [.lit (.bool r7)]), (26, .val false [.lit (.int .i64 (IntKind.wrap .i64 ((x0.Links.length : Int) - 1)))]), (25, .val false [.lit (.int .i64 (x0.Links.length : Int))]), (24, .ref (.box 3) [(0, 0)] 3 1 1 false), (23, .adr (.box 3) [(0, 0)] 3 1), (22, .val false [.lit (.int .i64 v6)]), (21, .fad ([.lit (.int .i64 v6)])), (20, .val false [.lit (.int .i64 y2)]), (19, .val false [.sl false 1 (CV.frzEs (x1.map intRow))]), (16, .val false [.lit (.bool true)]), (15, .val false [.lit (.int .i64 (x1.length : Int))]), (14, .val false [.sl false 1 (CV.frzEs (x1.map intRow))]), (13, .val false [.lit (.int .i64 y2)]), (8, .val false [.lit (.int .i64 y2)]), (7, .val false [.sl true 1 (y3.map intRow)]), (6, .val false [.sl true 1 (([] : List Int).map intRow)]), (3, .adr (.box 3) [(0, 0)] 3 0), (1, .val false [.sl false 1 (CV.frzEs (x1.map intRow))])], [(3, (CV.frzRow (Net.row x0)))]⟩ (by kernel_rfl) ?_
          cases h2 : (!r7)
          · have H := bifF h2 H
            refine Tr.cond (b := false) (by kernel_rfl) (fun h => nomatch h) (fun _ => ?_)
            refine Tr.skip ?_
            show Tr _ _ _ _ _
            obtain ⟨v8, ev8, H⟩ := bind_some H
            obtain ⟨v9, ev9, H⟩ := bind_some H
            refine Tr.draws mixed 10 (by kernel_rfl) ⟨88, 0, [(9, .adr (.box 9) [(0, 0)] 4 0), (36, .val true (Link.row v9)), (35, .fad ((Link.row v9))), (34, .val false [.lit (.int .i64 v8)]), (33, .fad ([.lit (.int .i64 v8)])), (32, .val false [.lit (.int .i64 y2)]), (31, .val false [.sl false 1 (CV.frzEs (x1.map intRow))]), (30, .ref (.box 3) [(0, 0)] 3 1 1 false), (29, .adr (.box 3) [(0, 0)] 3 1), (28, .val false [.lit (.bool false)]), (27, .val false [.lit (.bool r7)]), (26, .val false [.lit (.int .i64 (IntKind.wrap .i64 ((x0.Links.length : Int) - 1)))]), (25, .val false [.lit (.int .i64 (x0.Links.length : Int))]), (24, .ref (.box 3) [(0, 0)] 3 1 1 false), (23, .adr (.box 3) [(0, 0)] 3 1), (22, .val false [.lit (.int .i64 v6)]), (21, .fad ([.lit (.int .i64 v6)])), (20, .val false [.lit (.int .i64 y2)]), (19, .val false [.sl false 1 (CV.frzEs (x1.map intRow))]), (16, .val false [.lit (.bool true)]), (15, .val false [.lit (.int .i64 (x1.length : Int))]), (14, .val false [.sl false 1 (CV.frzEs (x1.map intRow))]), (13, .val false [.lit (.int .i64 y2)]), (8, .val false [.lit (.int .i64 y2)]), (7, .val false [.sl true 1 (y3.map intRow)]), (6, .val false [.sl true 1 (([] : List Int).map intRow)]), (3, .adr (.box 3) [(0, 0)] 3 0), (1, .val false [.sl false 1 (CV.frzEs (x1.map intRow))])], [(9, (Link.row v9)), (3, (CV.frzRow (Net.row x0)))]⟩ (fun cx => ?_) ?_
            · refine AT.runU tOk [(0, []), (1, [9]), (2, []), (3, [])] 6 [⟨[9], 31, 29, 30⟩] [3, 2, 1, 0] rfl (by kernel_rfl) (fun cx => ?_)
              refine AT.indexF tOk 4 (t := 27) (ty := 0) (x := (.tmp 31)) (y := (.tmp 32)) (d := 33) (g := none) ⟨(.slot 31), [], 0, false, 1, (CV.frzEs (x1.map intRow))⟩ y2 [.lit (.int .i64 v8)] _ (by kernel_rfl) (by kernel_rfl) (by kernel_rfl) (by kernel_rfl) (by kernel_rfl) (by kernel_rfl) rfl (idx_isF ev8) rfl (fun cx => ?_)
              refine AT.runU tOk [(5, [])] 4 [⟨[9], 31, 29, 30⟩] [5, 4, 3, 2, 1, 0] rfl (by kernel_rfl) (fun cx => ?_)
              refine AT.indexF tOk 6 (t := 31) (ty := 0) (x := (.tmp 30)) (y := (.tmp 34)) (d := 35) (g := none) ⟨(.box 3), [(0, 0)], 1, false, 4, (CV.frzEs (x0.Links.map Link.row))⟩ v8 (Link.row v9) _ (by kernel_rfl) (by kernel_rfl) (by kernel_rfl) (by kernel_rfl) (by kernel_rfl) (by kernel_rfl) rfl (idx_isF ev9) rfl (fun cx => ?_)
              refine AT.runU tOk [(7, [])] 2 [⟨[9], 31, 29, 30⟩] [7, 6, 5, 4, 3, 2, 1, 0] rfl (by kernel_rfl) (fun cx => ?_)
              refine AT.big1 tOk 8 (by kernel_rfl) (by kernel_rfl) ?_
              refine LAt.runU tOk 1 (by kernel_rfl) ?_
              refine LAt.fin (by kernel_rfl) (And.intro (And.intro (by kernel_rfl) (by kernel_rfl)) ?_)
              refine AT.big1 tOk 9 (by kernel_rfl) (by kernel_rfl) ?_
              refine LAt.runU tOk 1 (by kernel_rfl) ?_
              refine LAt.fin (by kernel_rfl) (And.intro (And.intro (by kernel_rfl) (by kernel_rfl)) ?_)
              exact AT.done [9, 36, 35, 34, 33, 32, 31, 30, 29, 28, 27, 26, 25, 24, 23, 22, 21, 20, 19, 16, 15, 14, 13, 8, 7, 6, 3, 1] [9, 3] _ (by kernel_rfl) (by kernel_rfl) rfl
            · refine Tr.seq ?_
              refine Tr.mid (ι := Bool × Bool × Bool × Bool × Bool × (List Int)) (fun v => ⟨88, 0, [(56, .val false [.lit (.bool v.1)]), (48, .val false [.lit (.bool v.2.1)]), (47, .val false [.lit (.bool v.2.2.1)]), (41, .val false [.lit (.bool v.2.2.2.1)]), (40, .val false [.lit (.bool v.2.2.2.2.1)]), (39, .val false [.lit (.int .i64 v9.A)]), (38, .adr (.box 9) [(0, 0)] 4 0), (9, .adr (.box 9) [(0, 0)] 4 0), (36, .val true (Link.row v9)), (35, .fad ((Link.row v9))), (34, .val false [.lit (.int .i64 v8)]), (33, .fad ([.lit (.int .i64 v8)])), (32, .val false [.lit (.int .i64 y2)]), (31, .val false [.sl false 1 (CV.frzEs (x1.map intRow))]), (30, .ref (.box 3) [(0, 0)] 3 1 1 false), (29, .adr (.box 3) [(0, 0)] 3 1), (28, .val false [.lit (.bool false)]), (27, .val false [.lit (.bool r7)]), (26, .val false [.lit (.int .i64 (IntKind.wrap .i64 ((x0.Links.length : Int) - 1)))]), (25, .val false [.lit (.int .i64 (x0.Links.length : Int))]), (24, .ref (.box 3) [(0, 0)] 3 1 1 false), (23, .adr (.box 3) [(0, 0)] 3 1), (22, .val false [.lit (.int .i64 v6)]), (21, .fad ([.lit (.int .i64 v6)])), (20, .val false [.lit (.int .i64 y2)]), (19, .val false [.sl false 1 (CV.frzEs (x1.map intRow))]), (16, .val false [.lit (.bool true)]), (15, .val false [.lit (.int .i64 (x1.length : Int))]), (14, .val false [.sl false 1 (CV.frzEs (x1.map intRow))]), (13, .val false [.lit (.int .i64 y2)]), (8, .val false [.lit (.int .i64 y2)]), (7, .val false [.sl true 1 (v.2.2.2.2.2.map intRow)]), (6, .val false [.sl true 1 (([] : List Int).map intRow)]), (3, .adr (.box 3) [(0, 0)] 3 0), (1, .val false [.sl false 1 (CV.frzEs (x1.map intRow))])], [(9, (Link.row v9)), (3, (CV.frzRow (Net.row x0)))]⟩) (fun v => spec_l15More_J3 n (fun v => spec_l15More_L2 n mo5 x0 x1 v.1 v.2) v9 x0 y2 v.1 v.2.1 v.2.2.1 v.2.2.2.1 v.2.2.2.2.1 v.2.2.2.2.2 = some o5) ?_ ?_
              · refine Tr.seq ?_
                refine Tr.mid (ι := Bool × Bool × Bool × Bool × Bool) (fun v => ⟨88, 0, [(56, .val false [.lit (.bool v.1)]), (48, .val false [.lit (.bool v.2.1)]), (47, .val false [.lit (.bool v.2.2.1)]), (41, .val false [.lit (.bool v.2.2.2.1)]), (40, .val false [.lit (.bool v.2.2.2.2)]), (39, .val false [.lit (.int .i64 v9.A)]), (38, .adr (.box 9) [(0, 0)] 4 0), (37, .ref (.slot 7) [] 0 0 1 false), (9, .adr (.box 9) [(0, 0)] 4 0), (36, .val true (Link.row v9)), (35, .fad ((Link.row v9))), (34, .val false [.lit (.int .i64 v8)]), (33, .fad ([.lit (.int .i64 v8)])), (32, .val false [.lit (.int .i64 y2)]), (31, .val false [.sl false 1 (CV.frzEs (x1.map intRow))]), (30, .ref (.box 3) [(0, 0)] 3 1 1 false), (29, .adr (.box 3) [(0, 0)] 3 1), (28, .val false [.lit (.bool false)]), (27, .val false [.lit (.bool r7)]), (26, .val false [.lit (.int .i64 (IntKind.wrap .i64 ((x0.Links.length : Int) - 1)))]), (25, .val false [.lit (.int .i64 (x0.Links.length : Int))]), (24, .ref (.box 3) [(0, 0)] 3 1 1 false), (23, .adr (.box 3) [(0, 0)] 3 1), (22, .val false [.lit (.int .i64 v6)]), (21, .fad ([.lit (.int .i64 v6)])), (20, .val false [.lit (.int .i64 y2)]), (19, .val false [.sl false 1 (CV.frzEs (x1.map intRow))]), (16, .val false [.lit (.bool true)]), (15, .val false [.lit (.int .i64 (x1.length : Int))]), (14, .val false [.sl false 1 (CV.frzEs (x1.map intRow))]), (13, .val false [.lit (.int .i64 y2)]), (8, .val false [.lit (.int .i64 y2)]), (7, .val false [.sl true 1 (y3.map intRow)]), (6, .val false [.sl true 1 (([] : List Int).map intRow)]), (3, .adr (.box 3) [(0, 0)] 3 0), (1, .val false [.sl false 1 (CV.frzEs (x1.map intRow))])], [(9, (Link.row v9)), (3, (CV.frzRow (Net.row x0)))]⟩) (fun v => spec_l15More_J5 n (fun v => spec_l15More_L2 n mo5 x0 x1 v.1 v.2) v9 x0 y2 y3 v.1 v.2.1 v.2.2.1 v.2.2.2.1 v.2.2.2.2 = some o5) ?_ ?_
                · refine Tr.at ?_
                  refine LAt.runU tOk 3 (by kernel_rfl) ?_
                  obtain ⟨r31, er31, H⟩ := bind_some H
                  refine LAt.callU tOk [.rd, .rd] (f := 66) (av := #[.tmp 37, .tmp 39]) (ats := #[27, 3]) (d := (some 40)) (ty := 4) (g := none) (by kernel_rfl) (by kernel_rfl) (by kernel_rfl) [.slot 7] (spec_l15Has n y3 v9.A r31 er31) (by kernel_rfl) (.inr (rets_cons (mine_cons mine_lit mine_nil) rets_nil)) ?_
                  refine LAt.runU tOk 1 (by kernel_rfl) ?_
                  refine LAt.to ⟨88, 0, [(41, .val false [.lit (.bool r31)]), (40, .val false [.lit (.bool r31)]), (39, .val false [.lit (.int .i64 v9.A)]), (38, .adr (.box 9) [(0, 0)] 4 0), (37, .ref (.slot 7) [] 0 0 1 false), (9, .adr (.box 9) [(0, 0)] 4 0), (36, .val true (Link.row v9)), (35, .fad ((Link.row v9))), (34, .val false [.lit (.int .i64 v8)]), (33, .fad ([.lit (.int .i64 v8)])), (32, .val false [.lit (.int .i64 y2)]), (31, .val false [.sl false 1 (CV.frzEs (x1.map intRow))]), (30, .ref (.box 3) [(0, 0)] 3 1 1 false), (29, .adr (.box 3) [(0, 0)] 3 1), (28, .val false [.lit (.bool false)]), (27, .val false [.lit (.bool r7)]), (26, .val false [.lit (.int .i64 (IntKind.wrap .i64 ((x0.Links.length : Int) - 1)))]), (25, .val false [.lit (.int .i64 (x0.Links.length : Int))]), (24, .ref (.box 3) [(0, 0)] 3 1 1 false), (23, .adr (.box 3) [(0, 0)] 3 1), (22, .val false [.lit (.int .i64 v6)]), (21, .fad ([.lit (.int .i64 v6)])), (20, .val false [.lit (.int .i64 y2)]), (19, .val false [.sl false 1 (CV.frzEs (x1.map intRow))]), (16, .val false [.lit (.bool true)]), (15, .val false [.lit (.int .i64 (x1.length : Int))]), (14, .val false [.sl false 1 (CV.frzEs (x1.map intRow))]), (13, .val false [.lit (.int .i64 y2)]), (8, .val false [.lit (.int .i64 y2)]), (7, .val false [.sl true 1 (y3.map intRow)]), (6, .val false [.sl true 1 (([] : List Int).map intRow)]), (3, .adr (.box 3) [(0, 0)] 3 0), (1, .val false [.sl false 1 (CV.frzEs (x1.map intRow))])], [(9, (Link.row v9)), (3, (CV.frzRow (Net.row x0)))]⟩ (by kernel_rfl) ?_
                  cases h7 : r31
                  · have H := bifF h7 H
                    refine LAt.runU tOk 15 (by kernel_rfl) ?_
                    refine LAt.doneU [56, 55, 54, 53, 52, 51, 50, 49, 48, 47, 46, 45, 44, 43, 42, 41, 40, 39, 38, 37, 9, 36, 35, 34, 33, 32, 31, 30, 29, 28, 27, 26, 25, 24, 23, 22, 21, 20, 19, 16, 15, 14, 13, 8, 7, 6, 3, 1] [9, 3] (by kernel_rfl) ?_
                    exact Exists.intro (false, false, false, false, false) (And.intro H (St.sub_of [56, 48, 47, 41, 40, 39, 38, 37, 9, 36, 35, 34, 33, 32, 31, 30, 29, 28, 27, 26, 25, 24, 23, 22, 21, 20, 19, 16, 15, 14, 13, 8, 7, 6, 3, 1] [9, 3] (by kernel_rfl)))
                  · have H := bifT h7 H
                    refine LAt.runU tOk 3 (by kernel_rfl) ?_
                    obtain ⟨r32, er32, H⟩ := bind_some H
                    refine LAt.callU tOk [.rd, .rd] (f := 66) (av := #[.tmp 42, .tmp 44]) (ats := #[27, 3]) (d := (some 45)) (ty := 4) (g := (some (4, true))) (by kernel_rfl) (by kernel_rfl) (by kernel_rfl) [.slot 7] (spec_l15Has n y3 v9.B r32 er32) (by kernel_rfl) (.inr (rets_cons (mine_cons mine_lit mine_nil) rets_nil)) ?_
                    refine LAt.runU tOk 3 (by kernel_rfl) ?_
                    refine LAt.to ⟨88, 0, [(48, .val false [.lit (.bool (!r32))]), (47, .val false [.lit (.bool (!r32))]), (46, .val false [.lit (.bool (!r32))]), (45, .val false [.lit (.bool r32)]), (44, .val false [.lit (.int .i64 v9.B)]), (43, .adr (.box 9) [(0, 0)] 4 2), (42, .ref (.slot 7) [] 0 0 1 false), (41, .val false [.lit (.bool true)]), (40, .val false [.lit (.bool true)]), (39, .val false [.lit (.int .i64 v9.A)]), (38, .adr (.box 9) [(0, 0)] 4 0), (37, .ref (.slot 7) [] 0 0 1 false), (9, .adr (.box 9) [(0, 0)] 4 0), (36, .val true (Link.row v9)), (35, .fad ((Link.row v9))), (34, .val false [.lit (.int .i64 v8)]), (33, .fad ([.lit (.int .i64 v8)])), (32, .val false [.lit (.int .i64 y2)]), (31, .val false [.sl false 1 (CV.frzEs (x1.map intRow))]), (30, .ref (.box 3) [(0, 0)] 3 1 1 false), (29, .adr (.box 3) [(0, 0)] 3 1), (28, .val false [.lit (.bool false)]), (27, .val false [.lit (.bool r7)]), (26, .val false [.lit (.int .i64 (IntKind.wrap .i64 ((x0.Links.length : Int) - 1)))]), (25, .val false [.lit (.int .i64 (x0.Links.length : Int))]), (24, .ref (.box 3) [(0, 0)] 3 1 1 false), (23, .adr (.box 3) [(0, 0)] 3 1), (22, .val false [.lit (.int .i64 v6)]), (21, .fad ([.lit (.int .i64 v6)])), (20, .val false [.lit (.int .i64 y2)]), (19, .val false [.sl false 1 (CV.frzEs (x1.map intRow))]), (16, .val false [.lit (.bool true)]), (15, .val false [.lit (.int .i64 (x1.length : Int))]), (14, .val false [.sl false 1 (CV.frzEs (x1.map intRow))]), (13, .val false [.lit (.int .i64 y2)]), (8, .val false [.lit (.int .i64 y2)]), (7, .val false [.sl true 1 (y3.map intRow)]), (6, .val false [.sl true 1 (([] : List Int).map intRow)]), (3, .adr (.box 3) [(0, 0)] 3 0), (1, .val false [.sl false 1 (CV.frzEs (x1.map intRow))])], [(9, (Link.row v9)), (3, (CV.frzRow (Net.row x0)))]⟩ (by kernel_rfl) ?_
                    cases h8 : (!r32)
                    · have H := bifF h8 H
                      refine LAt.runU tOk 8 (by kernel_rfl) ?_
                      refine LAt.doneU [56, 55, 54, 53, 52, 51, 50, 49, 48, 47, 46, 45, 44, 43, 42, 41, 40, 39, 38, 37, 9, 36, 35, 34, 33, 32, 31, 30, 29, 28, 27, 26, 25, 24, 23, 22, 21, 20, 19, 16, 15, 14, 13, 8, 7, 6, 3, 1] [9, 3] (by kernel_rfl) ?_
                      exact Exists.intro (false, false, false, true, true) (And.intro H (St.sub_of [56, 48, 47, 41, 40, 39, 38, 37, 9, 36, 35, 34, 33, 32, 31, 30, 29, 28, 27, 26, 25, 24, 23, 22, 21, 20, 19, 16, 15, 14, 13, 8, 7, 6, 3, 1] [9, 3] (by kernel_rfl)))
                    · have H := bifT h8 H
                      refine LAt.runU tOk 4 (by kernel_rfl) ?_
                      refine LAt.lenE tOk (t := 30) (ty := 3) (e := 61) (x := (.tmp 52)) (d := 53) (g := (some (11, true))) ⟨(.slot 52), [], 0, false, 11, (CV.frzEs (x0.Bridges.map Bridge.row))⟩ (x0.Bridges).length _ (by kernel_rfl) (by kernel_rfl) (by kernel_rfl) (by kernel_rfl) (by kernel_rfl) (frz_len _ _) rfl ?_
                      refine LAt.runU tOk 1 (by kernel_rfl) ?_
                      obtain ⟨r33, er33, H⟩ := bind_some H
                      refine LAt.callU tOk [.rd, .rd, .rd] (f := 65) (av := #[.tmp 50, .const (.int .i64 0), .tmp 54]) (ats := #[3, 3, 3]) (d := (some 55)) (ty := 4) (g := (some (11, true))) (by kernel_rfl) (by kernel_rfl) (by kernel_rfl) [] (spec_l1In n v9.B 0 (IntKind.wrap .i64 ((x0.Bridges.length : Int) - 1)) r33 er33) (by kernel_rfl) (.inl rfl) ?_
                      refine LAt.runU tOk 1 (by kernel_rfl) ?_
                      refine LAt.doneU [56, 55, 54, 53, 52, 51, 50, 49, 48, 47, 46, 45, 44, 43, 42, 41, 40, 39, 38, 37, 9, 36, 35, 34, 33, 32, 31, 30, 29, 28, 27, 26, 25, 24, 23, 22, 21, 20, 19, 16, 15, 14, 13, 8, 7, 6, 3, 1] [9, 3] (by kernel_rfl) ?_
                      exact Exists.intro (r33, true, true, true, true) (And.intro H (St.sub_of [56, 48, 47, 41, 40, 39, 38, 37, 9, 36, 35, 34, 33, 32, 31, 30, 29, 28, 27, 26, 25, 24, 23, 22, 21, 20, 19, 16, 15, 14, 13, 8, 7, 6, 3, 1] [9, 3] (by kernel_rfl)))
                · rintro ⟨y25, y26, y27, y28, y29⟩ H
                  have H : (spec_l15More_J5 n (fun v => spec_l15More_L2 n mo5 x0 x1 v.1 v.2) v9 x0 y2 y3 y25 y26 y27 y28 y29) = some o5 := H
                  unfold spec_l15More_J5 at H
                  show Tr _ _ _ _ _
                  refine Tr.to ⟨88, 0, [(56, .val false [.lit (.bool y25)]), (48, .val false [.lit (.bool y26)]), (47, .val false [.lit (.bool y27)]), (41, .val false [.lit (.bool y28)]), (40, .val false [.lit (.bool y29)]), (39, .val false [.lit (.int .i64 v9.A)]), (38, .adr (.box 9) [(0, 0)] 4 0), (37, .ref (.slot 7) [] 0 0 1 false), (9, .adr (.box 9) [(0, 0)] 4 0), (36, .val true (Link.row v9)), (35, .fad ((Link.row v9))), (34, .val false [.lit (.int .i64 v8)]), (33, .fad ([.lit (.int .i64 v8)])), (32, .val false [.lit (.int .i64 y2)]), (31, .val false [.sl false 1 (CV.frzEs (x1.map intRow))]), (30, .ref (.box 3) [(0, 0)] 3 1 1 false), (29, .adr (.box 3) [(0, 0)] 3 1), (28, .val false [.lit (.bool false)]), (27, .val false [.lit (.bool r7)]), (26, .val false [.lit (.int .i64 (IntKind.wrap .i64 ((x0.Links.length : Int) - 1)))]), (25, .val false [.lit (.int .i64 (x0.Links.length : Int))]), (24, .ref (.box 3) [(0, 0)] 3 1 1 false), (23, .adr (.box 3) [(0, 0)] 3 1), (22, .val false [.lit (.int .i64 v6)]), (21, .fad ([.lit (.int .i64 v6)])), (20, .val false [.lit (.int .i64 y2)]), (19, .val false [.sl false 1 (CV.frzEs (x1.map intRow))]), (16, .val false [.lit (.bool true)]), (15, .val false [.lit (.int .i64 (x1.length : Int))]), (14, .val false [.sl false 1 (CV.frzEs (x1.map intRow))]), (13, .val false [.lit (.int .i64 y2)]), (8, .val false [.lit (.int .i64 y2)]), (7, .val false [.sl true 1 (y3.map intRow)]), (6, .val false [.sl true 1 (([] : List Int).map intRow)]), (3, .adr (.box 3) [(0, 0)] 3 0), (1, .val false [.sl false 1 (CV.frzEs (x1.map intRow))])], [(9, (Link.row v9)), (3, (CV.frzRow (Net.row x0)))]⟩ (by kernel_rfl) ?_
                  cases h6 : y25
                  · have H := bifF h6 H
                    refine Tr.cond (b := false) (by kernel_rfl) (fun h => nomatch h) (fun _ => ?_)
                    refine Tr.skip ?_
                    exact Exists.intro (false, y26, y27, y28, y29, y3) (And.intro H (St.sub_of [56, 48, 47, 41, 40, 39, 38, 9, 36, 35, 34, 33, 32, 31, 30, 29, 28, 27, 26, 25, 24, 23, 22, 21, 20, 19, 16, 15, 14, 13, 8, 7, 6, 3, 1] [9, 3] (by kernel_rfl)))
                  · have H := bifT h6 H
                    refine Tr.cond (b := true) (by kernel_rfl) (fun _ => ?_) (fun h => nomatch h)
                    refine Tr.at ?_
                    refine LAt.runU tOk 4 (by kernel_rfl) ?_
                    obtain ⟨hg30, H⟩ := guard_some H
                    refine LAt.appMU tOk (t := 27) (ty := 27) (e := 3) (x := (.tmp 57)) (y := (.tmp 60)) (d := 61) (g := none) ⟨.int .i64, 1, 8, [.lit (.int .i64 0)]⟩ intRow y3 [v9.B] (by kernel_rfl) (by kernel_rfl) (by kernel_rfl) (by kernel_rfl) (by kernel_rfl) (by kernel_rfl) (by kernel_rfl) (by kernel_rfl) (by kernel_rfl) (by kernel_rfl) hg30 ?_
                    refine LAt.moveU (T := lk tab) (ty := 27) (x := (.tmp 61)) (d := 7) (g := none) false [.sl true 1 ((y3 ++ [v9.B]).map intRow)] (by kernel_rfl) (by kernel_rfl) (by kernel_rfl) (by kernel_rfl) (by kernel_rfl) ?_
                    refine LAt.doneU [7, 59, 58, 56, 48, 47, 41, 40, 39, 38, 9, 36, 35, 34, 33, 32, 31, 30, 29, 28, 27, 26, 25, 24, 23, 22, 21, 20, 19, 16, 15, 14, 13, 8, 6, 3, 1] [9, 3] (by kernel_rfl) ?_
                    exact Exists.intro (true, y26, y27, y28, y29, (y3 ++ [v9.B])) (And.intro H (St.sub_of [56, 48, 47, 41, 40, 39, 38, 9, 36, 35, 34, 33, 32, 31, 30, 29, 28, 27, 26, 25, 24, 23, 22, 21, 20, 19, 16, 15, 14, 13, 8, 7, 6, 3, 1] [9, 3] (by kernel_rfl)))
              · rintro ⟨y10, y11, y12, y13, y14, y15⟩ H
                have H : (spec_l15More_J3 n (fun v => spec_l15More_L2 n mo5 x0 x1 v.1 v.2) v9 x0 y2 y10 y11 y12 y13 y14 y15) = some o5 := H
                unfold spec_l15More_J3 at H
                show Tr _ _ _ _ _
                refine Tr.seq ?_
                refine Tr.mid (ι := Bool × Bool × Bool × Bool × Bool) (fun v => ⟨88, 0, [(81, .val false [.lit (.bool v.1)]), (73, .val false [.lit (.bool v.2.1)]), (72, .val false [.lit (.bool v.2.2.1)]), (66, .val false [.lit (.bool v.2.2.2.1)]), (65, .val false [.lit (.bool v.2.2.2.2)]), (64, .val false [.lit (.int .i64 v9.B)]), (63, .adr (.box 9) [(0, 0)] 4 2), (62, .ref (.slot 7) [] 0 0 1 false), (56, .val false [.lit (.bool y10)]), (48, .val false [.lit (.bool y11)]), (47, .val false [.lit (.bool y12)]), (41, .val false [.lit (.bool y13)]), (40, .val false [.lit (.bool y14)]), (39, .val false [.lit (.int .i64 v9.A)]), (38, .adr (.box 9) [(0, 0)] 4 0), (9, .adr (.box 9) [(0, 0)] 4 0), (36, .val true (Link.row v9)), (35, .fad ((Link.row v9))), (34, .val false [.lit (.int .i64 v8)]), (33, .fad ([.lit (.int .i64 v8)])), (32, .val false [.lit (.int .i64 y2)]), (31, .val false [.sl false 1 (CV.frzEs (x1.map intRow))]), (30, .ref (.box 3) [(0, 0)] 3 1 1 false), (29, .adr (.box 3) [(0, 0)] 3 1), (28, .val false [.lit (.bool false)]), (27, .val false [.lit (.bool r7)]), (26, .val false [.lit (.int .i64 (IntKind.wrap .i64 ((x0.Links.length : Int) - 1)))]), (25, .val false [.lit (.int .i64 (x0.Links.length : Int))]), (24, .ref (.box 3) [(0, 0)] 3 1 1 false), (23, .adr (.box 3) [(0, 0)] 3 1), (22, .val false [.lit (.int .i64 v6)]), (21, .fad ([.lit (.int .i64 v6)])), (20, .val false [.lit (.int .i64 y2)]), (19, .val false [.sl false 1 (CV.frzEs (x1.map intRow))]), (16, .val false [.lit (.bool true)]), (15, .val false [.lit (.int .i64 (x1.length : Int))]), (14, .val false [.sl false 1 (CV.frzEs (x1.map intRow))]), (13, .val false [.lit (.int .i64 y2)]), (8, .val false [.lit (.int .i64 y2)]), (7, .val false [.sl true 1 (y15.map intRow)]), (6, .val false [.sl true 1 (([] : List Int).map intRow)]), (3, .adr (.box 3) [(0, 0)] 3 0), (1, .val false [.sl false 1 (CV.frzEs (x1.map intRow))])], [(9, (Link.row v9)), (3, (CV.frzRow (Net.row x0)))]⟩) (fun v => spec_l15More_J4 n (fun v => spec_l15More_L2 n mo5 x0 x1 v.1 v.2) v9 y15 y2 v.1 v.2.1 v.2.2.1 v.2.2.2.1 v.2.2.2.2 = some o5) ?_ ?_
                · refine Tr.at ?_
                  refine LAt.runU tOk 3 (by kernel_rfl) ?_
                  obtain ⟨r22, er22, H⟩ := bind_some H
                  refine LAt.callU tOk [.rd, .rd] (f := 66) (av := #[.tmp 62, .tmp 64]) (ats := #[27, 3]) (d := (some 65)) (ty := 4) (g := none) (by kernel_rfl) (by kernel_rfl) (by kernel_rfl) [.slot 7] (spec_l15Has n y15 v9.B r22 er22) (by kernel_rfl) (.inr (rets_cons (mine_cons mine_lit mine_nil) rets_nil)) ?_
                  refine LAt.runU tOk 1 (by kernel_rfl) ?_
                  refine LAt.to ⟨88, 0, [(66, .val false [.lit (.bool r22)]), (65, .val false [.lit (.bool r22)]), (64, .val false [.lit (.int .i64 v9.B)]), (63, .adr (.box 9) [(0, 0)] 4 2), (62, .ref (.slot 7) [] 0 0 1 false), (56, .val false [.lit (.bool y10)]), (48, .val false [.lit (.bool y11)]), (47, .val false [.lit (.bool y12)]), (41, .val false [.lit (.bool y13)]), (40, .val false [.lit (.bool y14)]), (39, .val false [.lit (.int .i64 v9.A)]), (38, .adr (.box 9) [(0, 0)] 4 0), (9, .adr (.box 9) [(0, 0)] 4 0), (36, .val true (Link.row v9)), (35, .fad ((Link.row v9))), (34, .val false [.lit (.int .i64 v8)]), (33, .fad ([.lit (.int .i64 v8)])), (32, .val false [.lit (.int .i64 y2)]), (31, .val false [.sl false 1 (CV.frzEs (x1.map intRow))]), (30, .ref (.box 3) [(0, 0)] 3 1 1 false), (29, .adr (.box 3) [(0, 0)] 3 1), (28, .val false [.lit (.bool false)]), (27, .val false [.lit (.bool r7)]), (26, .val false [.lit (.int .i64 (IntKind.wrap .i64 ((x0.Links.length : Int) - 1)))]), (25, .val false [.lit (.int .i64 (x0.Links.length : Int))]), (24, .ref (.box 3) [(0, 0)] 3 1 1 false), (23, .adr (.box 3) [(0, 0)] 3 1), (22, .val false [.lit (.int .i64 v6)]), (21, .fad ([.lit (.int .i64 v6)])), (20, .val false [.lit (.int .i64 y2)]), (19, .val false [.sl false 1 (CV.frzEs (x1.map intRow))]), (16, .val false [.lit (.bool true)]), (15, .val false [.lit (.int .i64 (x1.length : Int))]), (14, .val false [.sl false 1 (CV.frzEs (x1.map intRow))]), (13, .val false [.lit (.int .i64 y2)]), (8, .val false [.lit (.int .i64 y2)]), (7, .val false [.sl true 1 (y15.map intRow)]), (6, .val false [.sl true 1 (([] : List Int).map intRow)]), (3, .adr (.box 3) [(0, 0)] 3 0), (1, .val false [.sl false 1 (CV.frzEs (x1.map intRow))])], [(9, (Link.row v9)), (3, (CV.frzRow (Net.row x0)))]⟩ (by kernel_rfl) ?_
                  cases h4 : r22
                  · have H := bifF h4 H
                    refine LAt.runU tOk 15 (by kernel_rfl) ?_
                    refine LAt.doneU [81, 80, 79, 78, 77, 76, 75, 74, 73, 72, 71, 70, 69, 68, 67, 66, 65, 64, 63, 62, 56, 48, 47, 41, 40, 39, 38, 9, 36, 35, 34, 33, 32, 31, 30, 29, 28, 27, 26, 25, 24, 23, 22, 21, 20, 19, 16, 15, 14, 13, 8, 7, 6, 3, 1] [9, 3] (by kernel_rfl) ?_
                    exact Exists.intro (false, false, false, false, false) (And.intro H (St.sub_of [81, 73, 72, 66, 65, 64, 63, 62, 56, 48, 47, 41, 40, 39, 38, 9, 36, 35, 34, 33, 32, 31, 30, 29, 28, 27, 26, 25, 24, 23, 22, 21, 20, 19, 16, 15, 14, 13, 8, 7, 6, 3, 1] [9, 3] (by kernel_rfl)))
                  · have H := bifT h4 H
                    refine LAt.runU tOk 3 (by kernel_rfl) ?_
                    obtain ⟨r23, er23, H⟩ := bind_some H
                    refine LAt.callU tOk [.rd, .rd] (f := 66) (av := #[.tmp 67, .tmp 69]) (ats := #[27, 3]) (d := (some 70)) (ty := 4) (g := (some (4, true))) (by kernel_rfl) (by kernel_rfl) (by kernel_rfl) [.slot 7] (spec_l15Has n y15 v9.A r23 er23) (by kernel_rfl) (.inr (rets_cons (mine_cons mine_lit mine_nil) rets_nil)) ?_
                    refine LAt.runU tOk 3 (by kernel_rfl) ?_
                    refine LAt.to ⟨88, 0, [(73, .val false [.lit (.bool (!r23))]), (72, .val false [.lit (.bool (!r23))]), (71, .val false [.lit (.bool (!r23))]), (70, .val false [.lit (.bool r23)]), (69, .val false [.lit (.int .i64 v9.A)]), (68, .adr (.box 9) [(0, 0)] 4 0), (67, .ref (.slot 7) [] 0 0 1 false), (66, .val false [.lit (.bool true)]), (65, .val false [.lit (.bool true)]), (64, .val false [.lit (.int .i64 v9.B)]), (63, .adr (.box 9) [(0, 0)] 4 2), (62, .ref (.slot 7) [] 0 0 1 false), (56, .val false [.lit (.bool y10)]), (48, .val false [.lit (.bool y11)]), (47, .val false [.lit (.bool y12)]), (41, .val false [.lit (.bool y13)]), (40, .val false [.lit (.bool y14)]), (39, .val false [.lit (.int .i64 v9.A)]), (38, .adr (.box 9) [(0, 0)] 4 0), (9, .adr (.box 9) [(0, 0)] 4 0), (36, .val true (Link.row v9)), (35, .fad ((Link.row v9))), (34, .val false [.lit (.int .i64 v8)]), (33, .fad ([.lit (.int .i64 v8)])), (32, .val false [.lit (.int .i64 y2)]), (31, .val false [.sl false 1 (CV.frzEs (x1.map intRow))]), (30, .ref (.box 3) [(0, 0)] 3 1 1 false), (29, .adr (.box 3) [(0, 0)] 3 1), (28, .val false [.lit (.bool false)]), (27, .val false [.lit (.bool r7)]), (26, .val false [.lit (.int .i64 (IntKind.wrap .i64 ((x0.Links.length : Int) - 1)))]), (25, .val false [.lit (.int .i64 (x0.Links.length : Int))]), (24, .ref (.box 3) [(0, 0)] 3 1 1 false), (23, .adr (.box 3) [(0, 0)] 3 1), (22, .val false [.lit (.int .i64 v6)]), (21, .fad ([.lit (.int .i64 v6)])), (20, .val false [.lit (.int .i64 y2)]), (19, .val false [.sl false 1 (CV.frzEs (x1.map intRow))]), (16, .val false [.lit (.bool true)]), (15, .val false [.lit (.int .i64 (x1.length : Int))]), (14, .val false [.sl false 1 (CV.frzEs (x1.map intRow))]), (13, .val false [.lit (.int .i64 y2)]), (8, .val false [.lit (.int .i64 y2)]), (7, .val false [.sl true 1 (y15.map intRow)]), (6, .val false [.sl true 1 (([] : List Int).map intRow)]), (3, .adr (.box 3) [(0, 0)] 3 0), (1, .val false [.sl false 1 (CV.frzEs (x1.map intRow))])], [(9, (Link.row v9)), (3, (CV.frzRow (Net.row x0)))]⟩ (by kernel_rfl) ?_
                    cases h5 : (!r23)
                    · have H := bifF h5 H
                      refine LAt.runU tOk 8 (by kernel_rfl) ?_
                      refine LAt.doneU [81, 80, 79, 78, 77, 76, 75, 74, 73, 72, 71, 70, 69, 68, 67, 66, 65, 64, 63, 62, 56, 48, 47, 41, 40, 39, 38, 9, 36, 35, 34, 33, 32, 31, 30, 29, 28, 27, 26, 25, 24, 23, 22, 21, 20, 19, 16, 15, 14, 13, 8, 7, 6, 3, 1] [9, 3] (by kernel_rfl) ?_
                      exact Exists.intro (false, false, false, true, true) (And.intro H (St.sub_of [81, 73, 72, 66, 65, 64, 63, 62, 56, 48, 47, 41, 40, 39, 38, 9, 36, 35, 34, 33, 32, 31, 30, 29, 28, 27, 26, 25, 24, 23, 22, 21, 20, 19, 16, 15, 14, 13, 8, 7, 6, 3, 1] [9, 3] (by kernel_rfl)))
                    · have H := bifT h5 H
                      refine LAt.runU tOk 4 (by kernel_rfl) ?_
                      refine LAt.lenE tOk (t := 30) (ty := 3) (e := 61) (x := (.tmp 77)) (d := 78) (g := (some (11, true))) ⟨(.slot 77), [], 0, false, 11, (CV.frzEs (x0.Bridges.map Bridge.row))⟩ (x0.Bridges).length _ (by kernel_rfl) (by kernel_rfl) (by kernel_rfl) (by kernel_rfl) (by kernel_rfl) (frz_len _ _) rfl ?_
                      refine LAt.runU tOk 1 (by kernel_rfl) ?_
                      obtain ⟨r24, er24, H⟩ := bind_some H
                      refine LAt.callU tOk [.rd, .rd, .rd] (f := 65) (av := #[.tmp 75, .const (.int .i64 0), .tmp 79]) (ats := #[3, 3, 3]) (d := (some 80)) (ty := 4) (g := (some (11, true))) (by kernel_rfl) (by kernel_rfl) (by kernel_rfl) [] (spec_l1In n v9.A 0 (IntKind.wrap .i64 ((x0.Bridges.length : Int) - 1)) r24 er24) (by kernel_rfl) (.inl rfl) ?_
                      refine LAt.runU tOk 1 (by kernel_rfl) ?_
                      refine LAt.doneU [81, 80, 79, 78, 77, 76, 75, 74, 73, 72, 71, 70, 69, 68, 67, 66, 65, 64, 63, 62, 56, 48, 47, 41, 40, 39, 38, 9, 36, 35, 34, 33, 32, 31, 30, 29, 28, 27, 26, 25, 24, 23, 22, 21, 20, 19, 16, 15, 14, 13, 8, 7, 6, 3, 1] [9, 3] (by kernel_rfl) ?_
                      exact Exists.intro (r24, true, true, true, true) (And.intro H (St.sub_of [81, 73, 72, 66, 65, 64, 63, 62, 56, 48, 47, 41, 40, 39, 38, 9, 36, 35, 34, 33, 32, 31, 30, 29, 28, 27, 26, 25, 24, 23, 22, 21, 20, 19, 16, 15, 14, 13, 8, 7, 6, 3, 1] [9, 3] (by kernel_rfl)))
                · rintro ⟨y16, y17, y18, y19, y20⟩ H
                  have H : (spec_l15More_J4 n (fun v => spec_l15More_L2 n mo5 x0 x1 v.1 v.2) v9 y15 y2 y16 y17 y18 y19 y20) = some o5 := H
                  unfold spec_l15More_J4 at H
                  show Tr _ _ _ _ _
                  refine Tr.to ⟨88, 0, [(81, .val false [.lit (.bool y16)]), (73, .val false [.lit (.bool y17)]), (72, .val false [.lit (.bool y18)]), (66, .val false [.lit (.bool y19)]), (65, .val false [.lit (.bool y20)]), (64, .val false [.lit (.int .i64 v9.B)]), (63, .adr (.box 9) [(0, 0)] 4 2), (62, .ref (.slot 7) [] 0 0 1 false), (56, .val false [.lit (.bool y10)]), (48, .val false [.lit (.bool y11)]), (47, .val false [.lit (.bool y12)]), (41, .val false [.lit (.bool y13)]), (40, .val false [.lit (.bool y14)]), (39, .val false [.lit (.int .i64 v9.A)]), (38, .adr (.box 9) [(0, 0)] 4 0), (9, .adr (.box 9) [(0, 0)] 4 0), (36, .val true (Link.row v9)), (35, .fad ((Link.row v9))), (34, .val false [.lit (.int .i64 v8)]), (33, .fad ([.lit (.int .i64 v8)])), (32, .val false [.lit (.int .i64 y2)]), (31, .val false [.sl false 1 (CV.frzEs (x1.map intRow))]), (30, .ref (.box 3) [(0, 0)] 3 1 1 false), (29, .adr (.box 3) [(0, 0)] 3 1), (28, .val false [.lit (.bool false)]), (27, .val false [.lit (.bool r7)]), (26, .val false [.lit (.int .i64 (IntKind.wrap .i64 ((x0.Links.length : Int) - 1)))]), (25, .val false [.lit (.int .i64 (x0.Links.length : Int))]), (24, .ref (.box 3) [(0, 0)] 3 1 1 false), (23, .adr (.box 3) [(0, 0)] 3 1), (22, .val false [.lit (.int .i64 v6)]), (21, .fad ([.lit (.int .i64 v6)])), (20, .val false [.lit (.int .i64 y2)]), (19, .val false [.sl false 1 (CV.frzEs (x1.map intRow))]), (16, .val false [.lit (.bool true)]), (15, .val false [.lit (.int .i64 (x1.length : Int))]), (14, .val false [.sl false 1 (CV.frzEs (x1.map intRow))]), (13, .val false [.lit (.int .i64 y2)]), (8, .val false [.lit (.int .i64 y2)]), (7, .val false [.sl true 1 (y15.map intRow)]), (6, .val false [.sl true 1 (([] : List Int).map intRow)]), (3, .adr (.box 3) [(0, 0)] 3 0), (1, .val false [.sl false 1 (CV.frzEs (x1.map intRow))])], [(9, (Link.row v9)), (3, (CV.frzRow (Net.row x0)))]⟩ (by kernel_rfl) ?_
                  cases h3 : y16
                  · have H := bifF h3 H
                    refine Tr.cond (b := false) (by kernel_rfl) (fun h => nomatch h) (fun _ => ?_)
                    refine Tr.skip ?_
                    show Tr _ _ _ _ _
                    refine Tr.at ?_
                    refine LAt.runU tOk 3 (by kernel_rfl) ?_
                    refine LAt.doneU [8, 18, 17, 81, 73, 72, 66, 65, 64, 63, 62, 56, 48, 47, 41, 40, 39, 38, 9, 36, 35, 34, 33, 32, 31, 30, 29, 28, 27, 26, 25, 24, 23, 22, 21, 20, 19, 16, 15, 14, 13, 7, 6, 3, 1] [9, 3] (by kernel_rfl) ?_
                    exact Exists.intro (mo5, ((IntKind.wrap .i64 (y2 + 1)), y15)) (And.intro H (And.intro (Nat.lt_succ_self mo5) (St.sub_of [8, 7, 6, 3, 1] [3] (by kernel_rfl))))
                  · have H := bifT h3 H
                    refine Tr.cond (b := true) (by kernel_rfl) (fun _ => ?_) (fun h => nomatch h)
                    refine Tr.at ?_
                    refine LAt.runU tOk 4 (by kernel_rfl) ?_
                    obtain ⟨hg21, H⟩ := guard_some H
                    refine LAt.appMU tOk (t := 27) (ty := 27) (e := 3) (x := (.tmp 82)) (y := (.tmp 85)) (d := 86) (g := none) ⟨.int .i64, 1, 8, [.lit (.int .i64 0)]⟩ intRow y15 [v9.A] (by kernel_rfl) (by kernel_rfl) (by kernel_rfl) (by kernel_rfl) (by kernel_rfl) (by kernel_rfl) (by kernel_rfl) (by kernel_rfl) (by kernel_rfl) (by kernel_rfl) hg21 ?_
                    refine LAt.moveU (T := lk tab) (ty := 27) (x := (.tmp 86)) (d := 7) (g := none) false [.sl true 1 ((y15 ++ [v9.A]).map intRow)] (by kernel_rfl) (by kernel_rfl) (by kernel_rfl) (by kernel_rfl) (by kernel_rfl) ?_
                    refine LAt.doneU [7, 84, 83, 81, 73, 72, 66, 65, 64, 63, 56, 48, 47, 41, 40, 39, 38, 9, 36, 35, 34, 33, 32, 31, 30, 29, 28, 27, 26, 25, 24, 23, 22, 21, 20, 19, 16, 15, 14, 13, 8, 6, 3, 1] [9, 3] (by kernel_rfl) ?_
                    show Tr _ _ _ _ _
                    refine Tr.at ?_
                    refine LAt.runU tOk 3 (by kernel_rfl) ?_
                    refine LAt.doneU [8, 18, 17, 7, 84, 83, 81, 73, 72, 66, 65, 64, 63, 56, 48, 47, 41, 40, 39, 38, 9, 36, 35, 34, 33, 32, 31, 30, 29, 28, 27, 26, 25, 24, 23, 22, 21, 20, 19, 16, 15, 14, 13, 6, 3, 1] [9, 3] (by kernel_rfl) ?_
                    exact Exists.intro (mo5, ((IntKind.wrap .i64 (y2 + 1)), (y15 ++ [v9.A]))) (And.intro H (And.intro (Nat.lt_succ_self mo5) (St.sub_of [8, 7, 6, 3, 1] [3] (by kernel_rfl))))
          · have H := bifT h2 H
            refine Tr.cond (b := true) (by kernel_rfl) (fun _ => ?_) (fun h => nomatch h)
            refine Tr.exit ?_
            refine And.intro (fun _ => ?_) (fun h => absurd rfl h)
            show Tr _ _ _ _ _
            refine Tr.at ?_
            refine LAt.runU tOk 3 (by kernel_rfl) ?_
            refine LAt.doneU [8, 18, 17, 28, 27, 26, 25, 24, 23, 22, 21, 20, 19, 16, 15, 14, 13, 7, 6, 3, 1] [3] (by kernel_rfl) ?_
            exact Exists.intro (mo5, ((IntKind.wrap .i64 (y2 + 1)), y3)) (And.intro H (And.intro (Nat.lt_succ_self mo5) (St.sub_of [8, 7, 6, 3, 1] [3] (by kernel_rfl))))
  · rintro y4 H
    have H : (spec_l15More_J1 n y4) = some r := H
    unfold spec_l15More_J1 at H
    show Tr _ _ _ _ _
    refine Tr.rs ?_
    refine LAt.runU tOk 2 (by kernel_rfl) ?_
    refine LAt.doneU [6, 7] [] (by kernel_rfl) ?_
    refine Tr.ret ?_
    have H := Option.some.inj H
    subst H
    exact Fin.of _ [(false, [.sl true 1 (y4.map intRow)])] (by kernel_rfl) rfl rfl

def spec_Joined_J2 (n : Nat) (y7 : (List Int)) : Option ((List Int)) :=
  (some y7)
def spec_Joined_L3 (n : Nat) : Nat → Net → (List Int) → Int → (List Int) → Option (((List Int)) ⊕ ((List Int)))
  | 0, _, _, _, _ => none
  | mo8 + 1, x0, y4, y5, y6 => (bif (decide (y5 < (x0.Bridges.length : Int))) then ((spec_l15HasF n y4 y5).bind fun r9 => (bif r9 then (bif (decide (y6.length + [y5].length ≤ 268435456)) then (spec_Joined_L3 n mo8 x0 y4 (IntKind.wrap .i64 (y5 + 1)) (y6 ++ [y5])) else none) else (spec_Joined_L3 n mo8 x0 y4 (IntKind.wrap .i64 (y5 + 1)) y6))) else (some (Sum.inl y6)))
def spec_Joined_J1 (n : Nat) (x0 : Net) (y4 : (List Int)) : Option ((List Int)) :=
  ((spec_Joined_L3 n n x0 y4 0 ([] : List Int)).bind fun o => match o with | .inl y7 => (spec_Joined_J2 n y7) | .inr r => some r)
def spec_Joined_L4 (n : Nat) : Nat → Net → (List Int) → Int → (List Int) → Option (((List Int)) ⊕ ((List Int)))
  | 0, _, _, _, _ => none
  | mo11 + 1, x0, x2, y2, y3 => (bif (decide (y2 < (x0.Bridges.length : Int))) then ((spec_l15MoreF n x0 x2 y3).bind fun r12 => (spec_Joined_L4 n mo11 x0 x2 (IntKind.wrap .i64 (y2 + 1)) r12)) else (some (Sum.inl y3)))
def spec_JoinedF (n : Nat) (x0 : Net) (x1 : Int) (x2 : (List Int)) : Option ((List Int)) :=
  ((spec_l1InF n x1 0 (IntKind.wrap .i64 ((x0.Bridges.length : Int) - 1))).bind fun r1 => (bif (!r1) then (some ([] : List Int)) else ((spec_Joined_L4 n n x0 x2 0 [x1]).bind fun o => match o with | .inl y4 => (spec_Joined_J1 n x0 y4) | .inr r => some r)))
/-- loop.example/g00326/spec.Joined -/
theorem spec_Joined (n : Nat) (x0 : Net) (x1 : Int) (x2 : (List Int)) (r : (List Int)) (H : spec_JoinedF n x0 x1 x2 = some r) : LCall Try.prog 29 [.val true (CV.frzRow (Net.row x0)), .val false [.lit (.int .i64 x1)], .val false [.sl false 1 (CV.frzEs (x2.map intRow))]] [.val false [.sl true 1 (r.map intRow)]] [] := by
  refine LCall.of_body tOk Try.func29 rfl (c := (.seq (.region 0 (rg Try.f29 0) false) (.seq (.seq (.region 1 (rg Try.f29 1) false) (.cond (.tmp 17) (.seq (.region 2 (rg Try.f29 2) false) .ret) .skip)) (.seq (.region 3 (rg Try.f29 3) false) (.seq (.seq (.region 4 (rg Try.f29 4) false) (.block 0 (.loop (.seq (.seq (.region 5 (rg Try.f29 5) false) (.cond (.tmp 25) .skip (.exit 0))) (.seq (.block 1 (.region 7 (rg Try.f29 7) false)) (.region 6 (rg Try.f29 6) false)))))) (.seq (.region 8 (rg Try.f29 8) false) (.seq (.seq (.region 9 (rg Try.f29 9) false) (.block 2 (.loop (.seq (.seq (.region 10 (rg Try.f29 10) false) (.cond (.tmp 37) .skip (.exit 2))) (.seq (.block 3 (.seq (.region 12 (rg Try.f29 12) false) (.cond (.tmp 42) (.region 13 (rg Try.f29 13) false) .skip))) (.region 11 (rg Try.f29 11) false)))))) (.seq (.region 14 (rg Try.f29 14) false) .ret)))))))) (by kernel_rfl) (Nat.le_of_ble_eq_true (by kernel_rfl)) 0 (rs := [.tmp 6]) rfl [] .nil [(false, [.sl true 1 (r.map intRow)])] [] [] fun cx => ?_
  show Tr _ _ _ ⟨48, 0, [(0, .val true (CV.frzRow (Net.row x0))), (1, .val false [.lit (.int .i64 x1)]), (2, .val false [.sl false 1 (CV.frzEs (x2.map intRow))])], []⟩ _
  unfold spec_JoinedF at H
  refine Tr.rs ?_
  refine LAt.runU tOk 2 (by kernel_rfl) ?_
  refine LAt.doneU [6, 3, 1, 2] [3] (by kernel_rfl) ?_
  refine Tr.seq ?_
  refine Tr.rs ?_
  refine LAt.runU tOk 3 (by kernel_rfl) ?_
  refine LAt.lenE tOk (t := 30) (ty := 3) (e := 61) (x := (.tmp 13)) (d := 14) (g := none) ⟨(.slot 13), [], 0, false, 11, (CV.frzEs (x0.Bridges.map Bridge.row))⟩ (x0.Bridges).length _ (by kernel_rfl) (by kernel_rfl) (by kernel_rfl) (by kernel_rfl) (by kernel_rfl) (frz_len _ _) rfl ?_
  refine LAt.runU tOk 1 (by kernel_rfl) ?_
  obtain ⟨r1, er1, H⟩ := bind_some H
  refine LAt.callU tOk [.rd, .rd, .rd] (f := 65) (av := #[.tmp 11, .const (.int .i64 0), .tmp 15]) (ats := #[3, 3, 3]) (d := (some 16)) (ty := 4) (g := none) (by kernel_rfl) (by kernel_rfl) (by kernel_rfl) [] (spec_l1In n x1 0 (IntKind.wrap .i64 ((x0.Bridges.length : Int) - 1)) r1 er1) (by kernel_rfl) (.inl rfl) ?_
  refine LAt.runU tOk 1 (by kernel_rfl) ?_
  refine LAt.doneU [17, 6, 3, 1, 2] [3] (by kernel_rfl) ?_
  refine Tr.to ⟨48, 0, [(17, .val false [.lit (.bool (!r1))]), (6, .val false [.sl true 1 (([] : List Int).map intRow)]), (3, .adr (.box 3) [(0, 0)] 3 0), (1, .val false [.lit (.int .i64 x1)]), (2, .val false [.sl false 1 (CV.frzEs (x2.map intRow))])], [(3, (CV.frzRow (Net.row x0)))]⟩ (by kernel_rfl) ?_
  cases h1 : (!r1)
  · have H := bifF h1 H
    refine Tr.cond (b := false) (by kernel_rfl) (fun h => nomatch h) (fun _ => ?_)
    refine Tr.skip ?_
    show Tr _ _ _ _ _
    refine Tr.rs ?_
    refine LAt.runU tOk 2 (by kernel_rfl) ?_
    refine LAt.moveU (T := lk tab) (ty := 27) (x := (.tmp 20)) (d := 7) (g := none) false [.sl true 1 ([x1].map intRow)] (by kernel_rfl) (by kernel_rfl) (by kernel_rfl) (by kernel_rfl) (by kernel_rfl) ?_
    refine LAt.doneU [7, 6, 3, 2] [3] (by kernel_rfl) ?_
    refine Tr.seq ?_
    refine Tr.rs ?_
    refine LAt.runU tOk 1 (by kernel_rfl) ?_
    refine LAt.doneU [8, 7, 6, 3, 2] [3] (by kernel_rfl) ?_
    obtain ⟨o11, eo11, Ho11⟩ := bind_some H
    clear H
    refine Tr.mid (ι := (List Int)) (fun v => ⟨48, 0, [(7, .val false [.sl true 1 (v.map intRow)]), (6, .val false [.sl true 1 (([] : List Int).map intRow)]), (3, .adr (.box 3) [(0, 0)] 3 0)], [(3, (CV.frzRow (Net.row x0)))]⟩) (fun v => spec_Joined_J1 n x0 v = some r) ?_ ?_
    · refine Tr.block ?_
      refine Tr.loop (ι := Nat × (Int × (List Int))) (fun v => ⟨48, 0, [(8, .val false [.lit (.int .i64 v.2.1)]), (7, .val false [.sl true 1 (v.2.2.map intRow)]), (6, .val false [.sl true 1 (([] : List Int).map intRow)]), (3, .adr (.box 3) [(0, 0)] 3 0), (2, .val false [.sl false 1 (CV.frzEs (x2.map intRow))])], [(3, (CV.frzRow (Net.row x0)))]⟩) (fun v => spec_Joined_L4 n v.1 x0 x2 v.2.1 v.2.2 = some o11) (fun v => v.1) (n, (0, [x1])) eo11 (St.sub_of [8, 7, 6, 3, 2] [3] (by kernel_rfl)) ?_
      rintro ⟨mo11, y2, y3⟩ H
      have H : spec_Joined_L4 n mo11 x0 x2 y2 y3 = some o11 := H
      obtain _ | mo11 := mo11
      · cases (show (none : Option _) = some o11 from H)
      · rw [spec_Joined_L4] at H
        refine Tr.seq ?_
        refine Tr.rs ?_
        refine LAt.runU tOk 3 (by kernel_rfl) ?_
        refine LAt.lenE tOk (t := 30) (ty := 3) (e := 61) (x := (.tmp 23)) (d := 24) (g := none) ⟨(.slot 23), [], 0, false, 11, (CV.frzEs (x0.Bridges.map Bridge.row))⟩ (x0.Bridges).length _ (by kernel_rfl) (by kernel_rfl) (by kernel_rfl) (by kernel_rfl) (by kernel_rfl) (frz_len _ _) rfl ?_
        refine LAt.runU tOk 1 (by kernel_rfl) ?_
        refine LAt.doneU [25, 24, 23, 22, 21, 8, 7, 6, 3, 2] [3] (by kernel_rfl) ?_
        refine Tr.to ⟨48, 0, [(25, .val false [.lit (.bool (decide (y2 < (x0.Bridges.length : Int))))]), (24, .val false [.lit (.int .i64 (x0.Bridges.length : Int))]), (23, .val false [.sl false 11 (CV.frzEs (x0.Bridges.map Bridge.row))]), (22, .adr (.box 3) [(0, 0)] 3 0), (21, .val false [.lit (.int .i64 y2)]), (8, .val false [.lit (.int .i64 y2)]), (7, .val false [.sl true 1 (y3.map intRow)]), (6, .val false [.sl true 1 (([] : List Int).map intRow)]), (3, .adr (.box 3) [(0, 0)] 3 0), (2, .val false [.sl false 1 (CV.frzEs (x2.map intRow))])], [(3, (CV.frzRow (Net.row x0)))]⟩ (by kernel_rfl) ?_
        cases h4 : (decide (y2 < (x0.Bridges.length : Int)))
        · have H := bifF h4 H
          refine Tr.cond (b := false) (by kernel_rfl) (fun h => nomatch h) (fun _ => ?_)
          refine Tr.exit ?_
          refine And.intro (fun _ => ?_) (fun h => absurd rfl h)
          have H := Option.some.inj H
          subst H
          have H := Ho11
          dsimp only at H
          exact Exists.intro y3 (And.intro H (St.sub_of [7, 6, 3] [3] (by kernel_rfl)))
        · have H := bifT h4 H
          refine Tr.cond (b := true) (by kernel_rfl) (fun _ => ?_) (fun h => nomatch h)
          refine Tr.skip ?_
          show Tr _ _ _ _ _
          refine Tr.seq ?_
          refine Tr.block ?_
          refine Tr.at ?_
          refine LAt.runU tOk 3 (by kernel_rfl) ?_
          obtain ⟨r12, er12, H⟩ := bind_some H
          refine LAt.callU tOk [.rd, .rd, .rd] (f := 84) (av := #[.tmp 28, .tmp 29, .tmp 30]) (ats := #[34, 27, 27]) (d := (some 31)) (ty := 27) (g := none) (by kernel_rfl) (by kernel_rfl) (by kernel_rfl) [.slot 7] (spec_l15More n x0 x2 y3 r12 er12) (by kernel_rfl) (.inr (rets_cons (mine_cons (mine_sl (mine_map intRow_mine _)) mine_nil) rets_nil)) ?_
          refine LAt.moveU (T := lk tab) (ty := 27) (x := (.tmp 31)) (d := 7) (g := none) false [.sl true 1 (r12.map intRow)] (by kernel_rfl) (by kernel_rfl) (by kernel_rfl) (by kernel_rfl) (by kernel_rfl) ?_
          refine LAt.doneU [7, 29, 28, 25, 24, 23, 22, 21, 8, 6, 3, 2] [3] (by kernel_rfl) ?_
          show Tr _ _ _ _ _
          refine Tr.at ?_
          refine LAt.runU tOk 3 (by kernel_rfl) ?_
          refine LAt.doneU [8, 27, 26, 7, 29, 28, 25, 24, 23, 22, 21, 6, 3, 2] [3] (by kernel_rfl) ?_
          exact Exists.intro (mo11, ((IntKind.wrap .i64 (y2 + 1)), r12)) (And.intro H (And.intro (Nat.lt_succ_self mo11) (St.sub_of [8, 7, 6, 3, 2] [3] (by kernel_rfl))))
    · rintro y4 H
      have H : (spec_Joined_J1 n x0 y4) = some r := H
      unfold spec_Joined_J1 at H
      show Tr _ _ _ _ _
      refine Tr.rs ?_
      refine LAt.runU tOk 1 (by kernel_rfl) ?_
      refine LAt.moveU (T := lk tab) (ty := 27) (x := (.tmp 32)) (d := 9) (g := none) false [.sl true 1 (([] : List Int).map intRow)] (by kernel_rfl) (by kernel_rfl) (by kernel_rfl) (by kernel_rfl) (by kernel_rfl) ?_
      refine LAt.doneU [9, 7, 6, 3] [3] (by kernel_rfl) ?_
      refine Tr.seq ?_
      refine Tr.rs ?_
      refine LAt.runU tOk 1 (by kernel_rfl) ?_
      refine LAt.doneU [10, 9, 7, 6, 3] [3] (by kernel_rfl) ?_
      obtain ⟨o8, eo8, Ho8⟩ := bind_some H
      clear H
      refine Tr.mid (ι := (List Int)) (fun v => ⟨48, 0, [(9, .val false [.sl true 1 (v.map intRow)]), (6, .val false [.sl true 1 (([] : List Int).map intRow)])], []⟩) (fun v => spec_Joined_J2 n v = some r) ?_ ?_
      · refine Tr.block ?_
        refine Tr.loop (ι := Nat × (Int × (List Int))) (fun v => ⟨48, 0, [(10, .val false [.lit (.int .i64 v.2.1)]), (9, .val false [.sl true 1 (v.2.2.map intRow)]), (7, .val false [.sl true 1 (y4.map intRow)]), (6, .val false [.sl true 1 (([] : List Int).map intRow)]), (3, .adr (.box 3) [(0, 0)] 3 0)], [(3, (CV.frzRow (Net.row x0)))]⟩) (fun v => spec_Joined_L3 n v.1 x0 y4 v.2.1 v.2.2 = some o8) (fun v => v.1) (n, (0, ([] : List Int))) eo8 (St.sub_of [10, 9, 7, 6, 3] [3] (by kernel_rfl)) ?_
        rintro ⟨mo8, y5, y6⟩ H
        have H : spec_Joined_L3 n mo8 x0 y4 y5 y6 = some o8 := H
        obtain _ | mo8 := mo8
        · cases (show (none : Option _) = some o8 from H)
        · rw [spec_Joined_L3] at H
          refine Tr.seq ?_
          refine Tr.rs ?_
          refine LAt.runU tOk 3 (by kernel_rfl) ?_
          refine LAt.lenE tOk (t := 30) (ty := 3) (e := 61) (x := (.tmp 35)) (d := 36) (g := none) ⟨(.slot 35), [], 0, false, 11, (CV.frzEs (x0.Bridges.map Bridge.row))⟩ (x0.Bridges).length _ (by kernel_rfl) (by kernel_rfl) (by kernel_rfl) (by kernel_rfl) (by kernel_rfl) (frz_len _ _) rfl ?_
          refine LAt.runU tOk 1 (by kernel_rfl) ?_
          refine LAt.doneU [37, 36, 35, 34, 33, 10, 9, 7, 6, 3] [3] (by kernel_rfl) ?_
          refine Tr.to ⟨48, 0, [(37, .val false [.lit (.bool (decide (y5 < (x0.Bridges.length : Int))))]), (36, .val false [.lit (.int .i64 (x0.Bridges.length : Int))]), (35, .val false [.sl false 11 (CV.frzEs (x0.Bridges.map Bridge.row))]), (34, .adr (.box 3) [(0, 0)] 3 0), (33, .val false [.lit (.int .i64 y5)]), (10, .val false [.lit (.int .i64 y5)]), (9, .val false [.sl true 1 (y6.map intRow)]), (7, .val false [.sl true 1 (y4.map intRow)]), (6, .val false [.sl true 1 (([] : List Int).map intRow)]), (3, .adr (.box 3) [(0, 0)] 3 0)], [(3, (CV.frzRow (Net.row x0)))]⟩ (by kernel_rfl) ?_
          cases h2 : (decide (y5 < (x0.Bridges.length : Int)))
          · have H := bifF h2 H
            refine Tr.cond (b := false) (by kernel_rfl) (fun h => nomatch h) (fun _ => ?_)
            refine Tr.exit ?_
            refine And.intro (fun _ => ?_) (fun h => absurd rfl h)
            have H := Option.some.inj H
            subst H
            have H := Ho8
            dsimp only at H
            exact Exists.intro y6 (And.intro H (St.sub_of [9, 6] [] (by kernel_rfl)))
          · have H := bifT h2 H
            refine Tr.cond (b := true) (by kernel_rfl) (fun _ => ?_) (fun h => nomatch h)
            refine Tr.skip ?_
            show Tr _ _ _ _ _
            refine Tr.seq ?_
            refine Tr.block ?_
            refine Tr.rs ?_
            refine LAt.runU tOk 2 (by kernel_rfl) ?_
            obtain ⟨r9, er9, H⟩ := bind_some H
            refine LAt.callU tOk [.rd, .rd] (f := 66) (av := #[.tmp 40, .tmp 41]) (ats := #[27, 3]) (d := (some 42)) (ty := 4) (g := none) (by kernel_rfl) (by kernel_rfl) (by kernel_rfl) [.slot 7] (spec_l15Has n y4 y5 r9 er9) (by kernel_rfl) (.inr (rets_cons (mine_cons mine_lit mine_nil) rets_nil)) ?_
            refine LAt.doneU [42, 41, 40, 37, 36, 35, 34, 33, 10, 9, 7, 6, 3] [3] (by kernel_rfl) ?_
            refine Tr.to ⟨48, 0, [(42, .val false [.lit (.bool r9)]), (41, .val false [.lit (.int .i64 y5)]), (40, .ref (.slot 7) [] 0 0 1 false), (37, .val false [.lit (.bool true)]), (36, .val false [.lit (.int .i64 (x0.Bridges.length : Int))]), (35, .val false [.sl false 11 (CV.frzEs (x0.Bridges.map Bridge.row))]), (34, .adr (.box 3) [(0, 0)] 3 0), (33, .val false [.lit (.int .i64 y5)]), (10, .val false [.lit (.int .i64 y5)]), (9, .val false [.sl true 1 (y6.map intRow)]), (7, .val false [.sl true 1 (y4.map intRow)]), (6, .val false [.sl true 1 (([] : List Int).map intRow)]), (3, .adr (.box 3) [(0, 0)] 3 0)], [(3, (CV.frzRow (Net.row x0)))]⟩ (by kernel_rfl) ?_
            cases h3 : r9
            · have H := bifF h3 H
              refine Tr.cond (b := false) (by kernel_rfl) (fun h => nomatch h) (fun _ => ?_)
              refine Tr.skip ?_
              show Tr _ _ _ _ _
              refine Tr.at ?_
              refine LAt.runU tOk 3 (by kernel_rfl) ?_
              refine LAt.doneU [10, 39, 38, 42, 41, 40, 37, 36, 35, 34, 33, 9, 7, 6, 3] [3] (by kernel_rfl) ?_
              exact Exists.intro (mo8, ((IntKind.wrap .i64 (y5 + 1)), y6)) (And.intro H (And.intro (Nat.lt_succ_self mo8) (St.sub_of [10, 9, 7, 6, 3] [3] (by kernel_rfl))))
            · have H := bifT h3 H
              refine Tr.cond (b := true) (by kernel_rfl) (fun _ => ?_) (fun h => nomatch h)
              refine Tr.at ?_
              refine LAt.runU tOk 3 (by kernel_rfl) ?_
              obtain ⟨hg10, H⟩ := guard_some H
              refine LAt.appMU tOk (t := 27) (ty := 27) (e := 3) (x := (.tmp 43)) (y := (.tmp 45)) (d := 46) (g := none) ⟨.int .i64, 1, 8, [.lit (.int .i64 0)]⟩ intRow y6 [y5] (by kernel_rfl) (by kernel_rfl) (by kernel_rfl) (by kernel_rfl) (by kernel_rfl) (by kernel_rfl) (by kernel_rfl) (by kernel_rfl) (by kernel_rfl) (by kernel_rfl) hg10 ?_
              refine LAt.moveU (T := lk tab) (ty := 27) (x := (.tmp 46)) (d := 9) (g := none) false [.sl true 1 ((y6 ++ [y5]).map intRow)] (by kernel_rfl) (by kernel_rfl) (by kernel_rfl) (by kernel_rfl) (by kernel_rfl) ?_
              refine LAt.doneU [9, 44, 42, 41, 40, 37, 36, 35, 34, 33, 10, 7, 6, 3] [3] (by kernel_rfl) ?_
              show Tr _ _ _ _ _
              refine Tr.at ?_
              refine LAt.runU tOk 3 (by kernel_rfl) ?_
              refine LAt.doneU [10, 39, 38, 9, 44, 42, 41, 40, 37, 36, 35, 34, 33, 7, 6, 3] [3] (by kernel_rfl) ?_
              exact Exists.intro (mo8, ((IntKind.wrap .i64 (y5 + 1)), (y6 ++ [y5]))) (And.intro H (And.intro (Nat.lt_succ_self mo8) (St.sub_of [10, 9, 7, 6, 3] [3] (by kernel_rfl))))
      · rintro y7 H
        have H : (spec_Joined_J2 n y7) = some r := H
        unfold spec_Joined_J2 at H
        show Tr _ _ _ _ _
        refine Tr.rs ?_
        refine LAt.runU tOk 2 (by kernel_rfl) ?_
        refine LAt.doneU [6, 9] [] (by kernel_rfl) ?_
        refine Tr.ret ?_
        have H := Option.some.inj H
        subst H
        exact Fin.of _ [(false, [.sl true 1 (y7.map intRow)])] (by kernel_rfl) rfl rfl
  · have H := bifT h1 H
    refine Tr.cond (b := true) (by kernel_rfl) (fun _ => ?_) (fun h => nomatch h)
    refine Tr.rs ?_
    refine LAt.runU tOk 1 (by kernel_rfl) ?_
    refine LAt.moveU (T := lk tab) (ty := 27) (x := (.tmp 18)) (d := 6) (g := none) false [.sl true 1 (([] : List Int).map intRow)] (by kernel_rfl) (by kernel_rfl) (by kernel_rfl) (by kernel_rfl) (by kernel_rfl) ?_
    refine LAt.doneU [6, 3, 1, 2] [3] (by kernel_rfl) ?_
    refine Tr.ret ?_
    have H := Option.some.inj H
    subst H
    exact Fin.of _ [(false, [.sl true 1 (([] : List Int).map intRow)])] (by kernel_rfl) rfl rfl
end Go.Proofs.Ytjdedhklbdkeoaa.Tw
