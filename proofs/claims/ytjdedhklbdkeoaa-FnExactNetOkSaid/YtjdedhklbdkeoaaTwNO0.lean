/- Functions of the program, over trees. -/
import Derived.Test.YtjdedhklbdkeoaaProg
import Derived.Test.YtjdedhklbdkeoaaTlRule
import Derived.Test.YtjdedhklbdkeoaaTlU5
import Derived.WalkKit
set_option linter.unusedVariables false
set_option linter.unusedSimpArgs false
set_option maxRecDepth 100000
set_option maxHeartbeats 1000000
namespace Go.Proofs.Ytjdedhklbdkeoaa.Tw
open Go Go.TL Go.Proofs
def tab : List (Nat × TI) := [(2, ⟨.int .i64, 1, 8, [.lit (.int .i64 0)]⟩),
  (3, ⟨.int .i64, 1, 8, [.lit (.int .i64 0)]⟩),
  (4, ⟨.bool, 1, 1, [.lit (.bool false)]⟩),
  (5, ⟨.int .u8, 1, 1, [.lit (.int .u8 0)]⟩),
  (6, ⟨.int .u8, 1, 1, [.lit (.int .u8 0)]⟩),
  (7, ⟨.st [(0, 1, 2), (1, 1, 3), (2, 1, 4), (3, 1, 6)], 4, 24, [.lit (.int .i64 0), .lit (.int .i64 0), .lit (.bool false), .lit (.int .u8 0)]⟩),
  (8, ⟨.st [(0, 1, 2), (1, 1, 3), (2, 1, 4), (3, 1, 6)], 4, 24, [.lit (.int .i64 0), .lit (.int .i64 0), .lit (.bool false), .lit (.int .u8 0)]⟩),
  (9, ⟨.str, 1, 16, [.lit (.string ⟨#[]⟩)]⟩),
  (22, ⟨.sl 53, 1, 24, [.sl true 11 []]⟩),
  (23, ⟨.sl 146, 1, 24, [.sl true 4 []]⟩),
  (24, ⟨.sl 149, 1, 24, [.sl true 7 []]⟩),
  (26, ⟨.st [(0, 1, 22), (1, 1, 23), (2, 1, 24)], 3, 72, [.sl true 11 [], .sl true 4 [], .sl true 7 []]⟩),
  (27, ⟨.sl 3, 1, 24, [.sl true 1 []]⟩),
  (30, ⟨.sl 61, 1, 24, [.sl true 11 []]⟩),
  (31, ⟨.sl 96, 1, 24, [.sl true 4 []]⟩),
  (32, ⟨.sl 116, 1, 24, [.sl true 7 []]⟩),
  (34, ⟨.st [(0, 1, 30), (1, 1, 31), (2, 1, 32)], 3, 72, [.sl true 11 [], .sl true 4 [], .sl true 7 []]⟩),
  (47, ⟨.sl 169, 1, 24, [.sl true 8 []]⟩),
  (48, ⟨.sl 171, 1, 24, [.sl true 5 []]⟩),
  (49, ⟨.sl 187, 1, 24, [.sl true 3 []]⟩),
  (51, ⟨.st [(0, 1, 49), (1, 1, 27)], 2, 48, [.sl true 3 [], .sl true 1 []]⟩),
  (53, ⟨.st [(0, 1, 3), (1, 1, 9), (2, 1, 47), (3, 1, 48), (4, 2, 51), (6, 1, 3), (7, 1, 3), (8, 1, 3), (9, 1, 3), (10, 1, 3)], 11, 160, [.lit (.int .i64 0), .lit (.string ⟨#[]⟩), .sl true 8 [], .sl true 5 [], .sl true 3 [], .sl true 1 [], .lit (.int .i64 0), .lit (.int .i64 0), .lit (.int .i64 0), .lit (.int .i64 0), .lit (.int .i64 0)]⟩),
  (55, ⟨.sl 114, 1, 24, [.sl true 8 []]⟩),
  (56, ⟨.sl 141, 1, 24, [.sl true 5 []]⟩),
  (57, ⟨.sl 138, 1, 24, [.sl true 3 []]⟩),
  (59, ⟨.st [(0, 1, 57), (1, 1, 27)], 2, 48, [.sl true 3 [], .sl true 1 []]⟩),
  (61, ⟨.st [(0, 1, 3), (1, 1, 9), (2, 1, 55), (3, 1, 56), (4, 2, 59), (6, 1, 3), (7, 1, 3), (8, 1, 3), (9, 1, 3), (10, 1, 3)], 11, 160, [.lit (.int .i64 0), .lit (.string ⟨#[]⟩), .sl true 8 [], .sl true 5 [], .sl true 3 [], .sl true 1 [], .lit (.int .i64 0), .lit (.int .i64 0), .lit (.int .i64 0), .lit (.int .i64 0), .lit (.int .i64 0)]⟩),
  (68, ⟨.st [(0, 1, 3), (1, 1, 3), (2, 1, 3), (3, 1, 3), (4, 1, 3)], 5, 40, [.lit (.int .i64 0), .lit (.int .i64 0), .lit (.int .i64 0), .lit (.int .i64 0), .lit (.int .i64 0)]⟩),
  (70, ⟨.st [(0, 1, 3), (1, 1, 3), (2, 1, 3), (3, 1, 3), (4, 1, 3)], 5, 40, [.lit (.int .i64 0), .lit (.int .i64 0), .lit (.int .i64 0), .lit (.int .i64 0), .lit (.int .i64 0)]⟩),
  (96, ⟨.st [(0, 1, 3), (1, 1, 3), (2, 1, 3), (3, 1, 3)], 4, 32, [.lit (.int .i64 0), .lit (.int .i64 0), .lit (.int .i64 0), .lit (.int .i64 0)]⟩),
  (114, ⟨.st [(0, 1, 4), (1, 1, 3), (2, 1, 4), (3, 5, 70)], 8, 64, [.lit (.bool false), .lit (.int .i64 0), .lit (.bool false), .lit (.int .i64 0), .lit (.int .i64 0), .lit (.int .i64 0), .lit (.int .i64 0), .lit (.int .i64 0)]⟩),
  (116, ⟨.st [(0, 1, 3), (1, 1, 4), (2, 5, 70)], 7, 56, [.lit (.int .i64 0), .lit (.bool false), .lit (.int .i64 0), .lit (.int .i64 0), .lit (.int .i64 0), .lit (.int .i64 0), .lit (.int .i64 0)]⟩),
  (138, ⟨.st [(0, 1, 3), (1, 1, 3), (2, 1, 3)], 3, 24, [.lit (.int .i64 0), .lit (.int .i64 0), .lit (.int .i64 0)]⟩),
  (141, ⟨.st [(0, 1, 3), (1, 1, 3), (2, 1, 3), (3, 1, 3), (4, 1, 4)], 5, 40, [.lit (.int .i64 0), .lit (.int .i64 0), .lit (.int .i64 0), .lit (.int .i64 0), .lit (.bool false)]⟩),
  (146, ⟨.st [(0, 1, 3), (1, 1, 3), (2, 1, 3), (3, 1, 3)], 4, 32, [.lit (.int .i64 0), .lit (.int .i64 0), .lit (.int .i64 0), .lit (.int .i64 0)]⟩),
  (149, ⟨.st [(0, 1, 3), (1, 1, 4), (2, 5, 68)], 7, 56, [.lit (.int .i64 0), .lit (.bool false), .lit (.int .i64 0), .lit (.int .i64 0), .lit (.int .i64 0), .lit (.int .i64 0), .lit (.int .i64 0)]⟩),
  (169, ⟨.st [(0, 1, 4), (1, 1, 3), (2, 1, 4), (3, 5, 68)], 8, 64, [.lit (.bool false), .lit (.int .i64 0), .lit (.bool false), .lit (.int .i64 0), .lit (.int .i64 0), .lit (.int .i64 0), .lit (.int .i64 0), .lit (.int .i64 0)]⟩),
  (171, ⟨.st [(0, 1, 3), (1, 1, 3), (2, 1, 3), (3, 1, 3), (4, 1, 4)], 5, 40, [.lit (.int .i64 0), .lit (.int .i64 0), .lit (.int .i64 0), .lit (.int .i64 0), .lit (.bool false)]⟩),
  (185, ⟨.int .u64, 1, 8, [.lit (.int .u64 0)]⟩),
  (187, ⟨.st [(0, 1, 3), (1, 1, 3), (2, 1, 3)], 3, 24, [.lit (.int .i64 0), .lit (.int .i64 0), .lit (.int .i64 0)]⟩)]
theorem mixed : Try.prog.follows .mixedOrders = true := by kernel_rfl
theorem tOk : TOk Try.prog (lk tab) := tok_of (by kernel_rfl)

structure Vec where
  Root : Int
  Cost : Int
  Hops : Int
  Bridge : Int
  Port : Int
def Vec.row (v : Vec) : List CV := [.lit (.int .i64 v.Root), .lit (.int .i64 v.Cost), .lit (.int .i64 v.Hops), .lit (.int .i64 v.Bridge), .lit (.int .i64 v.Port)]
def Vec.wf (v : Vec) : Prop := intWf v.Root ∧ intWf v.Cost ∧ intWf v.Hops ∧ intWf v.Bridge ∧ intWf v.Port ∧ True
theorem Vec.enc : Enc Vec [.int .i64, .int .i64, .int .i64, .int .i64, .int .i64] Vec.row Vec.wf := fun cs h => by
  obtain ⟨c0, r0, rfl, k0, h⟩ := fitR_cons h
  obtain ⟨c1, r1, rfl, k1, h⟩ := fitR_cons h
  obtain ⟨c2, r2, rfl, k2, h⟩ := fitR_cons h
  obtain ⟨c3, r3, rfl, k3, h⟩ := fitR_cons h
  obtain ⟨c4, r4, rfl, k4, h⟩ := fitR_cons h
  obtain rfl := fitR_nil h
  obtain ⟨x0, rfl, w0⟩ := fitC_int k0
  obtain ⟨x1, rfl, w1⟩ := fitC_int k1
  obtain ⟨x2, rfl, w2⟩ := fitC_int k2
  obtain ⟨x3, rfl, w3⟩ := fitC_int k3
  obtain ⟨x4, rfl, w4⟩ := fitC_int k4
  exact ⟨⟨x0, x1, x2, x3, x4⟩, rfl, ⟨w0, w1, w2, w3, w4, trivial⟩⟩
theorem Vec.row_mine (v : Vec) : CV.mineRow (Vec.row v) := mine_cons mine_lit (mine_cons mine_lit (mine_cons mine_lit (mine_cons mine_lit (mine_cons mine_lit (mine_nil)))))

structure Pt where
  Up : Bool
  Cost : Int
  Has : Bool
  Heard : Vec
def Pt.row (v : Pt) : List CV := [.lit (.bool v.Up), .lit (.int .i64 v.Cost), .lit (.bool v.Has), .lit (.int .i64 v.Heard.Root), .lit (.int .i64 v.Heard.Cost), .lit (.int .i64 v.Heard.Hops), .lit (.int .i64 v.Heard.Bridge), .lit (.int .i64 v.Heard.Port)]
def Pt.wf (v : Pt) : Prop := intWf v.Cost ∧ intWf v.Heard.Root ∧ intWf v.Heard.Cost ∧ intWf v.Heard.Hops ∧ intWf v.Heard.Bridge ∧ intWf v.Heard.Port ∧ True
theorem Pt.enc : Enc Pt [.bool, .int .i64, .bool, .int .i64, .int .i64, .int .i64, .int .i64, .int .i64] Pt.row Pt.wf := fun cs h => by
  obtain ⟨c0, r0, rfl, k0, h⟩ := fitR_cons h
  obtain ⟨c1, r1, rfl, k1, h⟩ := fitR_cons h
  obtain ⟨c2, r2, rfl, k2, h⟩ := fitR_cons h
  obtain ⟨c3, r3, rfl, k3, h⟩ := fitR_cons h
  obtain ⟨c4, r4, rfl, k4, h⟩ := fitR_cons h
  obtain ⟨c5, r5, rfl, k5, h⟩ := fitR_cons h
  obtain ⟨c6, r6, rfl, k6, h⟩ := fitR_cons h
  obtain ⟨c7, r7, rfl, k7, h⟩ := fitR_cons h
  obtain rfl := fitR_nil h
  obtain ⟨x0, rfl⟩ := fitC_bool k0
  obtain ⟨x1, rfl, w1⟩ := fitC_int k1
  obtain ⟨x2, rfl⟩ := fitC_bool k2
  obtain ⟨x3, rfl, w3⟩ := fitC_int k3
  obtain ⟨x4, rfl, w4⟩ := fitC_int k4
  obtain ⟨x5, rfl, w5⟩ := fitC_int k5
  obtain ⟨x6, rfl, w6⟩ := fitC_int k6
  obtain ⟨x7, rfl, w7⟩ := fitC_int k7
  exact ⟨⟨x0, x1, x2, ⟨x3, x4, x5, x6, x7⟩⟩, rfl, ⟨w1, w3, w4, w5, w6, w7, trivial⟩⟩
theorem Pt.row_mine (v : Pt) : CV.mineRow (Pt.row v) := mine_cons mine_lit (mine_cons mine_lit (mine_cons mine_lit (mine_cons mine_lit (mine_cons mine_lit (mine_cons mine_lit (mine_cons mine_lit (mine_cons mine_lit (mine_nil))))))))

structure Fent where
  Tag : Int
  Mac : Int
  Port : Int
  Age : Int
  Static : Bool
def Fent.row (v : Fent) : List CV := [.lit (.int .i64 v.Tag), .lit (.int .i64 v.Mac), .lit (.int .i64 v.Port), .lit (.int .i64 v.Age), .lit (.bool v.Static)]
def Fent.wf (v : Fent) : Prop := intWf v.Tag ∧ intWf v.Mac ∧ intWf v.Port ∧ intWf v.Age ∧ True
theorem Fent.enc : Enc Fent [.int .i64, .int .i64, .int .i64, .int .i64, .bool] Fent.row Fent.wf := fun cs h => by
  obtain ⟨c0, r0, rfl, k0, h⟩ := fitR_cons h
  obtain ⟨c1, r1, rfl, k1, h⟩ := fitR_cons h
  obtain ⟨c2, r2, rfl, k2, h⟩ := fitR_cons h
  obtain ⟨c3, r3, rfl, k3, h⟩ := fitR_cons h
  obtain ⟨c4, r4, rfl, k4, h⟩ := fitR_cons h
  obtain rfl := fitR_nil h
  obtain ⟨x0, rfl, w0⟩ := fitC_int k0
  obtain ⟨x1, rfl, w1⟩ := fitC_int k1
  obtain ⟨x2, rfl, w2⟩ := fitC_int k2
  obtain ⟨x3, rfl, w3⟩ := fitC_int k3
  obtain ⟨x4, rfl⟩ := fitC_bool k4
  exact ⟨⟨x0, x1, x2, x3, x4⟩, rfl, ⟨w0, w1, w2, w3, trivial⟩⟩
theorem Fent.row_mine (v : Fent) : CV.mineRow (Fent.row v) := mine_cons mine_lit (mine_cons mine_lit (mine_cons mine_lit (mine_cons mine_lit (mine_cons mine_lit (mine_nil)))))

structure Vrow where
  Id : Int
  Members : Int
  Bare : Int
def Vrow.row (v : Vrow) : List CV := [.lit (.int .i64 v.Id), .lit (.int .i64 v.Members), .lit (.int .i64 v.Bare)]
def Vrow.wf (v : Vrow) : Prop := intWf v.Id ∧ intWf v.Members ∧ intWf v.Bare ∧ True
theorem Vrow.enc : Enc Vrow [.int .i64, .int .i64, .int .i64] Vrow.row Vrow.wf := fun cs h => by
  obtain ⟨c0, r0, rfl, k0, h⟩ := fitR_cons h
  obtain ⟨c1, r1, rfl, k1, h⟩ := fitR_cons h
  obtain ⟨c2, r2, rfl, k2, h⟩ := fitR_cons h
  obtain rfl := fitR_nil h
  obtain ⟨x0, rfl, w0⟩ := fitC_int k0
  obtain ⟨x1, rfl, w1⟩ := fitC_int k1
  obtain ⟨x2, rfl, w2⟩ := fitC_int k2
  exact ⟨⟨x0, x1, x2⟩, rfl, ⟨w0, w1, w2, trivial⟩⟩
theorem Vrow.row_mine (v : Vrow) : CV.mineRow (Vrow.row v) := mine_cons mine_lit (mine_cons mine_lit (mine_cons mine_lit (mine_nil)))

structure Vtab where
  Rows : (List Vrow)
  Pvid : (List Int)
def Vtab.row (v : Vtab) : List CV := [.sl true 3 (v.Rows.map Vrow.row), .sl true 1 (v.Pvid.map intRow)]
def Vtab.wf (v : Vtab) : Prop := listWf Vrow.wf v.Rows ∧ listWf intWf v.Pvid ∧ True
theorem Vtab.enc : Enc Vtab [.sl 3 [.int .i64, .int .i64, .int .i64], .sl 1 [.int .i64]] Vtab.row Vtab.wf := fun cs h => by
  obtain ⟨c0, r0, rfl, k0, h⟩ := fitR_cons h
  obtain ⟨c1, r1, rfl, k1, h⟩ := fitR_cons h
  obtain rfl := fitR_nil h
  obtain ⟨x0, rfl, w0⟩ := Enc.sl Vrow.enc k0
  obtain ⟨x1, rfl, w1⟩ := Enc.sl encInt k1
  exact ⟨⟨x0, x1⟩, rfl, ⟨w0, w1, trivial⟩⟩
theorem Vtab.row_mine (v : Vtab) : CV.mineRow (Vtab.row v) := mine_cons (mine_sl (mine_map Vrow.row_mine _)) (mine_cons (mine_sl (mine_map intRow_mine _)) (mine_nil))

structure Bridge where
  Id : Int
  Name : ByteArray
  Ports : (List Pt)
  F : (List Fent)
  V : Vtab
  Ticks : Int
  Parse : Int
  Word : Int
  Drops : Int
  Vers : Int
def Bridge.row (v : Bridge) : List CV := [.lit (.int .i64 v.Id), .lit (.string v.Name), .sl true 8 (v.Ports.map Pt.row), .sl true 5 (v.F.map Fent.row), .sl true 3 (v.V.Rows.map Vrow.row), .sl true 1 (v.V.Pvid.map intRow), .lit (.int .i64 v.Ticks), .lit (.int .i64 v.Parse), .lit (.int .i64 v.Word), .lit (.int .i64 v.Drops), .lit (.int .i64 v.Vers)]
def Bridge.wf (v : Bridge) : Prop := intWf v.Id ∧ v.Name.size ≤ maxLen ∧ listWf Pt.wf v.Ports ∧ listWf Fent.wf v.F ∧ listWf Vrow.wf v.V.Rows ∧ listWf intWf v.V.Pvid ∧ intWf v.Ticks ∧ intWf v.Parse ∧ intWf v.Word ∧ intWf v.Drops ∧ intWf v.Vers ∧ True
theorem Bridge.enc : Enc Bridge [.int .i64, .str, .sl 8 [.bool, .int .i64, .bool, .int .i64, .int .i64, .int .i64, .int .i64, .int .i64], .sl 5 [.int .i64, .int .i64, .int .i64, .int .i64, .bool], .sl 3 [.int .i64, .int .i64, .int .i64], .sl 1 [.int .i64], .int .i64, .int .i64, .int .i64, .int .i64, .int .i64] Bridge.row Bridge.wf := fun cs h => by
  obtain ⟨c0, r0, rfl, k0, h⟩ := fitR_cons h
  obtain ⟨c1, r1, rfl, k1, h⟩ := fitR_cons h
  obtain ⟨c2, r2, rfl, k2, h⟩ := fitR_cons h
  obtain ⟨c3, r3, rfl, k3, h⟩ := fitR_cons h
  obtain ⟨c4, r4, rfl, k4, h⟩ := fitR_cons h
  obtain ⟨c5, r5, rfl, k5, h⟩ := fitR_cons h
  obtain ⟨c6, r6, rfl, k6, h⟩ := fitR_cons h
  obtain ⟨c7, r7, rfl, k7, h⟩ := fitR_cons h
  obtain ⟨c8, r8, rfl, k8, h⟩ := fitR_cons h
  obtain ⟨c9, r9, rfl, k9, h⟩ := fitR_cons h
  obtain ⟨c10, r10, rfl, k10, h⟩ := fitR_cons h
  obtain rfl := fitR_nil h
  obtain ⟨x0, rfl, w0⟩ := fitC_int k0
  obtain ⟨x1, rfl, w1⟩ := fitC_str k1
  obtain ⟨x2, rfl, w2⟩ := Enc.sl Pt.enc k2
  obtain ⟨x3, rfl, w3⟩ := Enc.sl Fent.enc k3
  obtain ⟨x4, rfl, w4⟩ := Enc.sl Vrow.enc k4
  obtain ⟨x5, rfl, w5⟩ := Enc.sl encInt k5
  obtain ⟨x6, rfl, w6⟩ := fitC_int k6
  obtain ⟨x7, rfl, w7⟩ := fitC_int k7
  obtain ⟨x8, rfl, w8⟩ := fitC_int k8
  obtain ⟨x9, rfl, w9⟩ := fitC_int k9
  obtain ⟨x10, rfl, w10⟩ := fitC_int k10
  exact ⟨⟨x0, x1, x2, x3, ⟨x4, x5⟩, x6, x7, x8, x9, x10⟩, rfl, ⟨w0, w1, w2, w3, w4, w5, w6, w7, w8, w9, w10, trivial⟩⟩
theorem Bridge.row_mine (v : Bridge) : CV.mineRow (Bridge.row v) := mine_cons mine_lit (mine_cons mine_lit (mine_cons (mine_sl (mine_map Pt.row_mine _)) (mine_cons (mine_sl (mine_map Fent.row_mine _)) (mine_cons (mine_sl (mine_map Vrow.row_mine _)) (mine_cons (mine_sl (mine_map intRow_mine _)) (mine_cons mine_lit (mine_cons mine_lit (mine_cons mine_lit (mine_cons mine_lit (mine_cons mine_lit (mine_nil)))))))))))

structure Link where
  A : Int
  P : Int
  B : Int
  Q : Int
def Link.row (v : Link) : List CV := [.lit (.int .i64 v.A), .lit (.int .i64 v.P), .lit (.int .i64 v.B), .lit (.int .i64 v.Q)]
def Link.wf (v : Link) : Prop := intWf v.A ∧ intWf v.P ∧ intWf v.B ∧ intWf v.Q ∧ True
theorem Link.enc : Enc Link [.int .i64, .int .i64, .int .i64, .int .i64] Link.row Link.wf := fun cs h => by
  obtain ⟨c0, r0, rfl, k0, h⟩ := fitR_cons h
  obtain ⟨c1, r1, rfl, k1, h⟩ := fitR_cons h
  obtain ⟨c2, r2, rfl, k2, h⟩ := fitR_cons h
  obtain ⟨c3, r3, rfl, k3, h⟩ := fitR_cons h
  obtain rfl := fitR_nil h
  obtain ⟨x0, rfl, w0⟩ := fitC_int k0
  obtain ⟨x1, rfl, w1⟩ := fitC_int k1
  obtain ⟨x2, rfl, w2⟩ := fitC_int k2
  obtain ⟨x3, rfl, w3⟩ := fitC_int k3
  exact ⟨⟨x0, x1, x2, x3⟩, rfl, ⟨w0, w1, w2, w3, trivial⟩⟩
theorem Link.row_mine (v : Link) : CV.mineRow (Link.row v) := mine_cons mine_lit (mine_cons mine_lit (mine_cons mine_lit (mine_cons mine_lit (mine_nil))))

structure Say where
  Link : Int
  Back : Bool
  V : Vec
def Say.row (v : Say) : List CV := [.lit (.int .i64 v.Link), .lit (.bool v.Back), .lit (.int .i64 v.V.Root), .lit (.int .i64 v.V.Cost), .lit (.int .i64 v.V.Hops), .lit (.int .i64 v.V.Bridge), .lit (.int .i64 v.V.Port)]
def Say.wf (v : Say) : Prop := intWf v.Link ∧ intWf v.V.Root ∧ intWf v.V.Cost ∧ intWf v.V.Hops ∧ intWf v.V.Bridge ∧ intWf v.V.Port ∧ True
theorem Say.enc : Enc Say [.int .i64, .bool, .int .i64, .int .i64, .int .i64, .int .i64, .int .i64] Say.row Say.wf := fun cs h => by
  obtain ⟨c0, r0, rfl, k0, h⟩ := fitR_cons h
  obtain ⟨c1, r1, rfl, k1, h⟩ := fitR_cons h
  obtain ⟨c2, r2, rfl, k2, h⟩ := fitR_cons h
  obtain ⟨c3, r3, rfl, k3, h⟩ := fitR_cons h
  obtain ⟨c4, r4, rfl, k4, h⟩ := fitR_cons h
  obtain ⟨c5, r5, rfl, k5, h⟩ := fitR_cons h
  obtain ⟨c6, r6, rfl, k6, h⟩ := fitR_cons h
  obtain rfl := fitR_nil h
  obtain ⟨x0, rfl, w0⟩ := fitC_int k0
  obtain ⟨x1, rfl⟩ := fitC_bool k1
  obtain ⟨x2, rfl, w2⟩ := fitC_int k2
  obtain ⟨x3, rfl, w3⟩ := fitC_int k3
  obtain ⟨x4, rfl, w4⟩ := fitC_int k4
  obtain ⟨x5, rfl, w5⟩ := fitC_int k5
  obtain ⟨x6, rfl, w6⟩ := fitC_int k6
  exact ⟨⟨x0, x1, ⟨x2, x3, x4, x5, x6⟩⟩, rfl, ⟨w0, w2, w3, w4, w5, w6, trivial⟩⟩
theorem Say.row_mine (v : Say) : CV.mineRow (Say.row v) := mine_cons mine_lit (mine_cons mine_lit (mine_cons mine_lit (mine_cons mine_lit (mine_cons mine_lit (mine_cons mine_lit (mine_cons mine_lit (mine_nil)))))))

structure Net where
  Bridges : (List Bridge)
  Links : (List Link)
  Said : (List Say)
def Net.row (v : Net) : List CV := [.sl true 11 (v.Bridges.map Bridge.row), .sl true 4 (v.Links.map Link.row), .sl true 7 (v.Said.map Say.row)]
def Net.wf (v : Net) : Prop := listWf Bridge.wf v.Bridges ∧ listWf Link.wf v.Links ∧ listWf Say.wf v.Said ∧ True
theorem Net.enc : Enc Net [.sl 11 [.int .i64, .str, .sl 8 [.bool, .int .i64, .bool, .int .i64, .int .i64, .int .i64, .int .i64, .int .i64], .sl 5 [.int .i64, .int .i64, .int .i64, .int .i64, .bool], .sl 3 [.int .i64, .int .i64, .int .i64], .sl 1 [.int .i64], .int .i64, .int .i64, .int .i64, .int .i64, .int .i64], .sl 4 [.int .i64, .int .i64, .int .i64, .int .i64], .sl 7 [.int .i64, .bool, .int .i64, .int .i64, .int .i64, .int .i64, .int .i64]] Net.row Net.wf := fun cs h => by
  obtain ⟨c0, r0, rfl, k0, h⟩ := fitR_cons h
  obtain ⟨c1, r1, rfl, k1, h⟩ := fitR_cons h
  obtain ⟨c2, r2, rfl, k2, h⟩ := fitR_cons h
  obtain rfl := fitR_nil h
  obtain ⟨x0, rfl, w0⟩ := Enc.sl Bridge.enc k0
  obtain ⟨x1, rfl, w1⟩ := Enc.sl Link.enc k1
  obtain ⟨x2, rfl, w2⟩ := Enc.sl Say.enc k2
  exact ⟨⟨x0, x1, x2⟩, rfl, ⟨w0, w1, w2, trivial⟩⟩
theorem Net.row_mine (v : Net) : CV.mineRow (Net.row v) := mine_cons (mine_sl (mine_map Bridge.row_mine _)) (mine_cons (mine_sl (mine_map Link.row_mine _)) (mine_cons (mine_sl (mine_map Say.row_mine _)) (mine_nil)))

def laws_szPtSF (n : Nat) (x0 : (List Pt)) (x1 : Int) : Option (Int) :=
  (bif (decide ((IntKind.wrap .i64 (x1 - (x0.length : Int))) < 0)) then (some (-1)) else (some (IntKind.wrap .i64 (x1 - (x0.length : Int)))))
/-- loop.example/g00326/laws.szPtS -/
theorem laws_szPtS (n : Nat) (x0 : (List Pt)) (x1 : Int) (r : Int) (H : laws_szPtSF n x0 x1 = some r) : LCall Try.prog 94 [.val false [.sl false 8 (CV.frzEs (x0.map Pt.row))], .val false [.lit (.int .i64 x1)]] [.val false [.lit (.int .i64 r)]] [] := by
  refine LCall.of_body tOk Try.func94 rfl (c := (.seq (.region 0 (rg Try.f94 0) false) (.seq (.region 1 (rg Try.f94 1) false) (.seq (.seq (.region 2 (rg Try.f94 2) false) (.cond (.tmp 10) (.seq (.region 3 (rg Try.f94 3) false) .ret) .skip)) (.seq (.region 4 (rg Try.f94 4) false) .ret))))) kr (Nat.le_of_ble_eq_true kr) 0 (rs := [.tmp 4]) rfl [] .nil [(false, [.lit (.int .i64 r)])] [] [] fun cx => ?_
  show Tr _ _ _ ⟨12, 0, [sC 0 (cF 8 x0 Pt.row), sI 1 x1], []⟩ _
  unfold laws_szPtSF at H
  refine Tr.rs ?_
  refine LAt.runU tOk 1 kr ?_
  refine LAt.doneM 19 0 kr ?_
  refine Tr.rs ?_
  refine LAt.runU tOk 2 kr ?_
  refine LAt.lenE tOk (t := 47) (ty := 3) (e := 169) (x := (.tmp 6)) (d := 7) (g := none) ⟨(.slot 6), [], 0, false, 8, (CV.frzEs (x0.map Pt.row))⟩ (x0).length _ kr kr kr kr kr (frz_len _ _) rfl ?_
  refine LAt.runU tOk 2 kr ?_
  refine LAt.doneM 18 0 kr ?_
  refine Tr.seq ?_
  refine Tr.rs ?_
  refine LAt.runU tOk 2 kr ?_
  refine LAt.doneM 1042 0 kr ?_
  refine Tr.to ⟨12, 0, [sB 10 (decide ((IntKind.wrap .i64 (x1 - (x0.length : Int))) < 0)), sI 1 (IntKind.wrap .i64 (x1 - (x0.length : Int))), sI 4 0], []⟩ kr ?_
  cases h1 : (decide ((IntKind.wrap .i64 (x1 - (x0.length : Int))) < 0))
  · have H := bifF h1 H
    refine Tr.cond (b := false) kr (fun h => nomatch h) (fun _ => ?_)
    refine Tr.skip ?_
    show Tr _ _ _ _ _
    refine Tr.rs ?_
    refine LAt.runU tOk 2 kr ?_
    refine LAt.doneM 16 0 kr ?_
    refine Tr.ret ?_
    have H := Option.some.inj H
    subst H
    exact Fin.of _ [(false, [cI (IntKind.wrap .i64 (x1 - (x0.length : Int)))])] kr rfl rfl
  · have H := bifT h1 H
    refine Tr.cond (b := true) kr (fun _ => ?_) (fun h => nomatch h)
    refine Tr.rs ?_
    refine LAt.runU tOk 1 kr ?_
    refine LAt.doneM 18 0 kr ?_
    refine Tr.ret ?_
    have H := Option.some.inj H
    subst H
    exact Fin.of _ [(false, [cI (-1)])] kr rfl rfl

def laws_szFentSF (n : Nat) (x0 : (List Fent)) (x1 : Int) : Option (Int) :=
  (bif (decide ((IntKind.wrap .i64 (x1 - (x0.length : Int))) < 0)) then (some (-1)) else (some (IntKind.wrap .i64 (x1 - (x0.length : Int)))))
/-- loop.example/g00326/laws.szFentS -/
theorem laws_szFentS (n : Nat) (x0 : (List Fent)) (x1 : Int) (r : Int) (H : laws_szFentSF n x0 x1 = some r) : LCall Try.prog 95 [.val false [.sl false 5 (CV.frzEs (x0.map Fent.row))], .val false [.lit (.int .i64 x1)]] [.val false [.lit (.int .i64 r)]] [] := by
  refine LCall.of_body tOk Try.func95 rfl (c := (.seq (.region 0 (rg Try.f95 0) false) (.seq (.region 1 (rg Try.f95 1) false) (.seq (.seq (.region 2 (rg Try.f95 2) false) (.cond (.tmp 10) (.seq (.region 3 (rg Try.f95 3) false) .ret) .skip)) (.seq (.region 4 (rg Try.f95 4) false) .ret))))) kr (Nat.le_of_ble_eq_true kr) 0 (rs := [.tmp 4]) rfl [] .nil [(false, [.lit (.int .i64 r)])] [] [] fun cx => ?_
  show Tr _ _ _ ⟨12, 0, [sC 0 (cF 5 x0 Fent.row), sI 1 x1], []⟩ _
  unfold laws_szFentSF at H
  refine Tr.rs ?_
  refine LAt.runU tOk 1 kr ?_
  refine LAt.doneM 19 0 kr ?_
  refine Tr.rs ?_
  refine LAt.runU tOk 2 kr ?_
  refine LAt.lenE tOk (t := 48) (ty := 3) (e := 171) (x := (.tmp 6)) (d := 7) (g := none) ⟨(.slot 6), [], 0, false, 5, (CV.frzEs (x0.map Fent.row))⟩ (x0).length _ kr kr kr kr kr (frz_len _ _) rfl ?_
  refine LAt.runU tOk 2 kr ?_
  refine LAt.doneM 18 0 kr ?_
  refine Tr.seq ?_
  refine Tr.rs ?_
  refine LAt.runU tOk 2 kr ?_
  refine LAt.doneM 1042 0 kr ?_
  refine Tr.to ⟨12, 0, [sB 10 (decide ((IntKind.wrap .i64 (x1 - (x0.length : Int))) < 0)), sI 1 (IntKind.wrap .i64 (x1 - (x0.length : Int))), sI 4 0], []⟩ kr ?_
  cases h1 : (decide ((IntKind.wrap .i64 (x1 - (x0.length : Int))) < 0))
  · have H := bifF h1 H
    refine Tr.cond (b := false) kr (fun h => nomatch h) (fun _ => ?_)
    refine Tr.skip ?_
    show Tr _ _ _ _ _
    refine Tr.rs ?_
    refine LAt.runU tOk 2 kr ?_
    refine LAt.doneM 16 0 kr ?_
    refine Tr.ret ?_
    have H := Option.some.inj H
    subst H
    exact Fin.of _ [(false, [cI (IntKind.wrap .i64 (x1 - (x0.length : Int)))])] kr rfl rfl
  · have H := bifT h1 H
    refine Tr.cond (b := true) kr (fun _ => ?_) (fun h => nomatch h)
    refine Tr.rs ?_
    refine LAt.runU tOk 1 kr ?_
    refine LAt.doneM 18 0 kr ?_
    refine Tr.ret ?_
    have H := Option.some.inj H
    subst H
    exact Fin.of _ [(false, [cI (-1)])] kr rfl rfl

def laws_szVrowSF (n : Nat) (x0 : (List Vrow)) (x1 : Int) : Option (Int) :=
  (bif (decide ((IntKind.wrap .i64 (x1 - (x0.length : Int))) < 0)) then (some (-1)) else (some (IntKind.wrap .i64 (x1 - (x0.length : Int)))))
/-- loop.example/g00326/laws.szVrowS -/
theorem laws_szVrowS (n : Nat) (x0 : (List Vrow)) (x1 : Int) (r : Int) (H : laws_szVrowSF n x0 x1 = some r) : LCall Try.prog 150 [.val false [.sl false 3 (CV.frzEs (x0.map Vrow.row))], .val false [.lit (.int .i64 x1)]] [.val false [.lit (.int .i64 r)]] [] := by
  refine LCall.of_body tOk Try.func150 rfl (c := (.seq (.region 0 (rg Try.f150 0) false) (.seq (.region 1 (rg Try.f150 1) false) (.seq (.seq (.region 2 (rg Try.f150 2) false) (.cond (.tmp 10) (.seq (.region 3 (rg Try.f150 3) false) .ret) .skip)) (.seq (.region 4 (rg Try.f150 4) false) .ret))))) kr (Nat.le_of_ble_eq_true kr) 0 (rs := [.tmp 4]) rfl [] .nil [(false, [.lit (.int .i64 r)])] [] [] fun cx => ?_
  show Tr _ _ _ ⟨12, 0, [sC 0 (cF 3 x0 Vrow.row), sI 1 x1], []⟩ _
  unfold laws_szVrowSF at H
  refine Tr.rs ?_
  refine LAt.runU tOk 1 kr ?_
  refine LAt.doneM 19 0 kr ?_
  refine Tr.rs ?_
  refine LAt.runU tOk 2 kr ?_
  refine LAt.lenE tOk (t := 49) (ty := 3) (e := 187) (x := (.tmp 6)) (d := 7) (g := none) ⟨(.slot 6), [], 0, false, 3, (CV.frzEs (x0.map Vrow.row))⟩ (x0).length _ kr kr kr kr kr (frz_len _ _) rfl ?_
  refine LAt.runU tOk 2 kr ?_
  refine LAt.doneM 18 0 kr ?_
  refine Tr.seq ?_
  refine Tr.rs ?_
  refine LAt.runU tOk 2 kr ?_
  refine LAt.doneM 1042 0 kr ?_
  refine Tr.to ⟨12, 0, [sB 10 (decide ((IntKind.wrap .i64 (x1 - (x0.length : Int))) < 0)), sI 1 (IntKind.wrap .i64 (x1 - (x0.length : Int))), sI 4 0], []⟩ kr ?_
  cases h1 : (decide ((IntKind.wrap .i64 (x1 - (x0.length : Int))) < 0))
  · have H := bifF h1 H
    refine Tr.cond (b := false) kr (fun h => nomatch h) (fun _ => ?_)
    refine Tr.skip ?_
    show Tr _ _ _ _ _
    refine Tr.rs ?_
    refine LAt.runU tOk 2 kr ?_
    refine LAt.doneM 16 0 kr ?_
    refine Tr.ret ?_
    have H := Option.some.inj H
    subst H
    exact Fin.of _ [(false, [cI (IntKind.wrap .i64 (x1 - (x0.length : Int)))])] kr rfl rfl
  · have H := bifT h1 H
    refine Tr.cond (b := true) kr (fun _ => ?_) (fun h => nomatch h)
    refine Tr.rs ?_
    refine LAt.runU tOk 1 kr ?_
    refine LAt.doneM 18 0 kr ?_
    refine Tr.ret ?_
    have H := Option.some.inj H
    subst H
    exact Fin.of _ [(false, [cI (-1)])] kr rfl rfl

def laws_szIntSF (n : Nat) (x0 : (List Int)) (x1 : Int) : Option (Int) :=
  (bif (decide ((IntKind.wrap .i64 (x1 - (x0.length : Int))) < 0)) then (some (-1)) else (some (IntKind.wrap .i64 (x1 - (x0.length : Int)))))
/-- loop.example/g00326/laws.szIntS -/
theorem laws_szIntS (n : Nat) (x0 : (List Int)) (x1 : Int) (r : Int) (H : laws_szIntSF n x0 x1 = some r) : LCall Try.prog 151 [.val false [.sl false 1 (CV.frzEs (x0.map intRow))], .val false [.lit (.int .i64 x1)]] [.val false [.lit (.int .i64 r)]] [] := by
  refine LCall.of_body tOk Try.func151 rfl (c := (.seq (.region 0 (rg Try.f151 0) false) (.seq (.region 1 (rg Try.f151 1) false) (.seq (.seq (.region 2 (rg Try.f151 2) false) (.cond (.tmp 10) (.seq (.region 3 (rg Try.f151 3) false) .ret) .skip)) (.seq (.region 4 (rg Try.f151 4) false) .ret))))) kr (Nat.le_of_ble_eq_true kr) 0 (rs := [.tmp 4]) rfl [] .nil [(false, [.lit (.int .i64 r)])] [] [] fun cx => ?_
  show Tr _ _ _ ⟨12, 0, [sC 0 (cF 1 x0 intRow), sI 1 x1], []⟩ _
  unfold laws_szIntSF at H
  refine Tr.rs ?_
  refine LAt.runU tOk 1 kr ?_
  refine LAt.doneM 19 0 kr ?_
  refine Tr.rs ?_
  refine LAt.runU tOk 2 kr ?_
  refine LAt.lenE tOk (t := 27) (ty := 3) (e := 3) (x := (.tmp 6)) (d := 7) (g := none) ⟨(.slot 6), [], 0, false, 1, (CV.frzEs (x0.map intRow))⟩ (x0).length _ kr kr kr kr kr (frz_len _ _) rfl ?_
  refine LAt.runU tOk 2 kr ?_
  refine LAt.doneM 18 0 kr ?_
  refine Tr.seq ?_
  refine Tr.rs ?_
  refine LAt.runU tOk 2 kr ?_
  refine LAt.doneM 1042 0 kr ?_
  refine Tr.to ⟨12, 0, [sB 10 (decide ((IntKind.wrap .i64 (x1 - (x0.length : Int))) < 0)), sI 1 (IntKind.wrap .i64 (x1 - (x0.length : Int))), sI 4 0], []⟩ kr ?_
  cases h1 : (decide ((IntKind.wrap .i64 (x1 - (x0.length : Int))) < 0))
  · have H := bifF h1 H
    refine Tr.cond (b := false) kr (fun h => nomatch h) (fun _ => ?_)
    refine Tr.skip ?_
    show Tr _ _ _ _ _
    refine Tr.rs ?_
    refine LAt.runU tOk 2 kr ?_
    refine LAt.doneM 16 0 kr ?_
    refine Tr.ret ?_
    have H := Option.some.inj H
    subst H
    exact Fin.of _ [(false, [cI (IntKind.wrap .i64 (x1 - (x0.length : Int)))])] kr rfl rfl
  · have H := bifT h1 H
    refine Tr.cond (b := true) kr (fun _ => ?_) (fun h => nomatch h)
    refine Tr.rs ?_
    refine LAt.runU tOk 1 kr ?_
    refine LAt.doneM 18 0 kr ?_
    refine Tr.ret ?_
    have H := Option.some.inj H
    subst H
    exact Fin.of _ [(false, [cI (-1)])] kr rfl rfl

def laws_szVtabF (n : Nat) (x0 : Vtab) (x1 : Int) : Option (Int) :=
  ((laws_szVrowSF n x0.Rows x1).bind fun r1 => (bif (decide (r1 < 0)) then (some (-1)) else ((laws_szIntSF n x0.Pvid r1).bind fun r2 => (bif (decide (r2 < 0)) then (some (-1)) else (some r2)))))
/-- loop.example/g00326/laws.szVtab -/
theorem laws_szVtab (n : Nat) (x0 : Vtab) (x1 : Int) (r : Int) (H : laws_szVtabF n x0 x1 = some r) : LCall Try.prog 96 [.val true (CV.frzRow (Vtab.row x0)), .val false [.lit (.int .i64 x1)]] [.val false [.lit (.int .i64 r)]] [] := by
  refine LCall.of_body tOk Try.func96 rfl (c := (.seq (.region 0 (rg Try.f96 0) false) (.seq (.region 1 (rg Try.f96 1) false) (.seq (.seq (.region 2 (rg Try.f96 2) false) (.cond (.tmp 10) (.seq (.region 3 (rg Try.f96 3) false) .ret) .skip)) (.seq (.region 4 (rg Try.f96 4) false) (.seq (.seq (.region 5 (rg Try.f96 5) false) (.cond (.tmp 16) (.seq (.region 6 (rg Try.f96 6) false) .ret) .skip)) (.seq (.region 7 (rg Try.f96 7) false) .ret))))))) kr (Nat.le_of_ble_eq_true kr) 0 (rs := [.tmp 4]) rfl [] .nil [(false, [.lit (.int .i64 r)])] [] [] fun cx => ?_
  show Tr _ _ _ ⟨18, 0, [sV 0 (CV.frzRow (Vtab.row x0)), sI 1 x1], []⟩ _
  unfold laws_szVtabF at H
  refine Tr.rs ?_
  refine LAt.runU tOk 2 kr ?_
  refine LAt.doneM 22 4 kr ?_
  refine Tr.rs ?_
  refine LAt.runU tOk 3 kr ?_
  obtain ⟨r1, er1, H⟩ := bind_some H
  refine LAt.callU tOk [.rd, .rd] (f := 150) (av := #[.tmp 6, .tmp 7]) (ats := #[49, 3]) (d := (some 8)) (ty := 3) (g := none) kr kr kr [] (laws_szVrowS n x0.Rows x1 r1 er1) kr (.inl rfl) ?_
  refine LAt.runU tOk 1 kr ?_
  refine LAt.doneM 22 4 kr ?_
  refine Tr.seq ?_
  refine Tr.rs ?_
  refine LAt.runU tOk 2 kr ?_
  refine LAt.doneM 1046 4 kr ?_
  refine Tr.to ⟨18, 0, [sB 10 (decide (r1 < 0)), sI 1 r1, sI 4 0, sA 2 2 2 0], [(2, (CV.frzRow (Vtab.row x0)))]⟩ kr ?_
  cases h1 : (decide (r1 < 0))
  · have H := bifF h1 H
    refine Tr.cond (b := false) kr (fun h => nomatch h) (fun _ => ?_)
    refine Tr.skip ?_
    show Tr _ _ _ _ _
    refine Tr.rs ?_
    refine LAt.runU tOk 3 kr ?_
    obtain ⟨r2, er2, H⟩ := bind_some H
    refine LAt.callU tOk [.rd, .rd] (f := 151) (av := #[.tmp 12, .tmp 13]) (ats := #[27, 3]) (d := (some 14)) (ty := 3) (g := none) kr kr kr [] (laws_szIntS n x0.Pvid r1 r2 er2) kr (.inl rfl) ?_
    refine LAt.runU tOk 1 kr ?_
    refine LAt.doneM 18 0 kr ?_
    refine Tr.seq ?_
    refine Tr.rs ?_
    refine LAt.runU tOk 2 kr ?_
    refine LAt.doneM 65554 0 kr ?_
    refine Tr.to ⟨18, 0, [sB 16 (decide (r2 < 0)), sI 1 r2, sI 4 0], []⟩ kr ?_
    cases h2 : (decide (r2 < 0))
    · have H := bifF h2 H
      refine Tr.cond (b := false) kr (fun h => nomatch h) (fun _ => ?_)
      refine Tr.skip ?_
      show Tr _ _ _ _ _
      refine Tr.rs ?_
      refine LAt.runU tOk 2 kr ?_
      refine LAt.doneM 16 0 kr ?_
      refine Tr.ret ?_
      have H := Option.some.inj H
      subst H
      exact Fin.of _ [(false, [cI r2])] kr rfl rfl
    · have H := bifT h2 H
      refine Tr.cond (b := true) kr (fun _ => ?_) (fun h => nomatch h)
      refine Tr.rs ?_
      refine LAt.runU tOk 1 kr ?_
      refine LAt.doneM 18 0 kr ?_
      refine Tr.ret ?_
      have H := Option.some.inj H
      subst H
      exact Fin.of _ [(false, [cI (-1)])] kr rfl rfl
  · have H := bifT h1 H
    refine Tr.cond (b := true) kr (fun _ => ?_) (fun h => nomatch h)
    refine Tr.rs ?_
    refine LAt.runU tOk 1 kr ?_
    refine LAt.doneM 22 4 kr ?_
    refine Tr.ret ?_
    have H := Option.some.inj H
    subst H
    exact Fin.of _ [(false, [cI (-1)])] kr rfl rfl

def laws_szBridgeF (n : Nat) (x0 : Bridge) (x1 : Int) : Option (Int) :=
  (bif (decide ((IntKind.wrap .i64 (x1 - (x0.Name.size : Int))) < 0)) then (some (-1)) else ((laws_szPtSF n x0.Ports (IntKind.wrap .i64 (x1 - (x0.Name.size : Int)))).bind fun r1 => (bif (decide (r1 < 0)) then (some (-1)) else ((laws_szFentSF n x0.F r1).bind fun r2 => (bif (decide (r2 < 0)) then (some (-1)) else ((laws_szVtabF n x0.V r2).bind fun r3 => (bif (decide (r3 < 0)) then (some (-1)) else (some r3))))))))
/-- loop.example/g00326/laws.szBridge -/
theorem laws_szBridge (n : Nat) (x0 : Bridge) (x1 : Int) (r : Int) (H : laws_szBridgeF n x0 x1 = some r) : LCall Try.prog 35 [.val true (CV.frzRow (Bridge.row x0)), .val false [.lit (.int .i64 x1)]] [.val false [.lit (.int .i64 r)]] [] := by
  refine LCall.of_body tOk Try.func35 rfl (c := (.seq (.region 0 (rg Try.f35 0) false) (.seq (.region 1 (rg Try.f35 1) false) (.seq (.seq (.region 2 (rg Try.f35 2) false) (.cond (.tmp 11) (.seq (.region 3 (rg Try.f35 3) false) .ret) .skip)) (.seq (.region 4 (rg Try.f35 4) false) (.seq (.seq (.region 5 (rg Try.f35 5) false) (.cond (.tmp 17) (.seq (.region 6 (rg Try.f35 6) false) .ret) .skip)) (.seq (.region 7 (rg Try.f35 7) false) (.seq (.seq (.region 8 (rg Try.f35 8) false) (.cond (.tmp 23) (.seq (.region 9 (rg Try.f35 9) false) .ret) .skip)) (.seq (.region 10 (rg Try.f35 10) false) (.seq (.seq (.region 11 (rg Try.f35 11) false) (.cond (.tmp 29) (.seq (.region 12 (rg Try.f35 12) false) .ret) .skip)) (.seq (.region 13 (rg Try.f35 13) false) .ret))))))))))) kr (Nat.le_of_ble_eq_true kr) 0 (rs := [.tmp 4]) rfl [] .nil [(false, [.lit (.int .i64 r)])] [] [] fun cx => ?_
  show Tr _ _ _ ⟨31, 0, [sV 0 (CV.frzRow (Bridge.row x0)), sI 1 x1], []⟩ _
  unfold laws_szBridgeF at H
  refine Tr.rs ?_
  refine LAt.runU tOk 2 kr ?_
  refine LAt.doneM 22 4 kr ?_
  refine Tr.rs ?_
  refine LAt.runU tOk 6 kr ?_
  refine LAt.doneM 22 4 kr ?_
  refine Tr.seq ?_
  refine Tr.rs ?_
  refine LAt.runU tOk 2 kr ?_
  refine LAt.doneM 2070 4 kr ?_
  refine Tr.to ⟨31, 0, [sB 11 (decide ((IntKind.wrap .i64 (x1 - (x0.Name.size : Int))) < 0)), sI 1 (IntKind.wrap .i64 (x1 - (x0.Name.size : Int))), sI 4 0, sA 2 2 11 0], [(2, (CV.frzRow (Bridge.row x0)))]⟩ kr ?_
  cases h1 : (decide ((IntKind.wrap .i64 (x1 - (x0.Name.size : Int))) < 0))
  · have H := bifF h1 H
    refine Tr.cond (b := false) kr (fun h => nomatch h) (fun _ => ?_)
    refine Tr.skip ?_
    show Tr _ _ _ _ _
    refine Tr.rs ?_
    refine LAt.runU tOk 3 kr ?_
    obtain ⟨r1, er1, H⟩ := bind_some H
    refine LAt.callU tOk [.rd, .rd] (f := 94) (av := #[.tmp 13, .tmp 14]) (ats := #[47, 3]) (d := (some 15)) (ty := 3) (g := none) kr kr kr [] (laws_szPtS n x0.Ports (IntKind.wrap .i64 (x1 - (x0.Name.size : Int))) r1 er1) kr (.inl rfl) ?_
    refine LAt.runU tOk 1 kr ?_
    refine LAt.doneM 22 4 kr ?_
    refine Tr.seq ?_
    refine Tr.rs ?_
    refine LAt.runU tOk 2 kr ?_
    refine LAt.doneM 131094 4 kr ?_
    refine Tr.to ⟨31, 0, [sB 17 (decide (r1 < 0)), sI 1 r1, sI 4 0, sA 2 2 11 0], [(2, (CV.frzRow (Bridge.row x0)))]⟩ kr ?_
    cases h2 : (decide (r1 < 0))
    · have H := bifF h2 H
      refine Tr.cond (b := false) kr (fun h => nomatch h) (fun _ => ?_)
      refine Tr.skip ?_
      show Tr _ _ _ _ _
      refine Tr.rs ?_
      refine LAt.runU tOk 3 kr ?_
      obtain ⟨r2, er2, H⟩ := bind_some H
      refine LAt.callU tOk [.rd, .rd] (f := 95) (av := #[.tmp 19, .tmp 20]) (ats := #[48, 3]) (d := (some 21)) (ty := 3) (g := none) kr kr kr [] (laws_szFentS n x0.F r1 r2 er2) kr (.inl rfl) ?_
      refine LAt.runU tOk 1 kr ?_
      refine LAt.doneM 22 4 kr ?_
      refine Tr.seq ?_
      refine Tr.rs ?_
      refine LAt.runU tOk 2 kr ?_
      refine LAt.doneM 8388630 4 kr ?_
      refine Tr.to ⟨31, 0, [sB 23 (decide (r2 < 0)), sI 1 r2, sI 4 0, sA 2 2 11 0], [(2, (CV.frzRow (Bridge.row x0)))]⟩ kr ?_
      cases h3 : (decide (r2 < 0))
      · have H := bifF h3 H
        refine Tr.cond (b := false) kr (fun h => nomatch h) (fun _ => ?_)
        refine Tr.skip ?_
        show Tr _ _ _ _ _
        refine Tr.rs ?_
        refine LAt.runU tOk 3 kr ?_
        obtain ⟨r3, er3, H⟩ := bind_some H
        refine LAt.callU tOk [.rd, .rd] (f := 96) (av := #[.tmp 25, .tmp 26]) (ats := #[51, 3]) (d := (some 27)) (ty := 3) (g := none) kr kr kr [] (laws_szVtab n x0.V r2 r3 er3) kr (.inl rfl) ?_
        refine LAt.runU tOk 1 kr ?_
        refine LAt.doneM 18 0 kr ?_
        refine Tr.seq ?_
        refine Tr.rs ?_
        refine LAt.runU tOk 2 kr ?_
        refine LAt.doneM 536870930 0 kr ?_
        refine Tr.to ⟨31, 0, [sB 29 (decide (r3 < 0)), sI 1 r3, sI 4 0], []⟩ kr ?_
        cases h4 : (decide (r3 < 0))
        · have H := bifF h4 H
          refine Tr.cond (b := false) kr (fun h => nomatch h) (fun _ => ?_)
          refine Tr.skip ?_
          show Tr _ _ _ _ _
          refine Tr.rs ?_
          refine LAt.runU tOk 2 kr ?_
          refine LAt.doneM 16 0 kr ?_
          refine Tr.ret ?_
          have H := Option.some.inj H
          subst H
          exact Fin.of _ [(false, [cI r3])] kr rfl rfl
        · have H := bifT h4 H
          refine Tr.cond (b := true) kr (fun _ => ?_) (fun h => nomatch h)
          refine Tr.rs ?_
          refine LAt.runU tOk 1 kr ?_
          refine LAt.doneM 18 0 kr ?_
          refine Tr.ret ?_
          have H := Option.some.inj H
          subst H
          exact Fin.of _ [(false, [cI (-1)])] kr rfl rfl
      · have H := bifT h3 H
        refine Tr.cond (b := true) kr (fun _ => ?_) (fun h => nomatch h)
        refine Tr.rs ?_
        refine LAt.runU tOk 1 kr ?_
        refine LAt.doneM 22 4 kr ?_
        refine Tr.ret ?_
        have H := Option.some.inj H
        subst H
        exact Fin.of _ [(false, [cI (-1)])] kr rfl rfl
    · have H := bifT h2 H
      refine Tr.cond (b := true) kr (fun _ => ?_) (fun h => nomatch h)
      refine Tr.rs ?_
      refine LAt.runU tOk 1 kr ?_
      refine LAt.doneM 22 4 kr ?_
      refine Tr.ret ?_
      have H := Option.some.inj H
      subst H
      exact Fin.of _ [(false, [cI (-1)])] kr rfl rfl
  · have H := bifT h1 H
    refine Tr.cond (b := true) kr (fun _ => ?_) (fun h => nomatch h)
    refine Tr.rs ?_
    refine LAt.runU tOk 1 kr ?_
    refine LAt.doneM 22 4 kr ?_
    refine Tr.ret ?_
    have H := Option.some.inj H
    subst H
    exact Fin.of _ [(false, [cI (-1)])] kr rfl rfl

def laws_szBridgeS_J1 (n : Nat) (y3 : Int) : Option (Int) :=
  (some y3)
def laws_szBridgeS_L2 (n : Nat) : Nat → (List Bridge) → Int → Int → Option ((Int) ⊕ (Int))
  | 0, _, _, _ => none
  | mo4 + 1, x0, y1, y2 => (bif (decide (y1 < (x0.length : Int))) then ((idx x0 y1).bind fun v5 => ((laws_szBridgeF n v5 y2).bind fun r6 => (bif (decide (r6 < 0)) then (some (Sum.inr (-1))) else (laws_szBridgeS_L2 n mo4 x0 (IntKind.wrap .i64 (y1 + 1)) r6)))) else (some (Sum.inl y2)))
def laws_szBridgeSF (n : Nat) (x0 : (List Bridge)) (x1 : Int) : Option (Int) :=
  (bif (decide ((IntKind.wrap .i64 (x1 - (x0.length : Int))) < 0)) then (some (-1)) else ((laws_szBridgeS_L2 n n x0 0 (IntKind.wrap .i64 (x1 - (x0.length : Int)))).bind fun o => match o with | .inl y3 => (laws_szBridgeS_J1 n y3) | .inr r => some r))
/-- loop.example/g00326/laws.szBridgeS -/
theorem laws_szBridgeS (n : Nat) (x0 : (List Bridge)) (x1 : Int) (r : Int) (H : laws_szBridgeSF n x0 x1 = some r) : LCall Try.prog 62 [.val false [.sl false 11 (CV.frzEs (x0.map Bridge.row))], .val false [.lit (.int .i64 x1)]] [.val false [.lit (.int .i64 r)]] [] := by
  refine LCall.of_body tOk Try.func62 rfl (c := (.seq (.region 0 (rg Try.f62 0) false) (.seq (.region 1 (rg Try.f62 1) false) (.seq (.seq (.region 2 (rg Try.f62 2) false) (.cond (.tmp 11) (.seq (.region 3 (rg Try.f62 3) false) .ret) .skip)) (.seq (.seq (.region 4 (rg Try.f62 4) false) (.block 0 (.loop (.seq (.seq (.region 5 (rg Try.f62 5) false) (.cond (.tmp 15) .skip (.exit 0))) (.seq (.block 1 (.seq (.region 7 (rg Try.f62 7) false) (.seq (.region 8 (rg Try.f62 8) false) (.cond (.tmp 25) (.seq (.region 9 (rg Try.f62 9) false) .ret) .skip)))) (.region 6 (rg Try.f62 6) false)))))) (.seq (.region 10 (rg Try.f62 10) false) .ret)))))) kr (Nat.le_of_ble_eq_true kr) 0 (rs := [.tmp 4]) rfl [] .nil [(false, [.lit (.int .i64 r)])] [] [] fun cx => ?_
  show Tr _ _ _ ⟨27, 0, [sC 0 (cF 11 x0 Bridge.row), sI 1 x1], []⟩ _
  unfold laws_szBridgeSF at H
  refine Tr.rs ?_
  refine LAt.runU tOk 1 kr ?_
  refine LAt.doneM 19 0 kr ?_
  refine Tr.rs ?_
  refine LAt.runU tOk 2 kr ?_
  refine LAt.lenE tOk (t := 22) (ty := 3) (e := 53) (x := (.tmp 7)) (d := 8) (g := none) ⟨(.slot 7), [], 0, false, 11, (CV.frzEs (x0.map Bridge.row))⟩ (x0).length _ kr kr kr kr kr (frz_len _ _) rfl ?_
  refine LAt.runU tOk 2 kr ?_
  refine LAt.doneM 19 0 kr ?_
  refine Tr.seq ?_
  refine Tr.rs ?_
  refine LAt.runU tOk 2 kr ?_
  refine LAt.doneM 2067 0 kr ?_
  refine Tr.to ⟨27, 0, [sB 11 (decide ((IntKind.wrap .i64 (x1 - (x0.length : Int))) < 0)), sI 1 (IntKind.wrap .i64 (x1 - (x0.length : Int))), sI 4 0, sC 0 (cF 11 x0 Bridge.row)], []⟩ kr ?_
  cases h1 : (decide ((IntKind.wrap .i64 (x1 - (x0.length : Int))) < 0))
  · have H := bifF h1 H
    refine Tr.cond (b := false) kr (fun h => nomatch h) (fun _ => ?_)
    refine Tr.skip ?_
    show Tr _ _ _ _ _
    refine Tr.seq ?_
    refine Tr.rs ?_
    refine LAt.runU tOk 1 kr ?_
    refine LAt.doneM 51 0 kr ?_
    obtain ⟨o4, eo4, Ho4⟩ := bind_some H
    clear H
    refine Tr.mid (ι := Int) (fun v => ⟨27, 0, [sI 1 v, sI 4 0], []⟩) (fun v => laws_szBridgeS_J1 n v = some r) ?_ ?_
    · refine Tr.block ?_
      refine Tr.loop (ι := Nat × (Int × Int)) (fun v => ⟨27, 0, [sI 5 v.2.1, sI 1 v.2.2, sI 4 0, sC 0 (cF 11 x0 Bridge.row)], []⟩) (fun v => laws_szBridgeS_L2 n v.1 x0 v.2.1 v.2.2 = some o4) (fun v => v.1) (n, (0, (IntKind.wrap .i64 (x1 - (x0.length : Int))))) eo4 (St.sub_of [5, 1, 4, 0] [] kr) ?_
      rintro ⟨mo4, y1, y2⟩ H
      have H : laws_szBridgeS_L2 n mo4 x0 y1 y2 = some o4 := H
      obtain _ | mo4 := mo4
      · cases (show (none : Option _) = some o4 from H)
      · rw [laws_szBridgeS_L2] at H
        refine Tr.seq ?_
        refine Tr.rs ?_
        refine LAt.runU tOk 2 kr ?_
        refine LAt.lenE tOk (t := 22) (ty := 3) (e := 53) (x := (.tmp 13)) (d := 14) (g := none) ⟨(.slot 13), [], 0, false, 11, (CV.frzEs (x0.map Bridge.row))⟩ (x0).length _ kr kr kr kr kr (frz_len _ _) rfl ?_
        refine LAt.runU tOk 1 kr ?_
        refine LAt.doneM 61491 0 kr ?_
        refine Tr.to ⟨27, 0, [sB 15 (decide (y1 < (x0.length : Int))), sI 14 (x0.length : Int), sC 13 (cF 11 x0 Bridge.row), sI 12 y1, sI 5 y1, sI 1 y2, sI 4 0, sC 0 (cF 11 x0 Bridge.row)], []⟩ kr ?_
        cases h2 : (decide (y1 < (x0.length : Int)))
        · have H := bifF h2 H
          refine Tr.cond (b := false) kr (fun h => nomatch h) (fun _ => ?_)
          refine Tr.exit ?_
          refine And.intro (fun _ => ?_) (fun h => absurd rfl h)
          have H := Option.some.inj H
          subst H
          have H := Ho4
          dsimp only at H
          exact Exists.intro y2 (And.intro H (St.sub_of [1, 4] [] kr))
        · have H := bifT h2 H
          refine Tr.cond (b := true) kr (fun _ => ?_) (fun h => nomatch h)
          refine Tr.skip ?_
          show Tr _ _ _ _ _
          refine Tr.seq ?_
          refine Tr.block ?_
          refine Tr.rs ?_
          refine LAt.runU tOk 2 kr ?_
          obtain ⟨v5, ev5, H⟩ := bind_some H
          refine LAt.indexF tOk (t := 22) (ty := 0) (x := (.tmp 18)) (y := (.tmp 19)) (d := 20) (g := none) ⟨(.slot 18), [], 0, false, 11, (CV.frzEs (x0.map Bridge.row))⟩ y1 (CV.frzRow (Bridge.row v5)) _ kr kr kr kr rfl (idx_isF ev5) rfl ?_
          refine LAt.runU tOk 2 kr ?_
          obtain ⟨r6, er6, H⟩ := bind_some H
          refine LAt.callU tOk [.rd, .rd] (f := 35) (av := #[.tmp 21, .tmp 22]) (ats := #[53, 3]) (d := (some 23)) (ty := 3) (g := none) kr kr kr [] (laws_szBridge n v5 y2 r6 er6) kr (.inl rfl) ?_
          refine LAt.runU tOk 1 kr ?_
          refine LAt.doneM 16576563 0 kr ?_
          refine Tr.rs ?_
          refine LAt.runU tOk 2 kr ?_
          refine LAt.doneM 66908211 0 kr ?_
          refine Tr.to ⟨27, 0, [sB 25 (decide (r6 < 0)), sI 24 r6, sI 1 r6, sI 23 r6, sI 22 y2, sV 21 (CV.frzRow (Bridge.row v5)), (20, .fad ((CV.frzRow (Bridge.row v5)))), sI 19 y1, sC 18 (cF 11 x0 Bridge.row), sB 15 true, sI 14 (x0.length : Int), sC 13 (cF 11 x0 Bridge.row), sI 12 y1, sI 5 y1, sI 4 0, sC 0 (cF 11 x0 Bridge.row)], []⟩ kr ?_
          cases h3 : (decide (r6 < 0))
          · have H := bifF h3 H
            refine Tr.cond (b := false) kr (fun h => nomatch h) (fun _ => ?_)
            refine Tr.skip ?_
            show Tr _ _ _ _ _
            refine Tr.at ?_
            refine LAt.runU tOk 3 kr ?_
            refine LAt.doneM 67104819 0 kr ?_
            exact Exists.intro (mo4, ((IntKind.wrap .i64 (y1 + 1)), r6)) (And.intro H (And.intro (Nat.lt_succ_self mo4) (St.sub_of [5, 1, 4, 0] [] kr)))
          · have H := bifT h3 H
            refine Tr.cond (b := true) kr (fun _ => ?_) (fun h => nomatch h)
            refine Tr.rs ?_
            refine LAt.runU tOk 1 kr ?_
            refine LAt.doneM 66908211 0 kr ?_
            refine Tr.ret ?_
            have H := Option.some.inj H
            subst H
            have H := Ho4
            dsimp only at H
            have H := Option.some.inj H
            subst H
            exact Fin.of _ [(false, [cI (-1)])] kr rfl rfl
    · rintro y3 H
      have H : (laws_szBridgeS_J1 n y3) = some r := H
      unfold laws_szBridgeS_J1 at H
      show Tr _ _ _ _ _
      refine Tr.rs ?_
      refine LAt.runU tOk 2 kr ?_
      refine LAt.doneM 16 0 kr ?_
      refine Tr.ret ?_
      have H := Option.some.inj H
      subst H
      exact Fin.of _ [(false, [cI y3])] kr rfl rfl
  · have H := bifT h1 H
    refine Tr.cond (b := true) kr (fun _ => ?_) (fun h => nomatch h)
    refine Tr.rs ?_
    refine LAt.runU tOk 1 kr ?_
    refine LAt.doneM 19 0 kr ?_
    refine Tr.ret ?_
    have H := Option.some.inj H
    subst H
    exact Fin.of _ [(false, [cI (-1)])] kr rfl rfl

def laws_szLinkSF (n : Nat) (x0 : (List Link)) (x1 : Int) : Option (Int) :=
  (bif (decide ((IntKind.wrap .i64 (x1 - (x0.length : Int))) < 0)) then (some (-1)) else (some (IntKind.wrap .i64 (x1 - (x0.length : Int)))))
/-- loop.example/g00326/laws.szLinkS -/
theorem laws_szLinkS (n : Nat) (x0 : (List Link)) (x1 : Int) (r : Int) (H : laws_szLinkSF n x0 x1 = some r) : LCall Try.prog 63 [.val false [.sl false 4 (CV.frzEs (x0.map Link.row))], .val false [.lit (.int .i64 x1)]] [.val false [.lit (.int .i64 r)]] [] := by
  refine LCall.of_body tOk Try.func63 rfl (c := (.seq (.region 0 (rg Try.f63 0) false) (.seq (.region 1 (rg Try.f63 1) false) (.seq (.seq (.region 2 (rg Try.f63 2) false) (.cond (.tmp 10) (.seq (.region 3 (rg Try.f63 3) false) .ret) .skip)) (.seq (.region 4 (rg Try.f63 4) false) .ret))))) kr (Nat.le_of_ble_eq_true kr) 0 (rs := [.tmp 4]) rfl [] .nil [(false, [.lit (.int .i64 r)])] [] [] fun cx => ?_
  show Tr _ _ _ ⟨12, 0, [sC 0 (cF 4 x0 Link.row), sI 1 x1], []⟩ _
  unfold laws_szLinkSF at H
  refine Tr.rs ?_
  refine LAt.runU tOk 1 kr ?_
  refine LAt.doneM 19 0 kr ?_
  refine Tr.rs ?_
  refine LAt.runU tOk 2 kr ?_
  refine LAt.lenE tOk (t := 23) (ty := 3) (e := 146) (x := (.tmp 6)) (d := 7) (g := none) ⟨(.slot 6), [], 0, false, 4, (CV.frzEs (x0.map Link.row))⟩ (x0).length _ kr kr kr kr kr (frz_len _ _) rfl ?_
  refine LAt.runU tOk 2 kr ?_
  refine LAt.doneM 18 0 kr ?_
  refine Tr.seq ?_
  refine Tr.rs ?_
  refine LAt.runU tOk 2 kr ?_
  refine LAt.doneM 1042 0 kr ?_
  refine Tr.to ⟨12, 0, [sB 10 (decide ((IntKind.wrap .i64 (x1 - (x0.length : Int))) < 0)), sI 1 (IntKind.wrap .i64 (x1 - (x0.length : Int))), sI 4 0], []⟩ kr ?_
  cases h1 : (decide ((IntKind.wrap .i64 (x1 - (x0.length : Int))) < 0))
  · have H := bifF h1 H
    refine Tr.cond (b := false) kr (fun h => nomatch h) (fun _ => ?_)
    refine Tr.skip ?_
    show Tr _ _ _ _ _
    refine Tr.rs ?_
    refine LAt.runU tOk 2 kr ?_
    refine LAt.doneM 16 0 kr ?_
    refine Tr.ret ?_
    have H := Option.some.inj H
    subst H
    exact Fin.of _ [(false, [cI (IntKind.wrap .i64 (x1 - (x0.length : Int)))])] kr rfl rfl
  · have H := bifT h1 H
    refine Tr.cond (b := true) kr (fun _ => ?_) (fun h => nomatch h)
    refine Tr.rs ?_
    refine LAt.runU tOk 1 kr ?_
    refine LAt.doneM 18 0 kr ?_
    refine Tr.ret ?_
    have H := Option.some.inj H
    subst H
    exact Fin.of _ [(false, [cI (-1)])] kr rfl rfl

def laws_szSaySF (n : Nat) (x0 : (List Say)) (x1 : Int) : Option (Int) :=
  (bif (decide ((IntKind.wrap .i64 (x1 - (x0.length : Int))) < 0)) then (some (-1)) else (some (IntKind.wrap .i64 (x1 - (x0.length : Int)))))
/-- loop.example/g00326/laws.szSayS -/
theorem laws_szSayS (n : Nat) (x0 : (List Say)) (x1 : Int) (r : Int) (H : laws_szSaySF n x0 x1 = some r) : LCall Try.prog 64 [.val false [.sl false 7 (CV.frzEs (x0.map Say.row))], .val false [.lit (.int .i64 x1)]] [.val false [.lit (.int .i64 r)]] [] := by
  refine LCall.of_body tOk Try.func64 rfl (c := (.seq (.region 0 (rg Try.f64 0) false) (.seq (.region 1 (rg Try.f64 1) false) (.seq (.seq (.region 2 (rg Try.f64 2) false) (.cond (.tmp 10) (.seq (.region 3 (rg Try.f64 3) false) .ret) .skip)) (.seq (.region 4 (rg Try.f64 4) false) .ret))))) kr (Nat.le_of_ble_eq_true kr) 0 (rs := [.tmp 4]) rfl [] .nil [(false, [.lit (.int .i64 r)])] [] [] fun cx => ?_
  show Tr _ _ _ ⟨12, 0, [sC 0 (cF 7 x0 Say.row), sI 1 x1], []⟩ _
  unfold laws_szSaySF at H
  refine Tr.rs ?_
  refine LAt.runU tOk 1 kr ?_
  refine LAt.doneM 19 0 kr ?_
  refine Tr.rs ?_
  refine LAt.runU tOk 2 kr ?_
  refine LAt.lenE tOk (t := 24) (ty := 3) (e := 149) (x := (.tmp 6)) (d := 7) (g := none) ⟨(.slot 6), [], 0, false, 7, (CV.frzEs (x0.map Say.row))⟩ (x0).length _ kr kr kr kr kr (frz_len _ _) rfl ?_
  refine LAt.runU tOk 2 kr ?_
  refine LAt.doneM 18 0 kr ?_
  refine Tr.seq ?_
  refine Tr.rs ?_
  refine LAt.runU tOk 2 kr ?_
  refine LAt.doneM 1042 0 kr ?_
  refine Tr.to ⟨12, 0, [sB 10 (decide ((IntKind.wrap .i64 (x1 - (x0.length : Int))) < 0)), sI 1 (IntKind.wrap .i64 (x1 - (x0.length : Int))), sI 4 0], []⟩ kr ?_
  cases h1 : (decide ((IntKind.wrap .i64 (x1 - (x0.length : Int))) < 0))
  · have H := bifF h1 H
    refine Tr.cond (b := false) kr (fun h => nomatch h) (fun _ => ?_)
    refine Tr.skip ?_
    show Tr _ _ _ _ _
    refine Tr.rs ?_
    refine LAt.runU tOk 2 kr ?_
    refine LAt.doneM 16 0 kr ?_
    refine Tr.ret ?_
    have H := Option.some.inj H
    subst H
    exact Fin.of _ [(false, [cI (IntKind.wrap .i64 (x1 - (x0.length : Int)))])] kr rfl rfl
  · have H := bifT h1 H
    refine Tr.cond (b := true) kr (fun _ => ?_) (fun h => nomatch h)
    refine Tr.rs ?_
    refine LAt.runU tOk 1 kr ?_
    refine LAt.doneM 18 0 kr ?_
    refine Tr.ret ?_
    have H := Option.some.inj H
    subst H
    exact Fin.of _ [(false, [cI (-1)])] kr rfl rfl

def laws_szNetF (n : Nat) (x0 : Net) (x1 : Int) : Option (Int) :=
  ((laws_szBridgeSF n x0.Bridges x1).bind fun r1 => (bif (decide (r1 < 0)) then (some (-1)) else ((laws_szLinkSF n x0.Links r1).bind fun r2 => (bif (decide (r2 < 0)) then (some (-1)) else ((laws_szSaySF n x0.Said r2).bind fun r3 => (bif (decide (r3 < 0)) then (some (-1)) else (some r3)))))))
/-- loop.example/g00326/laws.szNet -/
theorem laws_szNet (n : Nat) (x0 : Net) (x1 : Int) (r : Int) (H : laws_szNetF n x0 x1 = some r) : LCall Try.prog 15 [.val true (CV.frzRow (Net.row x0)), .val false [.lit (.int .i64 x1)]] [.val false [.lit (.int .i64 r)]] [] := by
  refine LCall.of_body tOk Try.func15 rfl (c := (.seq (.region 0 (rg Try.f15 0) false) (.seq (.region 1 (rg Try.f15 1) false) (.seq (.seq (.region 2 (rg Try.f15 2) false) (.cond (.tmp 10) (.seq (.region 3 (rg Try.f15 3) false) .ret) .skip)) (.seq (.region 4 (rg Try.f15 4) false) (.seq (.seq (.region 5 (rg Try.f15 5) false) (.cond (.tmp 16) (.seq (.region 6 (rg Try.f15 6) false) .ret) .skip)) (.seq (.region 7 (rg Try.f15 7) false) (.seq (.seq (.region 8 (rg Try.f15 8) false) (.cond (.tmp 22) (.seq (.region 9 (rg Try.f15 9) false) .ret) .skip)) (.seq (.region 10 (rg Try.f15 10) false) .ret))))))))) kr (Nat.le_of_ble_eq_true kr) 0 (rs := [.tmp 4]) rfl [] .nil [(false, [.lit (.int .i64 r)])] [] [] fun cx => ?_
  show Tr _ _ _ ⟨24, 0, [sV 0 (CV.frzRow (Net.row x0)), sI 1 x1], []⟩ _
  unfold laws_szNetF at H
  refine Tr.rs ?_
  refine LAt.runU tOk 2 kr ?_
  refine LAt.doneM 22 4 kr ?_
  refine Tr.rs ?_
  refine LAt.runU tOk 3 kr ?_
  obtain ⟨r1, er1, H⟩ := bind_some H
  refine LAt.callU tOk [.rd, .rd] (f := 62) (av := #[.tmp 6, .tmp 7]) (ats := #[22, 3]) (d := (some 8)) (ty := 3) (g := none) kr kr kr [] (laws_szBridgeS n x0.Bridges x1 r1 er1) kr (.inl rfl) ?_
  refine LAt.runU tOk 1 kr ?_
  refine LAt.doneM 22 4 kr ?_
  refine Tr.seq ?_
  refine Tr.rs ?_
  refine LAt.runU tOk 2 kr ?_
  refine LAt.doneM 1046 4 kr ?_
  refine Tr.to ⟨24, 0, [sB 10 (decide (r1 < 0)), sI 1 r1, sI 4 0, sA 2 2 3 0], [(2, (CV.frzRow (Net.row x0)))]⟩ kr ?_
  cases h1 : (decide (r1 < 0))
  · have H := bifF h1 H
    refine Tr.cond (b := false) kr (fun h => nomatch h) (fun _ => ?_)
    refine Tr.skip ?_
    show Tr _ _ _ _ _
    refine Tr.rs ?_
    refine LAt.runU tOk 3 kr ?_
    obtain ⟨r2, er2, H⟩ := bind_some H
    refine LAt.callU tOk [.rd, .rd] (f := 63) (av := #[.tmp 12, .tmp 13]) (ats := #[23, 3]) (d := (some 14)) (ty := 3) (g := none) kr kr kr [] (laws_szLinkS n x0.Links r1 r2 er2) kr (.inl rfl) ?_
    refine LAt.runU tOk 1 kr ?_
    refine LAt.doneM 22 4 kr ?_
    refine Tr.seq ?_
    refine Tr.rs ?_
    refine LAt.runU tOk 2 kr ?_
    refine LAt.doneM 65558 4 kr ?_
    refine Tr.to ⟨24, 0, [sB 16 (decide (r2 < 0)), sI 1 r2, sI 4 0, sA 2 2 3 0], [(2, (CV.frzRow (Net.row x0)))]⟩ kr ?_
    cases h2 : (decide (r2 < 0))
    · have H := bifF h2 H
      refine Tr.cond (b := false) kr (fun h => nomatch h) (fun _ => ?_)
      refine Tr.skip ?_
      show Tr _ _ _ _ _
      refine Tr.rs ?_
      refine LAt.runU tOk 3 kr ?_
      obtain ⟨r3, er3, H⟩ := bind_some H
      refine LAt.callU tOk [.rd, .rd] (f := 64) (av := #[.tmp 18, .tmp 19]) (ats := #[24, 3]) (d := (some 20)) (ty := 3) (g := none) kr kr kr [] (laws_szSayS n x0.Said r2 r3 er3) kr (.inl rfl) ?_
      refine LAt.runU tOk 1 kr ?_
      refine LAt.doneM 18 0 kr ?_
      refine Tr.seq ?_
      refine Tr.rs ?_
      refine LAt.runU tOk 2 kr ?_
      refine LAt.doneM 4194322 0 kr ?_
      refine Tr.to ⟨24, 0, [sB 22 (decide (r3 < 0)), sI 1 r3, sI 4 0], []⟩ kr ?_
      cases h3 : (decide (r3 < 0))
      · have H := bifF h3 H
        refine Tr.cond (b := false) kr (fun h => nomatch h) (fun _ => ?_)
        refine Tr.skip ?_
        show Tr _ _ _ _ _
        refine Tr.rs ?_
        refine LAt.runU tOk 2 kr ?_
        refine LAt.doneM 16 0 kr ?_
        refine Tr.ret ?_
        have H := Option.some.inj H
        subst H
        exact Fin.of _ [(false, [cI r3])] kr rfl rfl
      · have H := bifT h3 H
        refine Tr.cond (b := true) kr (fun _ => ?_) (fun h => nomatch h)
        refine Tr.rs ?_
        refine LAt.runU tOk 1 kr ?_
        refine LAt.doneM 18 0 kr ?_
        refine Tr.ret ?_
        have H := Option.some.inj H
        subst H
        exact Fin.of _ [(false, [cI (-1)])] kr rfl rfl
    · have H := bifT h2 H
      refine Tr.cond (b := true) kr (fun _ => ?_) (fun h => nomatch h)
      refine Tr.rs ?_
      refine LAt.runU tOk 1 kr ?_
      refine LAt.doneM 22 4 kr ?_
      refine Tr.ret ?_
      have H := Option.some.inj H
      subst H
      exact Fin.of _ [(false, [cI (-1)])] kr rfl rfl
  · have H := bifT h1 H
    refine Tr.cond (b := true) kr (fun _ => ?_) (fun h => nomatch h)
    refine Tr.rs ?_
    refine LAt.runU tOk 1 kr ?_
    refine LAt.doneM 22 4 kr ?_
    refine Tr.ret ?_
    have H := Option.some.inj H
    subst H
    exact Fin.of _ [(false, [cI (-1)])] kr rfl rfl

def laws_toVecF (n : Nat) (x0 : Vec) : Option (Vec) :=
  (some x0)
/-- loop.example/g00326/laws.toVec -/
theorem laws_toVec (n : Nat) (x0 : Vec) (r : Vec) (H : laws_toVecF n x0 = some r) : LCall Try.prog 43 [.val true (CV.frzRow (Vec.row x0))] [.val true (Vec.row r)] [] := by
  refine LCall.of_body tOk Try.func43 rfl (c := (.seq (.region 0 (rg Try.f43 0) false) (.seq (.region 1 (rg Try.f43 1) false) (.seq (.region 2 (rg Try.f43 2) false) (.seq (.region 3 (rg Try.f43 3) false) (.seq (.region 4 (rg Try.f43 4) false) (.seq (.region 5 (rg Try.f43 5) false) (.seq (.region 6 (rg Try.f43 6) false) (.seq (.region 7 (rg Try.f43 7) false) .ret))))))))) kr (Nat.le_of_ble_eq_true kr) 0 (rs := [.cell 2 70]) rfl [] .nil [(true, (Vec.row r))] [] [] fun cx => ?_
  show Tr _ _ _ ⟨20, 0, [sV 0 (Vec.row x0)], []⟩ _
  unfold laws_toVecF at H
  refine Tr.rs ?_
  refine LAt.runU tOk 2 kr ?_
  refine LAt.doneM 6 6 kr ?_
  refine Tr.rs ?_
  refine LAt.runU tOk 1 kr ?_
  refine LAt.doneM 14 14 kr ?_
  refine Tr.rs ?_
  refine LAt.runU tOk 4 kr ?_
  refine LAt.doneM 14 14 kr ?_
  refine Tr.rs ?_
  refine LAt.runU tOk 4 kr ?_
  refine LAt.doneM 14 14 kr ?_
  refine Tr.rs ?_
  refine LAt.runU tOk 4 kr ?_
  refine LAt.doneM 14 14 kr ?_
  refine Tr.rs ?_
  refine LAt.runU tOk 4 kr ?_
  refine LAt.doneM 14 14 kr ?_
  refine Tr.rs ?_
  refine LAt.runU tOk 4 kr ?_
  refine LAt.doneM 12 12 kr ?_
  refine Tr.rs ?_
  refine LAt.runU tOk 2 kr ?_
  refine LAt.doneM 4 4 kr ?_
  refine Tr.ret ?_
  have H := Option.some.inj H
  subst H
  exact Fin.of _ [(true, (Vec.row x0))] kr rfl rfl

def laws_toPtF (n : Nat) (x0 : Pt) : Option (Pt) :=
  ((laws_toVecF n x0.Heard).bind fun r1 => (some (⟨x0.Up, x0.Cost, x0.Has, r1⟩ : Pt)))
/-- loop.example/g00326/laws.toPt -/
theorem laws_toPt (n : Nat) (x0 : Pt) (r : Pt) (H : laws_toPtF n x0 = some r) : LCall Try.prog 155 [.val true (CV.frzRow (Pt.row x0))] [.val true (Pt.row r)] [] := by
  refine LCall.of_body tOk Try.func155 rfl (c := (.seq (.region 0 (rg Try.f155 0) false) (.seq (.region 1 (rg Try.f155 1) false) (.seq (.region 2 (rg Try.f155 2) false) (.seq (.region 3 (rg Try.f155 3) false) (.seq (.region 4 (rg Try.f155 4) false) (.seq (.region 5 (rg Try.f155 5) false) (.seq (.region 6 (rg Try.f155 6) false) .ret)))))))) kr (Nat.le_of_ble_eq_true kr) 0 (rs := [.cell 2 114]) rfl [] .nil [(true, (Pt.row r))] [] [] fun cx => ?_
  show Tr _ _ _ ⟨18, 0, [sV 0 (Pt.row x0)], []⟩ _
  unfold laws_toPtF at H
  refine Tr.rs ?_
  refine LAt.runU tOk 2 kr ?_
  refine LAt.doneM 6 6 kr ?_
  refine Tr.rs ?_
  refine LAt.runU tOk 1 kr ?_
  refine LAt.doneM 14 14 kr ?_
  refine Tr.rs ?_
  refine LAt.runU tOk 4 kr ?_
  refine LAt.doneM 14 14 kr ?_
  refine Tr.rs ?_
  refine LAt.runU tOk 4 kr ?_
  refine LAt.doneM 14 14 kr ?_
  refine Tr.rs ?_
  refine LAt.runU tOk 4 kr ?_
  refine LAt.doneM 14 14 kr ?_
  refine Tr.rs ?_
  refine LAt.runU tOk 2 kr ?_
  obtain ⟨r1, er1, H⟩ := bind_some H
  refine LAt.callU tOk [.rd] (f := 43) (av := #[.tmp 14]) (ats := #[68]) (d := (some 15)) (ty := 70) (g := none) kr kr kr [] (laws_toVec n x0.Heard r1 er1) kr (.inl rfl) ?_
  refine LAt.runU tOk 2 kr ?_
  refine LAt.doneM 12 12 kr ?_
  refine Tr.rs ?_
  refine LAt.runU tOk 2 kr ?_
  refine LAt.doneM 4 4 kr ?_
  refine Tr.ret ?_
  have H := Option.some.inj H
  subst H
  exact Fin.of _ [(true, [cB x0.Up, cI x0.Cost, cB x0.Has, cI r1.Root, cI r1.Cost, cI r1.Hops, cI r1.Bridge, cI r1.Port])] kr rfl rfl

def laws_toPtS_J1 (n : Nat) (y4 : (List Pt)) : Option ((List Pt)) :=
  (some y4)
def laws_toPtS_L2 (n : Nat) : Nat → (List Pt) → Int → (List Pt) → Option (((List Pt)) ⊕ ((List Pt)))
  | 0, _, _, _ => none
  | mo5 + 1, x0, y2, y3 => (bif (decide (y2 < (x0.length : Int))) then ((idx x0 y2).bind fun v6 => ((laws_toPtF n v6).bind fun r7 => ((idx y3 y2).bind fun v8 => (laws_toPtS_L2 n mo5 x0 (IntKind.wrap .i64 (y2 + 1)) (y3.set (y2.toNat) r7))))) else (some (Sum.inl y3)))
def laws_toPtSF (n : Nat) (x0 : (List Pt)) : Option ((List Pt)) :=
  (bif (decide (0 ≤ (x0.length : Int)) && decide ((x0.length : Int) ≤ 268435456)) then ((laws_toPtS_L2 n n x0 0 (List.replicate ((x0.length : Int)).toNat (⟨false, 0, false, (⟨0, 0, 0, 0, 0⟩ : Vec)⟩ : Pt))).bind fun o => match o with | .inl y4 => (laws_toPtS_J1 n y4) | .inr r => some r) else none)
/-- loop.example/g00326/laws.toPtS -/
theorem laws_toPtS (n : Nat) (x0 : (List Pt)) (r : (List Pt)) (H : laws_toPtSF n x0 = some r) : LCall Try.prog 100 [.val false [.sl false 8 (CV.frzEs (x0.map Pt.row))]] [.val false [.sl true 8 (r.map Pt.row)]] [] := by
  refine LCall.of_body tOk Try.func100 rfl (c := (.seq (.region 0 (rg Try.f100 0) false) (.seq (.region 1 (rg Try.f100 1) false) (.seq (.seq (.region 2 (rg Try.f100 2) false) (.block 0 (.loop (.seq (.seq (.region 3 (rg Try.f100 3) false) (.cond (.tmp 11) .skip (.exit 0))) (.seq (.block 1 (.region 5 (rg Try.f100 5) false)) (.region 4 (rg Try.f100 4) false)))))) (.seq (.region 6 (rg Try.f100 6) false) .ret))))) kr (Nat.le_of_ble_eq_true kr) 0 (rs := [.tmp 2]) rfl [] .nil [(false, [.sl true 8 (r.map Pt.row)])] [] [] fun cx => ?_
  show Tr _ _ _ ⟨23, 0, [sC 0 (cF 8 x0 Pt.row)], []⟩ _
  unfold laws_toPtSF at H
  refine Tr.rs ?_
  refine LAt.runU tOk 1 kr ?_
  refine LAt.doneM 5 0 kr ?_
  refine Tr.rs ?_
  refine LAt.runU tOk 1 kr ?_
  refine LAt.lenE tOk (t := 47) (ty := 3) (e := 169) (x := (.tmp 5)) (d := 6) (g := none) ⟨(.slot 5), [], 0, false, 8, (CV.frzEs (x0.map Pt.row))⟩ (x0).length _ kr kr kr kr kr (frz_len _ _) rfl ?_
  obtain ⟨hg1, H⟩ := guard_some H
  refine LAt.makeG tOk (t := 55) (ty := 55) (e := 114) (x := (.tmp 6)) (d := 7) (g := none) ⟨.st [(0, 1, 4), (1, 1, 3), (2, 1, 4), (3, 5, 70)], 8, 64, [.lit (.bool false), .lit (.int .i64 0), .lit (.bool false), .lit (.int .i64 0), .lit (.int .i64 0), .lit (.int .i64 0), .lit (.int .i64 0), .lit (.int .i64 0)]⟩ (x0.length : Int) ((List.replicate ((x0.length : Int)).toNat (⟨false, 0, false, (⟨0, 0, 0, 0, 0⟩ : Vec)⟩ : Pt)).map Pt.row) _ kr kr kr kr kr kr hg1 kr (rep_map _ rfl) rfl ?_
  refine LAt.moveU (T := lk tab) (ty := 55) (x := (.tmp 7)) (d := 3) (g := none) false [cL 8 (List.replicate ((x0.length : Int)).toNat (⟨false, 0, false, (⟨0, 0, 0, 0, 0⟩ : Vec)⟩ : Pt)) Pt.row] kr kr kr kr kr ?_
  refine LAt.doneM 13 0 kr ?_
  refine Tr.seq ?_
  refine Tr.rs ?_
  refine LAt.runU tOk 1 kr ?_
  refine LAt.doneM 29 0 kr ?_
  obtain ⟨o5, eo5, Ho5⟩ := bind_some H
  clear H
  refine Tr.mid (ι := (List Pt)) (fun v => ⟨23, 0, [sC 3 (cL 8 v Pt.row), sC 2 (cL 8 ([] : List Pt) Pt.row)], []⟩) (fun v => laws_toPtS_J1 n v = some r) ?_ ?_
  · refine Tr.block ?_
    refine Tr.loop (ι := Nat × (Int × (List Pt))) (fun v => ⟨23, 0, [sI 4 v.2.1, sC 3 (cL 8 v.2.2 Pt.row), sC 2 (cL 8 ([] : List Pt) Pt.row), sC 0 (cF 8 x0 Pt.row)], []⟩) (fun v => laws_toPtS_L2 n v.1 x0 v.2.1 v.2.2 = some o5) (fun v => v.1) (n, (0, (List.replicate ((x0.length : Int)).toNat (⟨false, 0, false, (⟨0, 0, 0, 0, 0⟩ : Vec)⟩ : Pt)))) eo5 (St.sub_of [4, 3, 2, 0] [] kr) ?_
    rintro ⟨mo5, y2, y3⟩ H
    have H : laws_toPtS_L2 n mo5 x0 y2 y3 = some o5 := H
    obtain _ | mo5 := mo5
    · cases (show (none : Option _) = some o5 from H)
    · rw [laws_toPtS_L2] at H
      refine Tr.seq ?_
      refine Tr.rs ?_
      refine LAt.runU tOk 2 kr ?_
      refine LAt.lenE tOk (t := 47) (ty := 3) (e := 169) (x := (.tmp 9)) (d := 10) (g := none) ⟨(.slot 9), [], 0, false, 8, (CV.frzEs (x0.map Pt.row))⟩ (x0).length _ kr kr kr kr kr (frz_len _ _) rfl ?_
      refine LAt.runU tOk 1 kr ?_
      refine LAt.doneM 3869 0 kr ?_
      refine Tr.to ⟨23, 0, [sB 11 (decide (y2 < (x0.length : Int))), sI 10 (x0.length : Int), sC 9 (cF 8 x0 Pt.row), sI 8 y2, sI 4 y2, sC 3 (cL 8 y3 Pt.row), sC 2 (cL 8 ([] : List Pt) Pt.row), sC 0 (cF 8 x0 Pt.row)], []⟩ kr ?_
      cases h1 : (decide (y2 < (x0.length : Int)))
      · have H := bifF h1 H
        refine Tr.cond (b := false) kr (fun h => nomatch h) (fun _ => ?_)
        refine Tr.exit ?_
        refine And.intro (fun _ => ?_) (fun h => absurd rfl h)
        have H := Option.some.inj H
        subst H
        have H := Ho5
        dsimp only at H
        exact Exists.intro y3 (And.intro H (St.sub_of [3, 2] [] kr))
      · have H := bifT h1 H
        refine Tr.cond (b := true) kr (fun _ => ?_) (fun h => nomatch h)
        refine Tr.skip ?_
        show Tr _ _ _ _ _
        refine Tr.seq ?_
        refine Tr.block ?_
        refine Tr.at ?_
        refine LAt.runU tOk 4 kr ?_
        obtain ⟨v6, ev6, H⟩ := bind_some H
        refine LAt.indexF tOk (t := 47) (ty := 0) (x := (.tmp 16)) (y := (.tmp 17)) (d := 18) (g := none) ⟨(.slot 16), [], 0, false, 8, (CV.frzEs (x0.map Pt.row))⟩ y2 (Pt.row v6) _ kr kr kr kr rfl (idx_isF ev6) rfl ?_
        refine LAt.runU tOk 1 kr ?_
        obtain ⟨r7, er7, H⟩ := bind_some H
        refine LAt.callU tOk [.rd] (f := 155) (av := #[.tmp 19]) (ats := #[169]) (d := (some 20)) (ty := 114) (g := none) kr kr kr [] (laws_toPt n v6 r7 er7) kr (.inl rfl) ?_
        obtain ⟨v8, ev8, H⟩ := bind_some H
        refine LAt.indexO tOk (t := 55) (ty := 0) (x := (.tmp 14)) (y := (.tmp 15)) (d := 21) (g := none) ⟨(.slot 3), [], 0, true, 8, (y3.map Pt.row)⟩ y2 (y2.toNat) (Pt.row v8) _ kr kr kr kr rfl kr (idx_isE ev8) rfl rfl ?_
        refine LAt.storeK tOk (t := 114) (ty := 0) (ad := (.tmp 21)) (x := (.tmp 20)) (g := none) ⟨.st [(0, 1, 4), (1, 1, 3), (2, 1, 4), (3, 5, 70)], 8, 64, [.lit (.bool false), .lit (.int .i64 0), .lit (.bool false), .lit (.int .i64 0), .lit (.int .i64 0), .lit (.int .i64 0), .lit (.int .i64 0), .lit (.int .i64 0)]⟩ true (Pt.row r7) (.slot 3) [(0, (y2.toNat))] [(0, (y2.toNat))] 8 0 [cL 8 y3 Pt.row] (Pt.row v8) [cL 8 y3 Pt.row] [cL 8 (y3.set (y2.toNat) r7) Pt.row] kr kr kr kr kr kr (getQ_elem rfl (idx_get ev8).2) rfl (by intro h; cases h) kr kr kr (modQ_elem (new := r7) rfl (idx_get ev8).2 rfl) kr ?_
        refine LAt.doneM 4181789 0 kr ?_
        show Tr _ _ _ _ _
        refine Tr.at ?_
        refine LAt.runU tOk 3 kr ?_
        refine LAt.doneM 4194077 0 kr ?_
        exact Exists.intro (mo5, ((IntKind.wrap .i64 (y2 + 1)), (y3.set (y2.toNat) r7))) (And.intro H (And.intro (Nat.lt_succ_self mo5) (St.sub_of [4, 3, 2, 0] [] kr)))
  · rintro y4 H
    have H : (laws_toPtS_J1 n y4) = some r := H
    unfold laws_toPtS_J1 at H
    show Tr _ _ _ _ _
    refine Tr.rs ?_
    refine LAt.runU tOk 2 kr ?_
    refine LAt.doneM 12 0 kr ?_
    refine Tr.ret ?_
    have H := Option.some.inj H
    subst H
    exact Fin.of _ [(false, [cL 8 y4 Pt.row])] kr rfl rfl

def laws_toFentF (n : Nat) (x0 : Fent) : Option (Fent) :=
  (some x0)
/-- loop.example/g00326/laws.toFent -/
theorem laws_toFent (n : Nat) (x0 : Fent) (r : Fent) (H : laws_toFentF n x0 = some r) : LCall Try.prog 156 [.val true (CV.frzRow (Fent.row x0))] [.val true (Fent.row r)] [] := by
  refine LCall.of_body tOk Try.func156 rfl (c := (.seq (.region 0 (rg Try.f156 0) false) (.seq (.region 1 (rg Try.f156 1) false) (.seq (.region 2 (rg Try.f156 2) false) (.seq (.region 3 (rg Try.f156 3) false) (.seq (.region 4 (rg Try.f156 4) false) (.seq (.region 5 (rg Try.f156 5) false) (.seq (.region 6 (rg Try.f156 6) false) (.seq (.region 7 (rg Try.f156 7) false) .ret))))))))) kr (Nat.le_of_ble_eq_true kr) 0 (rs := [.cell 2 141]) rfl [] .nil [(true, (Fent.row r))] [] [] fun cx => ?_
  show Tr _ _ _ ⟨20, 0, [sV 0 (Fent.row x0)], []⟩ _
  unfold laws_toFentF at H
  refine Tr.rs ?_
  refine LAt.runU tOk 2 kr ?_
  refine LAt.doneM 6 6 kr ?_
  refine Tr.rs ?_
  refine LAt.runU tOk 1 kr ?_
  refine LAt.doneM 14 14 kr ?_
  refine Tr.rs ?_
  refine LAt.runU tOk 4 kr ?_
  refine LAt.doneM 14 14 kr ?_
  refine Tr.rs ?_
  refine LAt.runU tOk 4 kr ?_
  refine LAt.doneM 14 14 kr ?_
  refine Tr.rs ?_
  refine LAt.runU tOk 4 kr ?_
  refine LAt.doneM 14 14 kr ?_
  refine Tr.rs ?_
  refine LAt.runU tOk 4 kr ?_
  refine LAt.doneM 14 14 kr ?_
  refine Tr.rs ?_
  refine LAt.runU tOk 4 kr ?_
  refine LAt.doneM 12 12 kr ?_
  refine Tr.rs ?_
  refine LAt.runU tOk 2 kr ?_
  refine LAt.doneM 4 4 kr ?_
  refine Tr.ret ?_
  have H := Option.some.inj H
  subst H
  exact Fin.of _ [(true, (Fent.row x0))] kr rfl rfl

def laws_toFentS_J1 (n : Nat) (y4 : (List Fent)) : Option ((List Fent)) :=
  (some y4)
def laws_toFentS_L2 (n : Nat) : Nat → (List Fent) → Int → (List Fent) → Option (((List Fent)) ⊕ ((List Fent)))
  | 0, _, _, _ => none
  | mo5 + 1, x0, y2, y3 => (bif (decide (y2 < (x0.length : Int))) then ((idx x0 y2).bind fun v6 => ((laws_toFentF n v6).bind fun r7 => ((idx y3 y2).bind fun v8 => (laws_toFentS_L2 n mo5 x0 (IntKind.wrap .i64 (y2 + 1)) (y3.set (y2.toNat) r7))))) else (some (Sum.inl y3)))
def laws_toFentSF (n : Nat) (x0 : (List Fent)) : Option ((List Fent)) :=
  (bif (decide (0 ≤ (x0.length : Int)) && decide ((x0.length : Int) ≤ 268435456)) then ((laws_toFentS_L2 n n x0 0 (List.replicate ((x0.length : Int)).toNat (⟨0, 0, 0, 0, false⟩ : Fent))).bind fun o => match o with | .inl y4 => (laws_toFentS_J1 n y4) | .inr r => some r) else none)
/-- loop.example/g00326/laws.toFentS -/
theorem laws_toFentS (n : Nat) (x0 : (List Fent)) (r : (List Fent)) (H : laws_toFentSF n x0 = some r) : LCall Try.prog 101 [.val false [.sl false 5 (CV.frzEs (x0.map Fent.row))]] [.val false [.sl true 5 (r.map Fent.row)]] [] := by
  refine LCall.of_body tOk Try.func101 rfl (c := (.seq (.region 0 (rg Try.f101 0) false) (.seq (.region 1 (rg Try.f101 1) false) (.seq (.seq (.region 2 (rg Try.f101 2) false) (.block 0 (.loop (.seq (.seq (.region 3 (rg Try.f101 3) false) (.cond (.tmp 11) .skip (.exit 0))) (.seq (.block 1 (.region 5 (rg Try.f101 5) false)) (.region 4 (rg Try.f101 4) false)))))) (.seq (.region 6 (rg Try.f101 6) false) .ret))))) kr (Nat.le_of_ble_eq_true kr) 0 (rs := [.tmp 2]) rfl [] .nil [(false, [.sl true 5 (r.map Fent.row)])] [] [] fun cx => ?_
  show Tr _ _ _ ⟨23, 0, [sC 0 (cF 5 x0 Fent.row)], []⟩ _
  unfold laws_toFentSF at H
  refine Tr.rs ?_
  refine LAt.runU tOk 1 kr ?_
  refine LAt.doneM 5 0 kr ?_
  refine Tr.rs ?_
  refine LAt.runU tOk 1 kr ?_
  refine LAt.lenE tOk (t := 48) (ty := 3) (e := 171) (x := (.tmp 5)) (d := 6) (g := none) ⟨(.slot 5), [], 0, false, 5, (CV.frzEs (x0.map Fent.row))⟩ (x0).length _ kr kr kr kr kr (frz_len _ _) rfl ?_
  obtain ⟨hg1, H⟩ := guard_some H
  refine LAt.makeG tOk (t := 56) (ty := 56) (e := 141) (x := (.tmp 6)) (d := 7) (g := none) ⟨.st [(0, 1, 3), (1, 1, 3), (2, 1, 3), (3, 1, 3), (4, 1, 4)], 5, 40, [.lit (.int .i64 0), .lit (.int .i64 0), .lit (.int .i64 0), .lit (.int .i64 0), .lit (.bool false)]⟩ (x0.length : Int) ((List.replicate ((x0.length : Int)).toNat (⟨0, 0, 0, 0, false⟩ : Fent)).map Fent.row) _ kr kr kr kr kr kr hg1 kr (rep_map _ rfl) rfl ?_
  refine LAt.moveU (T := lk tab) (ty := 56) (x := (.tmp 7)) (d := 3) (g := none) false [cL 5 (List.replicate ((x0.length : Int)).toNat (⟨0, 0, 0, 0, false⟩ : Fent)) Fent.row] kr kr kr kr kr ?_
  refine LAt.doneM 13 0 kr ?_
  refine Tr.seq ?_
  refine Tr.rs ?_
  refine LAt.runU tOk 1 kr ?_
  refine LAt.doneM 29 0 kr ?_
  obtain ⟨o5, eo5, Ho5⟩ := bind_some H
  clear H
  refine Tr.mid (ι := (List Fent)) (fun v => ⟨23, 0, [sC 3 (cL 5 v Fent.row), sC 2 (cL 5 ([] : List Fent) Fent.row)], []⟩) (fun v => laws_toFentS_J1 n v = some r) ?_ ?_
  · refine Tr.block ?_
    refine Tr.loop (ι := Nat × (Int × (List Fent))) (fun v => ⟨23, 0, [sI 4 v.2.1, sC 3 (cL 5 v.2.2 Fent.row), sC 2 (cL 5 ([] : List Fent) Fent.row), sC 0 (cF 5 x0 Fent.row)], []⟩) (fun v => laws_toFentS_L2 n v.1 x0 v.2.1 v.2.2 = some o5) (fun v => v.1) (n, (0, (List.replicate ((x0.length : Int)).toNat (⟨0, 0, 0, 0, false⟩ : Fent)))) eo5 (St.sub_of [4, 3, 2, 0] [] kr) ?_
    rintro ⟨mo5, y2, y3⟩ H
    have H : laws_toFentS_L2 n mo5 x0 y2 y3 = some o5 := H
    obtain _ | mo5 := mo5
    · cases (show (none : Option _) = some o5 from H)
    · rw [laws_toFentS_L2] at H
      refine Tr.seq ?_
      refine Tr.rs ?_
      refine LAt.runU tOk 2 kr ?_
      refine LAt.lenE tOk (t := 48) (ty := 3) (e := 171) (x := (.tmp 9)) (d := 10) (g := none) ⟨(.slot 9), [], 0, false, 5, (CV.frzEs (x0.map Fent.row))⟩ (x0).length _ kr kr kr kr kr (frz_len _ _) rfl ?_
      refine LAt.runU tOk 1 kr ?_
      refine LAt.doneM 3869 0 kr ?_
      refine Tr.to ⟨23, 0, [sB 11 (decide (y2 < (x0.length : Int))), sI 10 (x0.length : Int), sC 9 (cF 5 x0 Fent.row), sI 8 y2, sI 4 y2, sC 3 (cL 5 y3 Fent.row), sC 2 (cL 5 ([] : List Fent) Fent.row), sC 0 (cF 5 x0 Fent.row)], []⟩ kr ?_
      cases h1 : (decide (y2 < (x0.length : Int)))
      · have H := bifF h1 H
        refine Tr.cond (b := false) kr (fun h => nomatch h) (fun _ => ?_)
        refine Tr.exit ?_
        refine And.intro (fun _ => ?_) (fun h => absurd rfl h)
        have H := Option.some.inj H
        subst H
        have H := Ho5
        dsimp only at H
        exact Exists.intro y3 (And.intro H (St.sub_of [3, 2] [] kr))
      · have H := bifT h1 H
        refine Tr.cond (b := true) kr (fun _ => ?_) (fun h => nomatch h)
        refine Tr.skip ?_
        show Tr _ _ _ _ _
        refine Tr.seq ?_
        refine Tr.block ?_
        refine Tr.at ?_
        refine LAt.runU tOk 4 kr ?_
        obtain ⟨v6, ev6, H⟩ := bind_some H
        refine LAt.indexF tOk (t := 48) (ty := 0) (x := (.tmp 16)) (y := (.tmp 17)) (d := 18) (g := none) ⟨(.slot 16), [], 0, false, 5, (CV.frzEs (x0.map Fent.row))⟩ y2 (Fent.row v6) _ kr kr kr kr rfl (idx_isF ev6) rfl ?_
        refine LAt.runU tOk 1 kr ?_
        obtain ⟨r7, er7, H⟩ := bind_some H
        refine LAt.callU tOk [.rd] (f := 156) (av := #[.tmp 19]) (ats := #[171]) (d := (some 20)) (ty := 141) (g := none) kr kr kr [] (laws_toFent n v6 r7 er7) kr (.inl rfl) ?_
        obtain ⟨v8, ev8, H⟩ := bind_some H
        refine LAt.indexO tOk (t := 56) (ty := 0) (x := (.tmp 14)) (y := (.tmp 15)) (d := 21) (g := none) ⟨(.slot 3), [], 0, true, 5, (y3.map Fent.row)⟩ y2 (y2.toNat) (Fent.row v8) _ kr kr kr kr rfl kr (idx_isE ev8) rfl rfl ?_
        refine LAt.storeK tOk (t := 141) (ty := 0) (ad := (.tmp 21)) (x := (.tmp 20)) (g := none) ⟨.st [(0, 1, 3), (1, 1, 3), (2, 1, 3), (3, 1, 3), (4, 1, 4)], 5, 40, [.lit (.int .i64 0), .lit (.int .i64 0), .lit (.int .i64 0), .lit (.int .i64 0), .lit (.bool false)]⟩ true (Fent.row r7) (.slot 3) [(0, (y2.toNat))] [(0, (y2.toNat))] 5 0 [cL 5 y3 Fent.row] (Fent.row v8) [cL 5 y3 Fent.row] [cL 5 (y3.set (y2.toNat) r7) Fent.row] kr kr kr kr kr kr (getQ_elem rfl (idx_get ev8).2) rfl (by intro h; cases h) kr kr kr (modQ_elem (new := r7) rfl (idx_get ev8).2 rfl) kr ?_
        refine LAt.doneM 4181789 0 kr ?_
        show Tr _ _ _ _ _
        refine Tr.at ?_
        refine LAt.runU tOk 3 kr ?_
        refine LAt.doneM 4194077 0 kr ?_
        exact Exists.intro (mo5, ((IntKind.wrap .i64 (y2 + 1)), (y3.set (y2.toNat) r7))) (And.intro H (And.intro (Nat.lt_succ_self mo5) (St.sub_of [4, 3, 2, 0] [] kr)))
  · rintro y4 H
    have H : (laws_toFentS_J1 n y4) = some r := H
    unfold laws_toFentS_J1 at H
    show Tr _ _ _ _ _
    refine Tr.rs ?_
    refine LAt.runU tOk 2 kr ?_
    refine LAt.doneM 12 0 kr ?_
    refine Tr.ret ?_
    have H := Option.some.inj H
    subst H
    exact Fin.of _ [(false, [cL 5 y4 Fent.row])] kr rfl rfl

def laws_toVrowF (n : Nat) (x0 : Vrow) : Option (Vrow) :=
  (some x0)
/-- loop.example/g00326/laws.toVrow -/
theorem laws_toVrow (n : Nat) (x0 : Vrow) (r : Vrow) (H : laws_toVrowF n x0 = some r) : LCall Try.prog 180 [.val true (CV.frzRow (Vrow.row x0))] [.val true (Vrow.row r)] [] := by
  refine LCall.of_body tOk Try.func180 rfl (c := (.seq (.region 0 (rg Try.f180 0) false) (.seq (.region 1 (rg Try.f180 1) false) (.seq (.region 2 (rg Try.f180 2) false) (.seq (.region 3 (rg Try.f180 3) false) (.seq (.region 4 (rg Try.f180 4) false) (.seq (.region 5 (rg Try.f180 5) false) .ret))))))) kr (Nat.le_of_ble_eq_true kr) 0 (rs := [.cell 2 138]) rfl [] .nil [(true, (Vrow.row r))] [] [] fun cx => ?_
  show Tr _ _ _ ⟨14, 0, [sV 0 (Vrow.row x0)], []⟩ _
  unfold laws_toVrowF at H
  refine Tr.rs ?_
  refine LAt.runU tOk 2 kr ?_
  refine LAt.doneM 6 6 kr ?_
  refine Tr.rs ?_
  refine LAt.runU tOk 1 kr ?_
  refine LAt.doneM 14 14 kr ?_
  refine Tr.rs ?_
  refine LAt.runU tOk 4 kr ?_
  refine LAt.doneM 14 14 kr ?_
  refine Tr.rs ?_
  refine LAt.runU tOk 4 kr ?_
  refine LAt.doneM 14 14 kr ?_
  refine Tr.rs ?_
  refine LAt.runU tOk 4 kr ?_
  refine LAt.doneM 12 12 kr ?_
  refine Tr.rs ?_
  refine LAt.runU tOk 2 kr ?_
  refine LAt.doneM 4 4 kr ?_
  refine Tr.ret ?_
  have H := Option.some.inj H
  subst H
  exact Fin.of _ [(true, (Vrow.row x0))] kr rfl rfl

def laws_toVrowS_J1 (n : Nat) (y4 : (List Vrow)) : Option ((List Vrow)) :=
  (some y4)
def laws_toVrowS_L2 (n : Nat) : Nat → (List Vrow) → Int → (List Vrow) → Option (((List Vrow)) ⊕ ((List Vrow)))
  | 0, _, _, _ => none
  | mo5 + 1, x0, y2, y3 => (bif (decide (y2 < (x0.length : Int))) then ((idx x0 y2).bind fun v6 => ((laws_toVrowF n v6).bind fun r7 => ((idx y3 y2).bind fun v8 => (laws_toVrowS_L2 n mo5 x0 (IntKind.wrap .i64 (y2 + 1)) (y3.set (y2.toNat) r7))))) else (some (Sum.inl y3)))
def laws_toVrowSF (n : Nat) (x0 : (List Vrow)) : Option ((List Vrow)) :=
  (bif (decide (0 ≤ (x0.length : Int)) && decide ((x0.length : Int) ≤ 268435456)) then ((laws_toVrowS_L2 n n x0 0 (List.replicate ((x0.length : Int)).toNat (⟨0, 0, 0⟩ : Vrow))).bind fun o => match o with | .inl y4 => (laws_toVrowS_J1 n y4) | .inr r => some r) else none)
/-- loop.example/g00326/laws.toVrowS -/
theorem laws_toVrowS (n : Nat) (x0 : (List Vrow)) (r : (List Vrow)) (H : laws_toVrowSF n x0 = some r) : LCall Try.prog 157 [.val false [.sl false 3 (CV.frzEs (x0.map Vrow.row))]] [.val false [.sl true 3 (r.map Vrow.row)]] [] := by
  refine LCall.of_body tOk Try.func157 rfl (c := (.seq (.region 0 (rg Try.f157 0) false) (.seq (.region 1 (rg Try.f157 1) false) (.seq (.seq (.region 2 (rg Try.f157 2) false) (.block 0 (.loop (.seq (.seq (.region 3 (rg Try.f157 3) false) (.cond (.tmp 11) .skip (.exit 0))) (.seq (.block 1 (.region 5 (rg Try.f157 5) false)) (.region 4 (rg Try.f157 4) false)))))) (.seq (.region 6 (rg Try.f157 6) false) .ret))))) kr (Nat.le_of_ble_eq_true kr) 0 (rs := [.tmp 2]) rfl [] .nil [(false, [.sl true 3 (r.map Vrow.row)])] [] [] fun cx => ?_
  show Tr _ _ _ ⟨23, 0, [sC 0 (cF 3 x0 Vrow.row)], []⟩ _
  unfold laws_toVrowSF at H
  refine Tr.rs ?_
  refine LAt.runU tOk 1 kr ?_
  refine LAt.doneM 5 0 kr ?_
  refine Tr.rs ?_
  refine LAt.runU tOk 1 kr ?_
  refine LAt.lenE tOk (t := 49) (ty := 3) (e := 187) (x := (.tmp 5)) (d := 6) (g := none) ⟨(.slot 5), [], 0, false, 3, (CV.frzEs (x0.map Vrow.row))⟩ (x0).length _ kr kr kr kr kr (frz_len _ _) rfl ?_
  obtain ⟨hg1, H⟩ := guard_some H
  refine LAt.makeG tOk (t := 57) (ty := 57) (e := 138) (x := (.tmp 6)) (d := 7) (g := none) ⟨.st [(0, 1, 3), (1, 1, 3), (2, 1, 3)], 3, 24, [.lit (.int .i64 0), .lit (.int .i64 0), .lit (.int .i64 0)]⟩ (x0.length : Int) ((List.replicate ((x0.length : Int)).toNat (⟨0, 0, 0⟩ : Vrow)).map Vrow.row) _ kr kr kr kr kr kr hg1 kr (rep_map _ rfl) rfl ?_
  refine LAt.moveU (T := lk tab) (ty := 57) (x := (.tmp 7)) (d := 3) (g := none) false [cL 3 (List.replicate ((x0.length : Int)).toNat (⟨0, 0, 0⟩ : Vrow)) Vrow.row] kr kr kr kr kr ?_
  refine LAt.doneM 13 0 kr ?_
  refine Tr.seq ?_
  refine Tr.rs ?_
  refine LAt.runU tOk 1 kr ?_
  refine LAt.doneM 29 0 kr ?_
  obtain ⟨o5, eo5, Ho5⟩ := bind_some H
  clear H
  refine Tr.mid (ι := (List Vrow)) (fun v => ⟨23, 0, [sC 3 (cL 3 v Vrow.row), sC 2 (cL 3 ([] : List Vrow) Vrow.row)], []⟩) (fun v => laws_toVrowS_J1 n v = some r) ?_ ?_
  · refine Tr.block ?_
    refine Tr.loop (ι := Nat × (Int × (List Vrow))) (fun v => ⟨23, 0, [sI 4 v.2.1, sC 3 (cL 3 v.2.2 Vrow.row), sC 2 (cL 3 ([] : List Vrow) Vrow.row), sC 0 (cF 3 x0 Vrow.row)], []⟩) (fun v => laws_toVrowS_L2 n v.1 x0 v.2.1 v.2.2 = some o5) (fun v => v.1) (n, (0, (List.replicate ((x0.length : Int)).toNat (⟨0, 0, 0⟩ : Vrow)))) eo5 (St.sub_of [4, 3, 2, 0] [] kr) ?_
    rintro ⟨mo5, y2, y3⟩ H
    have H : laws_toVrowS_L2 n mo5 x0 y2 y3 = some o5 := H
    obtain _ | mo5 := mo5
    · cases (show (none : Option _) = some o5 from H)
    · rw [laws_toVrowS_L2] at H
      refine Tr.seq ?_
      refine Tr.rs ?_
      refine LAt.runU tOk 2 kr ?_
      refine LAt.lenE tOk (t := 49) (ty := 3) (e := 187) (x := (.tmp 9)) (d := 10) (g := none) ⟨(.slot 9), [], 0, false, 3, (CV.frzEs (x0.map Vrow.row))⟩ (x0).length _ kr kr kr kr kr (frz_len _ _) rfl ?_
      refine LAt.runU tOk 1 kr ?_
      refine LAt.doneM 3869 0 kr ?_
      refine Tr.to ⟨23, 0, [sB 11 (decide (y2 < (x0.length : Int))), sI 10 (x0.length : Int), sC 9 (cF 3 x0 Vrow.row), sI 8 y2, sI 4 y2, sC 3 (cL 3 y3 Vrow.row), sC 2 (cL 3 ([] : List Vrow) Vrow.row), sC 0 (cF 3 x0 Vrow.row)], []⟩ kr ?_
      cases h1 : (decide (y2 < (x0.length : Int)))
      · have H := bifF h1 H
        refine Tr.cond (b := false) kr (fun h => nomatch h) (fun _ => ?_)
        refine Tr.exit ?_
        refine And.intro (fun _ => ?_) (fun h => absurd rfl h)
        have H := Option.some.inj H
        subst H
        have H := Ho5
        dsimp only at H
        exact Exists.intro y3 (And.intro H (St.sub_of [3, 2] [] kr))
      · have H := bifT h1 H
        refine Tr.cond (b := true) kr (fun _ => ?_) (fun h => nomatch h)
        refine Tr.skip ?_
        show Tr _ _ _ _ _
        refine Tr.seq ?_
        refine Tr.block ?_
        refine Tr.at ?_
        refine LAt.runU tOk 4 kr ?_
        obtain ⟨v6, ev6, H⟩ := bind_some H
        refine LAt.indexF tOk (t := 49) (ty := 0) (x := (.tmp 16)) (y := (.tmp 17)) (d := 18) (g := none) ⟨(.slot 16), [], 0, false, 3, (CV.frzEs (x0.map Vrow.row))⟩ y2 (Vrow.row v6) _ kr kr kr kr rfl (idx_isF ev6) rfl ?_
        refine LAt.runU tOk 1 kr ?_
        obtain ⟨r7, er7, H⟩ := bind_some H
        refine LAt.callU tOk [.rd] (f := 180) (av := #[.tmp 19]) (ats := #[187]) (d := (some 20)) (ty := 138) (g := none) kr kr kr [] (laws_toVrow n v6 r7 er7) kr (.inl rfl) ?_
        obtain ⟨v8, ev8, H⟩ := bind_some H
        refine LAt.indexO tOk (t := 57) (ty := 0) (x := (.tmp 14)) (y := (.tmp 15)) (d := 21) (g := none) ⟨(.slot 3), [], 0, true, 3, (y3.map Vrow.row)⟩ y2 (y2.toNat) (Vrow.row v8) _ kr kr kr kr rfl kr (idx_isE ev8) rfl rfl ?_
        refine LAt.storeK tOk (t := 138) (ty := 0) (ad := (.tmp 21)) (x := (.tmp 20)) (g := none) ⟨.st [(0, 1, 3), (1, 1, 3), (2, 1, 3)], 3, 24, [.lit (.int .i64 0), .lit (.int .i64 0), .lit (.int .i64 0)]⟩ true (Vrow.row r7) (.slot 3) [(0, (y2.toNat))] [(0, (y2.toNat))] 3 0 [cL 3 y3 Vrow.row] (Vrow.row v8) [cL 3 y3 Vrow.row] [cL 3 (y3.set (y2.toNat) r7) Vrow.row] kr kr kr kr kr kr (getQ_elem rfl (idx_get ev8).2) rfl (by intro h; cases h) kr kr kr (modQ_elem (new := r7) rfl (idx_get ev8).2 rfl) kr ?_
        refine LAt.doneM 4181789 0 kr ?_
        show Tr _ _ _ _ _
        refine Tr.at ?_
        refine LAt.runU tOk 3 kr ?_
        refine LAt.doneM 4194077 0 kr ?_
        exact Exists.intro (mo5, ((IntKind.wrap .i64 (y2 + 1)), (y3.set (y2.toNat) r7))) (And.intro H (And.intro (Nat.lt_succ_self mo5) (St.sub_of [4, 3, 2, 0] [] kr)))
  · rintro y4 H
    have H : (laws_toVrowS_J1 n y4) = some r := H
    unfold laws_toVrowS_J1 at H
    show Tr _ _ _ _ _
    refine Tr.rs ?_
    refine LAt.runU tOk 2 kr ?_
    refine LAt.doneM 12 0 kr ?_
    refine Tr.ret ?_
    have H := Option.some.inj H
    subst H
    exact Fin.of _ [(false, [cL 3 y4 Vrow.row])] kr rfl rfl

def laws_toIntS_J1 (n : Nat) (y4 : (List Int)) : Option ((List Int)) :=
  (some y4)
def laws_toIntS_L2 (n : Nat) : Nat → (List Int) → Int → (List Int) → Option (((List Int)) ⊕ ((List Int)))
  | 0, _, _, _ => none
  | mo5 + 1, x0, y2, y3 => (bif (decide (y2 < (x0.length : Int))) then ((idx x0 y2).bind fun v6 => ((idx y3 y2).bind fun v7 => (laws_toIntS_L2 n mo5 x0 (IntKind.wrap .i64 (y2 + 1)) (y3.set (y2.toNat) v6)))) else (some (Sum.inl y3)))
def laws_toIntSF (n : Nat) (x0 : (List Int)) : Option ((List Int)) :=
  (bif (decide (0 ≤ (x0.length : Int)) && decide ((x0.length : Int) ≤ 268435456)) then ((laws_toIntS_L2 n n x0 0 (List.replicate ((x0.length : Int)).toNat 0)).bind fun o => match o with | .inl y4 => (laws_toIntS_J1 n y4) | .inr r => some r) else none)
/-- loop.example/g00326/laws.toIntS -/
theorem laws_toIntS (n : Nat) (x0 : (List Int)) (r : (List Int)) (H : laws_toIntSF n x0 = some r) : LCall Try.prog 18 [.val false [.sl false 1 (CV.frzEs (x0.map intRow))]] [.val false [.sl true 1 (r.map intRow)]] [] := by
  refine LCall.of_body tOk Try.func18 rfl (c := (.seq (.region 0 (rg Try.f18 0) false) (.seq (.region 1 (rg Try.f18 1) false) (.seq (.seq (.region 2 (rg Try.f18 2) false) (.block 0 (.loop (.seq (.seq (.region 3 (rg Try.f18 3) false) (.cond (.tmp 11) .skip (.exit 0))) (.seq (.block 1 (.region 5 (rg Try.f18 5) false)) (.region 4 (rg Try.f18 4) false)))))) (.seq (.region 6 (rg Try.f18 6) false) .ret))))) kr (Nat.le_of_ble_eq_true kr) 0 (rs := [.tmp 2]) rfl [] .nil [(false, [.sl true 1 (r.map intRow)])] [] [] fun cx => ?_
  show Tr _ _ _ ⟨22, 0, [sC 0 (cF 1 x0 intRow)], []⟩ _
  unfold laws_toIntSF at H
  refine Tr.rs ?_
  refine LAt.runU tOk 1 kr ?_
  refine LAt.doneM 5 0 kr ?_
  refine Tr.rs ?_
  refine LAt.runU tOk 1 kr ?_
  refine LAt.lenE tOk (t := 27) (ty := 3) (e := 3) (x := (.tmp 5)) (d := 6) (g := none) ⟨(.slot 5), [], 0, false, 1, (CV.frzEs (x0.map intRow))⟩ (x0).length _ kr kr kr kr kr (frz_len _ _) rfl ?_
  obtain ⟨hg1, H⟩ := guard_some H
  refine LAt.makeG tOk (t := 27) (ty := 27) (e := 3) (x := (.tmp 6)) (d := 7) (g := none) ⟨.int .i64, 1, 8, [.lit (.int .i64 0)]⟩ (x0.length : Int) ((List.replicate ((x0.length : Int)).toNat 0).map intRow) _ kr kr kr kr kr kr hg1 kr (rep_map _ rfl) rfl ?_
  refine LAt.moveU (T := lk tab) (ty := 27) (x := (.tmp 7)) (d := 3) (g := none) false [cL 1 (List.replicate ((x0.length : Int)).toNat 0) intRow] kr kr kr kr kr ?_
  refine LAt.doneM 13 0 kr ?_
  refine Tr.seq ?_
  refine Tr.rs ?_
  refine LAt.runU tOk 1 kr ?_
  refine LAt.doneM 29 0 kr ?_
  obtain ⟨o5, eo5, Ho5⟩ := bind_some H
  clear H
  refine Tr.mid (ι := (List Int)) (fun v => ⟨22, 0, [sC 3 (cL 1 v intRow), sC 2 (cL 1 ([] : List Int) intRow)], []⟩) (fun v => laws_toIntS_J1 n v = some r) ?_ ?_
  · refine Tr.block ?_
    refine Tr.loop (ι := Nat × (Int × (List Int))) (fun v => ⟨22, 0, [sI 4 v.2.1, sC 3 (cL 1 v.2.2 intRow), sC 2 (cL 1 ([] : List Int) intRow), sC 0 (cF 1 x0 intRow)], []⟩) (fun v => laws_toIntS_L2 n v.1 x0 v.2.1 v.2.2 = some o5) (fun v => v.1) (n, (0, (List.replicate ((x0.length : Int)).toNat 0))) eo5 (St.sub_of [4, 3, 2, 0] [] kr) ?_
    rintro ⟨mo5, y2, y3⟩ H
    have H : laws_toIntS_L2 n mo5 x0 y2 y3 = some o5 := H
    obtain _ | mo5 := mo5
    · cases (show (none : Option _) = some o5 from H)
    · rw [laws_toIntS_L2] at H
      refine Tr.seq ?_
      refine Tr.rs ?_
      refine LAt.runU tOk 2 kr ?_
      refine LAt.lenE tOk (t := 27) (ty := 3) (e := 3) (x := (.tmp 9)) (d := 10) (g := none) ⟨(.slot 9), [], 0, false, 1, (CV.frzEs (x0.map intRow))⟩ (x0).length _ kr kr kr kr kr (frz_len _ _) rfl ?_
      refine LAt.runU tOk 1 kr ?_
      refine LAt.doneM 3869 0 kr ?_
      refine Tr.to ⟨22, 0, [sB 11 (decide (y2 < (x0.length : Int))), sI 10 (x0.length : Int), sC 9 (cF 1 x0 intRow), sI 8 y2, sI 4 y2, sC 3 (cL 1 y3 intRow), sC 2 (cL 1 ([] : List Int) intRow), sC 0 (cF 1 x0 intRow)], []⟩ kr ?_
      cases h1 : (decide (y2 < (x0.length : Int)))
      · have H := bifF h1 H
        refine Tr.cond (b := false) kr (fun h => nomatch h) (fun _ => ?_)
        refine Tr.exit ?_
        refine And.intro (fun _ => ?_) (fun h => absurd rfl h)
        have H := Option.some.inj H
        subst H
        have H := Ho5
        dsimp only at H
        exact Exists.intro y3 (And.intro H (St.sub_of [3, 2] [] kr))
      · have H := bifT h1 H
        refine Tr.cond (b := true) kr (fun _ => ?_) (fun h => nomatch h)
        refine Tr.skip ?_
        show Tr _ _ _ _ _
        refine Tr.seq ?_
        refine Tr.block ?_
        refine Tr.at ?_
        refine LAt.runU tOk 4 kr ?_
        obtain ⟨v6, ev6, H⟩ := bind_some H
        refine LAt.indexF tOk (t := 27) (ty := 0) (x := (.tmp 16)) (y := (.tmp 17)) (d := 18) (g := none) ⟨(.slot 16), [], 0, false, 1, (CV.frzEs (x0.map intRow))⟩ y2 [cI v6] _ kr kr kr kr rfl (idx_isF ev6) rfl ?_
        refine LAt.runU tOk 1 kr ?_
        obtain ⟨v7, ev7, H⟩ := bind_some H
        refine LAt.indexO tOk (t := 27) (ty := 0) (x := (.tmp 14)) (y := (.tmp 15)) (d := 20) (g := none) ⟨(.slot 3), [], 0, true, 1, (y3.map intRow)⟩ y2 (y2.toNat) (intRow v7) _ kr kr kr kr rfl kr (idx_isE ev7) rfl rfl ?_
        refine LAt.storeK tOk (t := 3) (ty := 0) (ad := (.tmp 20)) (x := (.tmp 19)) (g := none) ⟨.int .i64, 1, 8, [.lit (.int .i64 0)]⟩ false [cI v6] (.slot 3) [(0, (y2.toNat))] [(0, (y2.toNat))] 1 0 [cL 1 y3 intRow] (intRow v7) [cL 1 y3 intRow] [cL 1 (y3.set (y2.toNat) v6) intRow] kr kr kr kr kr kr (getQ_elem rfl (idx_get ev7).2) rfl (by intro h; cases h) kr kr kr (modQ_elem (new := v6) rfl (idx_get ev7).2 rfl) kr ?_
        refine LAt.doneM 2084637 0 kr ?_
        show Tr _ _ _ _ _
        refine Tr.at ?_
        refine LAt.runU tOk 3 kr ?_
        refine LAt.doneM 2096925 0 kr ?_
        exact Exists.intro (mo5, ((IntKind.wrap .i64 (y2 + 1)), (y3.set (y2.toNat) v6))) (And.intro H (And.intro (Nat.lt_succ_self mo5) (St.sub_of [4, 3, 2, 0] [] kr)))
  · rintro y4 H
    have H : (laws_toIntS_J1 n y4) = some r := H
    unfold laws_toIntS_J1 at H
    show Tr _ _ _ _ _
    refine Tr.rs ?_
    refine LAt.runU tOk 2 kr ?_
    refine LAt.doneM 12 0 kr ?_
    refine Tr.ret ?_
    have H := Option.some.inj H
    subst H
    exact Fin.of _ [(false, [cL 1 y4 intRow])] kr rfl rfl

def laws_toVtabF (n : Nat) (x0 : Vtab) : Option (Vtab) :=
  ((laws_toVrowSF n x0.Rows).bind fun r1 => ((laws_toIntSF n x0.Pvid).bind fun r2 => (some (⟨r1, r2⟩ : Vtab))))
/-- loop.example/g00326/laws.toVtab -/
theorem laws_toVtab (n : Nat) (x0 : Vtab) (r : Vtab) (H : laws_toVtabF n x0 = some r) : LCall Try.prog 102 [.val true (CV.frzRow (Vtab.row x0))] [.val true (Vtab.row r)] [] := by
  refine LCall.of_body tOk Try.func102 rfl (c := (.seq (.region 0 (rg Try.f102 0) false) (.seq (.region 1 (rg Try.f102 1) false) (.seq (.region 2 (rg Try.f102 2) false) (.seq (.region 3 (rg Try.f102 3) false) (.seq (.region 4 (rg Try.f102 4) false) .ret)))))) kr (Nat.le_of_ble_eq_true kr) 0 (rs := [.cell 2 59]) rfl [] .nil [(true, (Vtab.row r))] [] [] fun cx => ?_
  show Tr _ _ _ ⟨13, 0, [sV 0 (CV.frzRow (Vtab.row x0))], []⟩ _
  unfold laws_toVtabF at H
  refine Tr.rs ?_
  refine LAt.runU tOk 2 kr ?_
  refine LAt.doneM 6 6 kr ?_
  refine Tr.rs ?_
  refine LAt.runU tOk 1 kr ?_
  refine LAt.doneM 14 14 kr ?_
  refine Tr.rs ?_
  refine LAt.runU tOk 2 kr ?_
  obtain ⟨r1, er1, H⟩ := bind_some H
  refine LAt.callU tOk [.rd] (f := 157) (av := #[.tmp 5]) (ats := #[49]) (d := (some 6)) (ty := 57) (g := none) kr kr kr [] (laws_toVrowS n x0.Rows r1 er1) kr (.inl rfl) ?_
  refine LAt.runU tOk 2 kr ?_
  refine LAt.doneM 14 14 kr ?_
  refine Tr.rs ?_
  refine LAt.runU tOk 2 kr ?_
  obtain ⟨r2, er2, H⟩ := bind_some H
  refine LAt.callU tOk [.rd] (f := 18) (av := #[.tmp 9]) (ats := #[27]) (d := (some 10)) (ty := 27) (g := none) kr kr kr [] (laws_toIntS n x0.Pvid r2 er2) kr (.inl rfl) ?_
  refine LAt.runU tOk 2 kr ?_
  refine LAt.doneM 12 12 kr ?_
  refine Tr.rs ?_
  refine LAt.runU tOk 2 kr ?_
  refine LAt.doneM 4 4 kr ?_
  refine Tr.ret ?_
  have H := Option.some.inj H
  subst H
  exact Fin.of _ [(true, [cL 3 r1 Vrow.row, cL 1 r2 intRow])] kr rfl rfl

def laws_toBridgeF (n : Nat) (x0 : Bridge) : Option (Bridge) :=
  ((laws_toPtSF n x0.Ports).bind fun r1 => ((laws_toFentSF n x0.F).bind fun r2 => ((laws_toVtabF n x0.V).bind fun r3 => (some (⟨x0.Id, x0.Name, r1, r2, r3, x0.Ticks, x0.Parse, x0.Word, x0.Drops, x0.Vers⟩ : Bridge)))))
/-- loop.example/g00326/laws.toBridge -/
theorem laws_toBridge (n : Nat) (x0 : Bridge) (r : Bridge) (H : laws_toBridgeF n x0 = some r) : LCall Try.prog 37 [.val true (CV.frzRow (Bridge.row x0))] [.val true (Bridge.row r)] [] := by
  refine LCall.of_body tOk Try.func37 rfl (c := (.seq (.region 0 (rg Try.f37 0) false) (.seq (.region 1 (rg Try.f37 1) false) (.seq (.region 2 (rg Try.f37 2) false) (.seq (.region 3 (rg Try.f37 3) false) (.seq (.region 4 (rg Try.f37 4) false) (.seq (.region 5 (rg Try.f37 5) false) (.seq (.region 6 (rg Try.f37 6) false) (.seq (.region 7 (rg Try.f37 7) false) (.seq (.region 8 (rg Try.f37 8) false) (.seq (.region 9 (rg Try.f37 9) false) (.seq (.region 10 (rg Try.f37 10) false) (.seq (.region 11 (rg Try.f37 11) false) (.seq (.region 12 (rg Try.f37 12) false) .ret)))))))))))))) kr (Nat.le_of_ble_eq_true kr) 0 (rs := [.cell 2 61]) rfl [] .nil [(true, (Bridge.row r))] [] [] fun cx => ?_
  show Tr _ _ _ ⟨38, 0, [sV 0 (CV.frzRow (Bridge.row x0))], []⟩ _
  unfold laws_toBridgeF at H
  refine Tr.rs ?_
  refine LAt.runU tOk 2 kr ?_
  refine LAt.doneM 6 6 kr ?_
  refine Tr.rs ?_
  refine LAt.runU tOk 1 kr ?_
  refine LAt.doneM 14 14 kr ?_
  refine Tr.rs ?_
  refine LAt.runU tOk 4 kr ?_
  refine LAt.doneM 14 14 kr ?_
  refine Tr.rs ?_
  refine LAt.runU tOk 4 kr ?_
  refine LAt.doneM 14 14 kr ?_
  refine Tr.rs ?_
  refine LAt.runU tOk 2 kr ?_
  obtain ⟨r1, er1, H⟩ := bind_some H
  refine LAt.callU tOk [.rd] (f := 100) (av := #[.tmp 11]) (ats := #[47]) (d := (some 12)) (ty := 55) (g := none) kr kr kr [] (laws_toPtS n x0.Ports r1 er1) kr (.inl rfl) ?_
  refine LAt.runU tOk 2 kr ?_
  refine LAt.doneM 14 14 kr ?_
  refine Tr.rs ?_
  refine LAt.runU tOk 2 kr ?_
  obtain ⟨r2, er2, H⟩ := bind_some H
  refine LAt.callU tOk [.rd] (f := 101) (av := #[.tmp 15]) (ats := #[48]) (d := (some 16)) (ty := 56) (g := none) kr kr kr [] (laws_toFentS n x0.F r2 er2) kr (.inl rfl) ?_
  refine LAt.runU tOk 2 kr ?_
  refine LAt.doneM 14 14 kr ?_
  refine Tr.rs ?_
  refine LAt.runU tOk 2 kr ?_
  obtain ⟨r3, er3, H⟩ := bind_some H
  refine LAt.callU tOk [.rd] (f := 102) (av := #[.tmp 19]) (ats := #[51]) (d := (some 20)) (ty := 59) (g := none) kr kr kr [] (laws_toVtab n x0.V r3 er3) kr (.inl rfl) ?_
  refine LAt.runU tOk 2 kr ?_
  refine LAt.doneM 14 14 kr ?_
  refine Tr.rs ?_
  refine LAt.runU tOk 4 kr ?_
  refine LAt.doneM 14 14 kr ?_
  refine Tr.rs ?_
  refine LAt.runU tOk 4 kr ?_
  refine LAt.doneM 14 14 kr ?_
  refine Tr.rs ?_
  refine LAt.runU tOk 4 kr ?_
  refine LAt.doneM 14 14 kr ?_
  refine Tr.rs ?_
  refine LAt.runU tOk 4 kr ?_
  refine LAt.doneM 14 14 kr ?_
  refine Tr.rs ?_
  refine LAt.runU tOk 4 kr ?_
  refine LAt.doneM 12 12 kr ?_
  refine Tr.rs ?_
  refine LAt.runU tOk 2 kr ?_
  refine LAt.doneM 4 4 kr ?_
  refine Tr.ret ?_
  have H := Option.some.inj H
  subst H
  exact Fin.of _ [(true, [cI x0.Id, cS x0.Name, cL 8 r1 Pt.row, cL 5 r2 Fent.row, cL 3 r3.Rows Vrow.row, cL 1 r3.Pvid intRow, cI x0.Ticks, cI x0.Parse, cI x0.Word, cI x0.Drops, cI x0.Vers])] kr rfl rfl

def laws_toBridgeS_J1 (n : Nat) (y4 : (List Bridge)) : Option ((List Bridge)) :=
  (some y4)
def laws_toBridgeS_L2 (n : Nat) : Nat → (List Bridge) → Int → (List Bridge) → Option (((List Bridge)) ⊕ ((List Bridge)))
  | 0, _, _, _ => none
  | mo5 + 1, x0, y2, y3 => (bif (decide (y2 < (x0.length : Int))) then ((idx x0 y2).bind fun v6 => ((laws_toBridgeF n v6).bind fun r7 => ((idx y3 y2).bind fun v8 => (laws_toBridgeS_L2 n mo5 x0 (IntKind.wrap .i64 (y2 + 1)) (y3.set (y2.toNat) r7))))) else (some (Sum.inl y3)))
def laws_toBridgeSF (n : Nat) (x0 : (List Bridge)) : Option ((List Bridge)) :=
  (bif (decide (0 ≤ (x0.length : Int)) && decide ((x0.length : Int) ≤ 268435456)) then ((laws_toBridgeS_L2 n n x0 0 (List.replicate ((x0.length : Int)).toNat (⟨0, (⟨#[]⟩ : ByteArray), ([] : List Pt), ([] : List Fent), (⟨([] : List Vrow), ([] : List Int)⟩ : Vtab), 0, 0, 0, 0, 0⟩ : Bridge))).bind fun o => match o with | .inl y4 => (laws_toBridgeS_J1 n y4) | .inr r => some r) else none)
/-- loop.example/g00326/laws.toBridgeS -/
theorem laws_toBridgeS (n : Nat) (x0 : (List Bridge)) (r : (List Bridge)) (H : laws_toBridgeSF n x0 = some r) : LCall Try.prog 67 [.val false [.sl false 11 (CV.frzEs (x0.map Bridge.row))]] [.val false [.sl true 11 (r.map Bridge.row)]] [] := by
  refine LCall.of_body tOk Try.func67 rfl (c := (.seq (.region 0 (rg Try.f67 0) false) (.seq (.region 1 (rg Try.f67 1) false) (.seq (.seq (.region 2 (rg Try.f67 2) false) (.block 0 (.loop (.seq (.seq (.region 3 (rg Try.f67 3) false) (.cond (.tmp 11) .skip (.exit 0))) (.seq (.block 1 (.region 5 (rg Try.f67 5) false)) (.region 4 (rg Try.f67 4) false)))))) (.seq (.region 6 (rg Try.f67 6) false) .ret))))) kr (Nat.le_of_ble_eq_true kr) 0 (rs := [.tmp 2]) rfl [] .nil [(false, [.sl true 11 (r.map Bridge.row)])] [] [] fun cx => ?_
  show Tr _ _ _ ⟨23, 0, [sC 0 (cF 11 x0 Bridge.row)], []⟩ _
  unfold laws_toBridgeSF at H
  refine Tr.rs ?_
  refine LAt.runU tOk 1 kr ?_
  refine LAt.doneM 5 0 kr ?_
  refine Tr.rs ?_
  refine LAt.runU tOk 1 kr ?_
  refine LAt.lenE tOk (t := 22) (ty := 3) (e := 53) (x := (.tmp 5)) (d := 6) (g := none) ⟨(.slot 5), [], 0, false, 11, (CV.frzEs (x0.map Bridge.row))⟩ (x0).length _ kr kr kr kr kr (frz_len _ _) rfl ?_
  obtain ⟨hg1, H⟩ := guard_some H
  refine LAt.makeG tOk (t := 30) (ty := 30) (e := 61) (x := (.tmp 6)) (d := 7) (g := none) ⟨.st [(0, 1, 3), (1, 1, 9), (2, 1, 55), (3, 1, 56), (4, 2, 59), (6, 1, 3), (7, 1, 3), (8, 1, 3), (9, 1, 3), (10, 1, 3)], 11, 160, [.lit (.int .i64 0), .lit (.string ⟨#[]⟩), .sl true 8 [], .sl true 5 [], .sl true 3 [], .sl true 1 [], .lit (.int .i64 0), .lit (.int .i64 0), .lit (.int .i64 0), .lit (.int .i64 0), .lit (.int .i64 0)]⟩ (x0.length : Int) ((List.replicate ((x0.length : Int)).toNat (⟨0, (⟨#[]⟩ : ByteArray), ([] : List Pt), ([] : List Fent), (⟨([] : List Vrow), ([] : List Int)⟩ : Vtab), 0, 0, 0, 0, 0⟩ : Bridge)).map Bridge.row) _ kr kr kr kr kr kr hg1 kr (rep_map _ rfl) rfl ?_
  refine LAt.moveU (T := lk tab) (ty := 30) (x := (.tmp 7)) (d := 3) (g := none) false [cL 11 (List.replicate ((x0.length : Int)).toNat (⟨0, (⟨#[]⟩ : ByteArray), ([] : List Pt), ([] : List Fent), (⟨([] : List Vrow), ([] : List Int)⟩ : Vtab), 0, 0, 0, 0, 0⟩ : Bridge)) Bridge.row] kr kr kr kr kr ?_
  refine LAt.doneM 13 0 kr ?_
  refine Tr.seq ?_
  refine Tr.rs ?_
  refine LAt.runU tOk 1 kr ?_
  refine LAt.doneM 29 0 kr ?_
  obtain ⟨o5, eo5, Ho5⟩ := bind_some H
  clear H
  refine Tr.mid (ι := (List Bridge)) (fun v => ⟨23, 0, [sC 3 (cL 11 v Bridge.row), sC 2 (cL 11 ([] : List Bridge) Bridge.row)], []⟩) (fun v => laws_toBridgeS_J1 n v = some r) ?_ ?_
  · refine Tr.block ?_
    refine Tr.loop (ι := Nat × (Int × (List Bridge))) (fun v => ⟨23, 0, [sI 4 v.2.1, sC 3 (cL 11 v.2.2 Bridge.row), sC 2 (cL 11 ([] : List Bridge) Bridge.row), sC 0 (cF 11 x0 Bridge.row)], []⟩) (fun v => laws_toBridgeS_L2 n v.1 x0 v.2.1 v.2.2 = some o5) (fun v => v.1) (n, (0, (List.replicate ((x0.length : Int)).toNat (⟨0, (⟨#[]⟩ : ByteArray), ([] : List Pt), ([] : List Fent), (⟨([] : List Vrow), ([] : List Int)⟩ : Vtab), 0, 0, 0, 0, 0⟩ : Bridge)))) eo5 (St.sub_of [4, 3, 2, 0] [] kr) ?_
    rintro ⟨mo5, y2, y3⟩ H
    have H : laws_toBridgeS_L2 n mo5 x0 y2 y3 = some o5 := H
    obtain _ | mo5 := mo5
    · cases (show (none : Option _) = some o5 from H)
    · rw [laws_toBridgeS_L2] at H
      refine Tr.seq ?_
      refine Tr.rs ?_
      refine LAt.runU tOk 2 kr ?_
      refine LAt.lenE tOk (t := 22) (ty := 3) (e := 53) (x := (.tmp 9)) (d := 10) (g := none) ⟨(.slot 9), [], 0, false, 11, (CV.frzEs (x0.map Bridge.row))⟩ (x0).length _ kr kr kr kr kr (frz_len _ _) rfl ?_
      refine LAt.runU tOk 1 kr ?_
      refine LAt.doneM 3869 0 kr ?_
      refine Tr.to ⟨23, 0, [sB 11 (decide (y2 < (x0.length : Int))), sI 10 (x0.length : Int), sC 9 (cF 11 x0 Bridge.row), sI 8 y2, sI 4 y2, sC 3 (cL 11 y3 Bridge.row), sC 2 (cL 11 ([] : List Bridge) Bridge.row), sC 0 (cF 11 x0 Bridge.row)], []⟩ kr ?_
      cases h1 : (decide (y2 < (x0.length : Int)))
      · have H := bifF h1 H
        refine Tr.cond (b := false) kr (fun h => nomatch h) (fun _ => ?_)
        refine Tr.exit ?_
        refine And.intro (fun _ => ?_) (fun h => absurd rfl h)
        have H := Option.some.inj H
        subst H
        have H := Ho5
        dsimp only at H
        exact Exists.intro y3 (And.intro H (St.sub_of [3, 2] [] kr))
      · have H := bifT h1 H
        refine Tr.cond (b := true) kr (fun _ => ?_) (fun h => nomatch h)
        refine Tr.skip ?_
        show Tr _ _ _ _ _
        refine Tr.seq ?_
        refine Tr.block ?_
        refine Tr.at ?_
        refine LAt.runU tOk 4 kr ?_
        obtain ⟨v6, ev6, H⟩ := bind_some H
        refine LAt.indexF tOk (t := 22) (ty := 0) (x := (.tmp 16)) (y := (.tmp 17)) (d := 18) (g := none) ⟨(.slot 16), [], 0, false, 11, (CV.frzEs (x0.map Bridge.row))⟩ y2 (CV.frzRow (Bridge.row v6)) _ kr kr kr kr rfl (idx_isF ev6) rfl ?_
        refine LAt.runU tOk 1 kr ?_
        obtain ⟨r7, er7, H⟩ := bind_some H
        refine LAt.callU tOk [.rd] (f := 37) (av := #[.tmp 19]) (ats := #[53]) (d := (some 20)) (ty := 61) (g := none) kr kr kr [] (laws_toBridge n v6 r7 er7) kr (.inl rfl) ?_
        obtain ⟨v8, ev8, H⟩ := bind_some H
        refine LAt.indexO tOk (t := 30) (ty := 0) (x := (.tmp 14)) (y := (.tmp 15)) (d := 21) (g := none) ⟨(.slot 3), [], 0, true, 11, (y3.map Bridge.row)⟩ y2 (y2.toNat) (Bridge.row v8) _ kr kr kr kr rfl kr (idx_isE ev8) rfl rfl ?_
        refine LAt.storeK tOk (t := 61) (ty := 0) (ad := (.tmp 21)) (x := (.tmp 20)) (g := none) ⟨.st [(0, 1, 3), (1, 1, 9), (2, 1, 55), (3, 1, 56), (4, 2, 59), (6, 1, 3), (7, 1, 3), (8, 1, 3), (9, 1, 3), (10, 1, 3)], 11, 160, [.lit (.int .i64 0), .lit (.string ⟨#[]⟩), .sl true 8 [], .sl true 5 [], .sl true 3 [], .sl true 1 [], .lit (.int .i64 0), .lit (.int .i64 0), .lit (.int .i64 0), .lit (.int .i64 0), .lit (.int .i64 0)]⟩ true (Bridge.row r7) (.slot 3) [(0, (y2.toNat))] [(0, (y2.toNat))] 11 0 [cL 11 y3 Bridge.row] (Bridge.row v8) [cL 11 y3 Bridge.row] [cL 11 (y3.set (y2.toNat) r7) Bridge.row] kr kr kr kr kr kr (getQ_elem rfl (idx_get ev8).2) rfl (by intro h; cases h) kr kr kr (modQ_elem (new := r7) rfl (idx_get ev8).2 rfl) kr ?_
        refine LAt.doneM 1036061 0 kr ?_
        show Tr _ _ _ _ _
        refine Tr.at ?_
        refine LAt.runU tOk 3 kr ?_
        refine LAt.doneM 1048349 0 kr ?_
        exact Exists.intro (mo5, ((IntKind.wrap .i64 (y2 + 1)), (y3.set (y2.toNat) r7))) (And.intro H (And.intro (Nat.lt_succ_self mo5) (St.sub_of [4, 3, 2, 0] [] kr)))
  · rintro y4 H
    have H : (laws_toBridgeS_J1 n y4) = some r := H
    unfold laws_toBridgeS_J1 at H
    show Tr _ _ _ _ _
    refine Tr.rs ?_
    refine LAt.runU tOk 2 kr ?_
    refine LAt.doneM 12 0 kr ?_
    refine Tr.ret ?_
    have H := Option.some.inj H
    subst H
    exact Fin.of _ [(false, [cL 11 y4 Bridge.row])] kr rfl rfl

def laws_toLinkF (n : Nat) (x0 : Link) : Option (Link) :=
  (some x0)
/-- loop.example/g00326/laws.toLink -/
theorem laws_toLink (n : Nat) (x0 : Link) (r : Link) (H : laws_toLinkF n x0 = some r) : LCall Try.prog 132 [.val true (CV.frzRow (Link.row x0))] [.val true (Link.row r)] [] := by
  refine LCall.of_body tOk Try.func132 rfl (c := (.seq (.region 0 (rg Try.f132 0) false) (.seq (.region 1 (rg Try.f132 1) false) (.seq (.region 2 (rg Try.f132 2) false) (.seq (.region 3 (rg Try.f132 3) false) (.seq (.region 4 (rg Try.f132 4) false) (.seq (.region 5 (rg Try.f132 5) false) (.seq (.region 6 (rg Try.f132 6) false) .ret)))))))) kr (Nat.le_of_ble_eq_true kr) 0 (rs := [.cell 2 96]) rfl [] .nil [(true, (Link.row r))] [] [] fun cx => ?_
  show Tr _ _ _ ⟨17, 0, [sV 0 (Link.row x0)], []⟩ _
  unfold laws_toLinkF at H
  refine Tr.rs ?_
  refine LAt.runU tOk 2 kr ?_
  refine LAt.doneM 6 6 kr ?_
  refine Tr.rs ?_
  refine LAt.runU tOk 1 kr ?_
  refine LAt.doneM 14 14 kr ?_
  refine Tr.rs ?_
  refine LAt.runU tOk 4 kr ?_
  refine LAt.doneM 14 14 kr ?_
  refine Tr.rs ?_
  refine LAt.runU tOk 4 kr ?_
  refine LAt.doneM 14 14 kr ?_
  refine Tr.rs ?_
  refine LAt.runU tOk 4 kr ?_
  refine LAt.doneM 14 14 kr ?_
  refine Tr.rs ?_
  refine LAt.runU tOk 4 kr ?_
  refine LAt.doneM 12 12 kr ?_
  refine Tr.rs ?_
  refine LAt.runU tOk 2 kr ?_
  refine LAt.doneM 4 4 kr ?_
  refine Tr.ret ?_
  have H := Option.some.inj H
  subst H
  exact Fin.of _ [(true, (Link.row x0))] kr rfl rfl

def laws_toLinkS_J1 (n : Nat) (y4 : (List Link)) : Option ((List Link)) :=
  (some y4)
def laws_toLinkS_L2 (n : Nat) : Nat → (List Link) → Int → (List Link) → Option (((List Link)) ⊕ ((List Link)))
  | 0, _, _, _ => none
  | mo5 + 1, x0, y2, y3 => (bif (decide (y2 < (x0.length : Int))) then ((idx x0 y2).bind fun v6 => ((laws_toLinkF n v6).bind fun r7 => ((idx y3 y2).bind fun v8 => (laws_toLinkS_L2 n mo5 x0 (IntKind.wrap .i64 (y2 + 1)) (y3.set (y2.toNat) r7))))) else (some (Sum.inl y3)))
def laws_toLinkSF (n : Nat) (x0 : (List Link)) : Option ((List Link)) :=
  (bif (decide (0 ≤ (x0.length : Int)) && decide ((x0.length : Int) ≤ 268435456)) then ((laws_toLinkS_L2 n n x0 0 (List.replicate ((x0.length : Int)).toNat (⟨0, 0, 0, 0⟩ : Link))).bind fun o => match o with | .inl y4 => (laws_toLinkS_J1 n y4) | .inr r => some r) else none)
/-- loop.example/g00326/laws.toLinkS -/
theorem laws_toLinkS (n : Nat) (x0 : (List Link)) (r : (List Link)) (H : laws_toLinkSF n x0 = some r) : LCall Try.prog 68 [.val false [.sl false 4 (CV.frzEs (x0.map Link.row))]] [.val false [.sl true 4 (r.map Link.row)]] [] := by
  refine LCall.of_body tOk Try.func68 rfl (c := (.seq (.region 0 (rg Try.f68 0) false) (.seq (.region 1 (rg Try.f68 1) false) (.seq (.seq (.region 2 (rg Try.f68 2) false) (.block 0 (.loop (.seq (.seq (.region 3 (rg Try.f68 3) false) (.cond (.tmp 11) .skip (.exit 0))) (.seq (.block 1 (.region 5 (rg Try.f68 5) false)) (.region 4 (rg Try.f68 4) false)))))) (.seq (.region 6 (rg Try.f68 6) false) .ret))))) kr (Nat.le_of_ble_eq_true kr) 0 (rs := [.tmp 2]) rfl [] .nil [(false, [.sl true 4 (r.map Link.row)])] [] [] fun cx => ?_
  show Tr _ _ _ ⟨23, 0, [sC 0 (cF 4 x0 Link.row)], []⟩ _
  unfold laws_toLinkSF at H
  refine Tr.rs ?_
  refine LAt.runU tOk 1 kr ?_
  refine LAt.doneM 5 0 kr ?_
  refine Tr.rs ?_
  refine LAt.runU tOk 1 kr ?_
  refine LAt.lenE tOk (t := 23) (ty := 3) (e := 146) (x := (.tmp 5)) (d := 6) (g := none) ⟨(.slot 5), [], 0, false, 4, (CV.frzEs (x0.map Link.row))⟩ (x0).length _ kr kr kr kr kr (frz_len _ _) rfl ?_
  obtain ⟨hg1, H⟩ := guard_some H
  refine LAt.makeG tOk (t := 31) (ty := 31) (e := 96) (x := (.tmp 6)) (d := 7) (g := none) ⟨.st [(0, 1, 3), (1, 1, 3), (2, 1, 3), (3, 1, 3)], 4, 32, [.lit (.int .i64 0), .lit (.int .i64 0), .lit (.int .i64 0), .lit (.int .i64 0)]⟩ (x0.length : Int) ((List.replicate ((x0.length : Int)).toNat (⟨0, 0, 0, 0⟩ : Link)).map Link.row) _ kr kr kr kr kr kr hg1 kr (rep_map _ rfl) rfl ?_
  refine LAt.moveU (T := lk tab) (ty := 31) (x := (.tmp 7)) (d := 3) (g := none) false [cL 4 (List.replicate ((x0.length : Int)).toNat (⟨0, 0, 0, 0⟩ : Link)) Link.row] kr kr kr kr kr ?_
  refine LAt.doneM 13 0 kr ?_
  refine Tr.seq ?_
  refine Tr.rs ?_
  refine LAt.runU tOk 1 kr ?_
  refine LAt.doneM 29 0 kr ?_
  obtain ⟨o5, eo5, Ho5⟩ := bind_some H
  clear H
  refine Tr.mid (ι := (List Link)) (fun v => ⟨23, 0, [sC 3 (cL 4 v Link.row), sC 2 (cL 4 ([] : List Link) Link.row)], []⟩) (fun v => laws_toLinkS_J1 n v = some r) ?_ ?_
  · refine Tr.block ?_
    refine Tr.loop (ι := Nat × (Int × (List Link))) (fun v => ⟨23, 0, [sI 4 v.2.1, sC 3 (cL 4 v.2.2 Link.row), sC 2 (cL 4 ([] : List Link) Link.row), sC 0 (cF 4 x0 Link.row)], []⟩) (fun v => laws_toLinkS_L2 n v.1 x0 v.2.1 v.2.2 = some o5) (fun v => v.1) (n, (0, (List.replicate ((x0.length : Int)).toNat (⟨0, 0, 0, 0⟩ : Link)))) eo5 (St.sub_of [4, 3, 2, 0] [] kr) ?_
    rintro ⟨mo5, y2, y3⟩ H
    have H : laws_toLinkS_L2 n mo5 x0 y2 y3 = some o5 := H
    obtain _ | mo5 := mo5
    · cases (show (none : Option _) = some o5 from H)
    · rw [laws_toLinkS_L2] at H
      refine Tr.seq ?_
      refine Tr.rs ?_
      refine LAt.runU tOk 2 kr ?_
      refine LAt.lenE tOk (t := 23) (ty := 3) (e := 146) (x := (.tmp 9)) (d := 10) (g := none) ⟨(.slot 9), [], 0, false, 4, (CV.frzEs (x0.map Link.row))⟩ (x0).length _ kr kr kr kr kr (frz_len _ _) rfl ?_
      refine LAt.runU tOk 1 kr ?_
      refine LAt.doneM 3869 0 kr ?_
      refine Tr.to ⟨23, 0, [sB 11 (decide (y2 < (x0.length : Int))), sI 10 (x0.length : Int), sC 9 (cF 4 x0 Link.row), sI 8 y2, sI 4 y2, sC 3 (cL 4 y3 Link.row), sC 2 (cL 4 ([] : List Link) Link.row), sC 0 (cF 4 x0 Link.row)], []⟩ kr ?_
      cases h1 : (decide (y2 < (x0.length : Int)))
      · have H := bifF h1 H
        refine Tr.cond (b := false) kr (fun h => nomatch h) (fun _ => ?_)
        refine Tr.exit ?_
        refine And.intro (fun _ => ?_) (fun h => absurd rfl h)
        have H := Option.some.inj H
        subst H
        have H := Ho5
        dsimp only at H
        exact Exists.intro y3 (And.intro H (St.sub_of [3, 2] [] kr))
      · have H := bifT h1 H
        refine Tr.cond (b := true) kr (fun _ => ?_) (fun h => nomatch h)
        refine Tr.skip ?_
        show Tr _ _ _ _ _
        refine Tr.seq ?_
        refine Tr.block ?_
        refine Tr.at ?_
        refine LAt.runU tOk 4 kr ?_
        obtain ⟨v6, ev6, H⟩ := bind_some H
        refine LAt.indexF tOk (t := 23) (ty := 0) (x := (.tmp 16)) (y := (.tmp 17)) (d := 18) (g := none) ⟨(.slot 16), [], 0, false, 4, (CV.frzEs (x0.map Link.row))⟩ y2 (Link.row v6) _ kr kr kr kr rfl (idx_isF ev6) rfl ?_
        refine LAt.runU tOk 1 kr ?_
        obtain ⟨r7, er7, H⟩ := bind_some H
        refine LAt.callU tOk [.rd] (f := 132) (av := #[.tmp 19]) (ats := #[146]) (d := (some 20)) (ty := 96) (g := none) kr kr kr [] (laws_toLink n v6 r7 er7) kr (.inl rfl) ?_
        obtain ⟨v8, ev8, H⟩ := bind_some H
        refine LAt.indexO tOk (t := 31) (ty := 0) (x := (.tmp 14)) (y := (.tmp 15)) (d := 21) (g := none) ⟨(.slot 3), [], 0, true, 4, (y3.map Link.row)⟩ y2 (y2.toNat) (Link.row v8) _ kr kr kr kr rfl kr (idx_isE ev8) rfl rfl ?_
        refine LAt.storeK tOk (t := 96) (ty := 0) (ad := (.tmp 21)) (x := (.tmp 20)) (g := none) ⟨.st [(0, 1, 3), (1, 1, 3), (2, 1, 3), (3, 1, 3)], 4, 32, [.lit (.int .i64 0), .lit (.int .i64 0), .lit (.int .i64 0), .lit (.int .i64 0)]⟩ true (Link.row r7) (.slot 3) [(0, (y2.toNat))] [(0, (y2.toNat))] 4 0 [cL 4 y3 Link.row] (Link.row v8) [cL 4 y3 Link.row] [cL 4 (y3.set (y2.toNat) r7) Link.row] kr kr kr kr kr kr (getQ_elem rfl (idx_get ev8).2) rfl (by intro h; cases h) kr kr kr (modQ_elem (new := r7) rfl (idx_get ev8).2 rfl) kr ?_
        refine LAt.doneM 4181789 0 kr ?_
        show Tr _ _ _ _ _
        refine Tr.at ?_
        refine LAt.runU tOk 3 kr ?_
        refine LAt.doneM 4194077 0 kr ?_
        exact Exists.intro (mo5, ((IntKind.wrap .i64 (y2 + 1)), (y3.set (y2.toNat) r7))) (And.intro H (And.intro (Nat.lt_succ_self mo5) (St.sub_of [4, 3, 2, 0] [] kr)))
  · rintro y4 H
    have H : (laws_toLinkS_J1 n y4) = some r := H
    unfold laws_toLinkS_J1 at H
    show Tr _ _ _ _ _
    refine Tr.rs ?_
    refine LAt.runU tOk 2 kr ?_
    refine LAt.doneM 12 0 kr ?_
    refine Tr.ret ?_
    have H := Option.some.inj H
    subst H
    exact Fin.of _ [(false, [cL 4 y4 Link.row])] kr rfl rfl

def laws_toSayF (n : Nat) (x0 : Say) : Option (Say) :=
  ((laws_toVecF n x0.V).bind fun r1 => (some (⟨x0.Link, x0.Back, r1⟩ : Say)))
/-- loop.example/g00326/laws.toSay -/
theorem laws_toSay (n : Nat) (x0 : Say) (r : Say) (H : laws_toSayF n x0 = some r) : LCall Try.prog 133 [.val true (CV.frzRow (Say.row x0))] [.val true (Say.row r)] [] := by
  refine LCall.of_body tOk Try.func133 rfl (c := (.seq (.region 0 (rg Try.f133 0) false) (.seq (.region 1 (rg Try.f133 1) false) (.seq (.region 2 (rg Try.f133 2) false) (.seq (.region 3 (rg Try.f133 3) false) (.seq (.region 4 (rg Try.f133 4) false) (.seq (.region 5 (rg Try.f133 5) false) .ret))))))) kr (Nat.le_of_ble_eq_true kr) 0 (rs := [.cell 2 116]) rfl [] .nil [(true, (Say.row r))] [] [] fun cx => ?_
  show Tr _ _ _ ⟨15, 0, [sV 0 (Say.row x0)], []⟩ _
  unfold laws_toSayF at H
  refine Tr.rs ?_
  refine LAt.runU tOk 2 kr ?_
  refine LAt.doneM 6 6 kr ?_
  refine Tr.rs ?_
  refine LAt.runU tOk 1 kr ?_
  refine LAt.doneM 14 14 kr ?_
  refine Tr.rs ?_
  refine LAt.runU tOk 4 kr ?_
  refine LAt.doneM 14 14 kr ?_
  refine Tr.rs ?_
  refine LAt.runU tOk 4 kr ?_
  refine LAt.doneM 14 14 kr ?_
  refine Tr.rs ?_
  refine LAt.runU tOk 2 kr ?_
  obtain ⟨r1, er1, H⟩ := bind_some H
  refine LAt.callU tOk [.rd] (f := 43) (av := #[.tmp 11]) (ats := #[68]) (d := (some 12)) (ty := 70) (g := none) kr kr kr [] (laws_toVec n x0.V r1 er1) kr (.inl rfl) ?_
  refine LAt.runU tOk 2 kr ?_
  refine LAt.doneM 12 12 kr ?_
  refine Tr.rs ?_
  refine LAt.runU tOk 2 kr ?_
  refine LAt.doneM 4 4 kr ?_
  refine Tr.ret ?_
  have H := Option.some.inj H
  subst H
  exact Fin.of _ [(true, [cI x0.Link, cB x0.Back, cI r1.Root, cI r1.Cost, cI r1.Hops, cI r1.Bridge, cI r1.Port])] kr rfl rfl

def laws_toSayS_J1 (n : Nat) (y4 : (List Say)) : Option ((List Say)) :=
  (some y4)
def laws_toSayS_L2 (n : Nat) : Nat → (List Say) → Int → (List Say) → Option (((List Say)) ⊕ ((List Say)))
  | 0, _, _, _ => none
  | mo5 + 1, x0, y2, y3 => (bif (decide (y2 < (x0.length : Int))) then ((idx x0 y2).bind fun v6 => ((laws_toSayF n v6).bind fun r7 => ((idx y3 y2).bind fun v8 => (laws_toSayS_L2 n mo5 x0 (IntKind.wrap .i64 (y2 + 1)) (y3.set (y2.toNat) r7))))) else (some (Sum.inl y3)))
def laws_toSaySF (n : Nat) (x0 : (List Say)) : Option ((List Say)) :=
  (bif (decide (0 ≤ (x0.length : Int)) && decide ((x0.length : Int) ≤ 268435456)) then ((laws_toSayS_L2 n n x0 0 (List.replicate ((x0.length : Int)).toNat (⟨0, false, (⟨0, 0, 0, 0, 0⟩ : Vec)⟩ : Say))).bind fun o => match o with | .inl y4 => (laws_toSayS_J1 n y4) | .inr r => some r) else none)
/-- loop.example/g00326/laws.toSayS -/
theorem laws_toSayS (n : Nat) (x0 : (List Say)) (r : (List Say)) (H : laws_toSaySF n x0 = some r) : LCall Try.prog 69 [.val false [.sl false 7 (CV.frzEs (x0.map Say.row))]] [.val false [.sl true 7 (r.map Say.row)]] [] := by
  refine LCall.of_body tOk Try.func69 rfl (c := (.seq (.region 0 (rg Try.f69 0) false) (.seq (.region 1 (rg Try.f69 1) false) (.seq (.seq (.region 2 (rg Try.f69 2) false) (.block 0 (.loop (.seq (.seq (.region 3 (rg Try.f69 3) false) (.cond (.tmp 11) .skip (.exit 0))) (.seq (.block 1 (.region 5 (rg Try.f69 5) false)) (.region 4 (rg Try.f69 4) false)))))) (.seq (.region 6 (rg Try.f69 6) false) .ret))))) kr (Nat.le_of_ble_eq_true kr) 0 (rs := [.tmp 2]) rfl [] .nil [(false, [.sl true 7 (r.map Say.row)])] [] [] fun cx => ?_
  show Tr _ _ _ ⟨23, 0, [sC 0 (cF 7 x0 Say.row)], []⟩ _
  unfold laws_toSaySF at H
  refine Tr.rs ?_
  refine LAt.runU tOk 1 kr ?_
  refine LAt.doneM 5 0 kr ?_
  refine Tr.rs ?_
  refine LAt.runU tOk 1 kr ?_
  refine LAt.lenE tOk (t := 24) (ty := 3) (e := 149) (x := (.tmp 5)) (d := 6) (g := none) ⟨(.slot 5), [], 0, false, 7, (CV.frzEs (x0.map Say.row))⟩ (x0).length _ kr kr kr kr kr (frz_len _ _) rfl ?_
  obtain ⟨hg1, H⟩ := guard_some H
  refine LAt.makeG tOk (t := 32) (ty := 32) (e := 116) (x := (.tmp 6)) (d := 7) (g := none) ⟨.st [(0, 1, 3), (1, 1, 4), (2, 5, 70)], 7, 56, [.lit (.int .i64 0), .lit (.bool false), .lit (.int .i64 0), .lit (.int .i64 0), .lit (.int .i64 0), .lit (.int .i64 0), .lit (.int .i64 0)]⟩ (x0.length : Int) ((List.replicate ((x0.length : Int)).toNat (⟨0, false, (⟨0, 0, 0, 0, 0⟩ : Vec)⟩ : Say)).map Say.row) _ kr kr kr kr kr kr hg1 kr (rep_map _ rfl) rfl ?_
  refine LAt.moveU (T := lk tab) (ty := 32) (x := (.tmp 7)) (d := 3) (g := none) false [cL 7 (List.replicate ((x0.length : Int)).toNat (⟨0, false, (⟨0, 0, 0, 0, 0⟩ : Vec)⟩ : Say)) Say.row] kr kr kr kr kr ?_
  refine LAt.doneM 13 0 kr ?_
  refine Tr.seq ?_
  refine Tr.rs ?_
  refine LAt.runU tOk 1 kr ?_
  refine LAt.doneM 29 0 kr ?_
  obtain ⟨o5, eo5, Ho5⟩ := bind_some H
  clear H
  refine Tr.mid (ι := (List Say)) (fun v => ⟨23, 0, [sC 3 (cL 7 v Say.row), sC 2 (cL 7 ([] : List Say) Say.row)], []⟩) (fun v => laws_toSayS_J1 n v = some r) ?_ ?_
  · refine Tr.block ?_
    refine Tr.loop (ι := Nat × (Int × (List Say))) (fun v => ⟨23, 0, [sI 4 v.2.1, sC 3 (cL 7 v.2.2 Say.row), sC 2 (cL 7 ([] : List Say) Say.row), sC 0 (cF 7 x0 Say.row)], []⟩) (fun v => laws_toSayS_L2 n v.1 x0 v.2.1 v.2.2 = some o5) (fun v => v.1) (n, (0, (List.replicate ((x0.length : Int)).toNat (⟨0, false, (⟨0, 0, 0, 0, 0⟩ : Vec)⟩ : Say)))) eo5 (St.sub_of [4, 3, 2, 0] [] kr) ?_
    rintro ⟨mo5, y2, y3⟩ H
    have H : laws_toSayS_L2 n mo5 x0 y2 y3 = some o5 := H
    obtain _ | mo5 := mo5
    · cases (show (none : Option _) = some o5 from H)
    · rw [laws_toSayS_L2] at H
      refine Tr.seq ?_
      refine Tr.rs ?_
      refine LAt.runU tOk 2 kr ?_
      refine LAt.lenE tOk (t := 24) (ty := 3) (e := 149) (x := (.tmp 9)) (d := 10) (g := none) ⟨(.slot 9), [], 0, false, 7, (CV.frzEs (x0.map Say.row))⟩ (x0).length _ kr kr kr kr kr (frz_len _ _) rfl ?_
      refine LAt.runU tOk 1 kr ?_
      refine LAt.doneM 3869 0 kr ?_
      refine Tr.to ⟨23, 0, [sB 11 (decide (y2 < (x0.length : Int))), sI 10 (x0.length : Int), sC 9 (cF 7 x0 Say.row), sI 8 y2, sI 4 y2, sC 3 (cL 7 y3 Say.row), sC 2 (cL 7 ([] : List Say) Say.row), sC 0 (cF 7 x0 Say.row)], []⟩ kr ?_
      cases h1 : (decide (y2 < (x0.length : Int)))
      · have H := bifF h1 H
        refine Tr.cond (b := false) kr (fun h => nomatch h) (fun _ => ?_)
        refine Tr.exit ?_
        refine And.intro (fun _ => ?_) (fun h => absurd rfl h)
        have H := Option.some.inj H
        subst H
        have H := Ho5
        dsimp only at H
        exact Exists.intro y3 (And.intro H (St.sub_of [3, 2] [] kr))
      · have H := bifT h1 H
        refine Tr.cond (b := true) kr (fun _ => ?_) (fun h => nomatch h)
        refine Tr.skip ?_
        show Tr _ _ _ _ _
        refine Tr.seq ?_
        refine Tr.block ?_
        refine Tr.at ?_
        refine LAt.runU tOk 4 kr ?_
        obtain ⟨v6, ev6, H⟩ := bind_some H
        refine LAt.indexF tOk (t := 24) (ty := 0) (x := (.tmp 16)) (y := (.tmp 17)) (d := 18) (g := none) ⟨(.slot 16), [], 0, false, 7, (CV.frzEs (x0.map Say.row))⟩ y2 (Say.row v6) _ kr kr kr kr rfl (idx_isF ev6) rfl ?_
        refine LAt.runU tOk 1 kr ?_
        obtain ⟨r7, er7, H⟩ := bind_some H
        refine LAt.callU tOk [.rd] (f := 133) (av := #[.tmp 19]) (ats := #[149]) (d := (some 20)) (ty := 116) (g := none) kr kr kr [] (laws_toSay n v6 r7 er7) kr (.inl rfl) ?_
        obtain ⟨v8, ev8, H⟩ := bind_some H
        refine LAt.indexO tOk (t := 32) (ty := 0) (x := (.tmp 14)) (y := (.tmp 15)) (d := 21) (g := none) ⟨(.slot 3), [], 0, true, 7, (y3.map Say.row)⟩ y2 (y2.toNat) (Say.row v8) _ kr kr kr kr rfl kr (idx_isE ev8) rfl rfl ?_
        refine LAt.storeK tOk (t := 116) (ty := 0) (ad := (.tmp 21)) (x := (.tmp 20)) (g := none) ⟨.st [(0, 1, 3), (1, 1, 4), (2, 5, 70)], 7, 56, [.lit (.int .i64 0), .lit (.bool false), .lit (.int .i64 0), .lit (.int .i64 0), .lit (.int .i64 0), .lit (.int .i64 0), .lit (.int .i64 0)]⟩ true (Say.row r7) (.slot 3) [(0, (y2.toNat))] [(0, (y2.toNat))] 7 0 [cL 7 y3 Say.row] (Say.row v8) [cL 7 y3 Say.row] [cL 7 (y3.set (y2.toNat) r7) Say.row] kr kr kr kr kr kr (getQ_elem rfl (idx_get ev8).2) rfl (by intro h; cases h) kr kr kr (modQ_elem (new := r7) rfl (idx_get ev8).2 rfl) kr ?_
        refine LAt.doneM 4181789 0 kr ?_
        show Tr _ _ _ _ _
        refine Tr.at ?_
        refine LAt.runU tOk 3 kr ?_
        refine LAt.doneM 4194077 0 kr ?_
        exact Exists.intro (mo5, ((IntKind.wrap .i64 (y2 + 1)), (y3.set (y2.toNat) r7))) (And.intro H (And.intro (Nat.lt_succ_self mo5) (St.sub_of [4, 3, 2, 0] [] kr)))
  · rintro y4 H
    have H : (laws_toSayS_J1 n y4) = some r := H
    unfold laws_toSayS_J1 at H
    show Tr _ _ _ _ _
    refine Tr.rs ?_
    refine LAt.runU tOk 2 kr ?_
    refine LAt.doneM 12 0 kr ?_
    refine Tr.ret ?_
    have H := Option.some.inj H
    subst H
    exact Fin.of _ [(false, [cL 7 y4 Say.row])] kr rfl rfl

def laws_toNetF (n : Nat) (x0 : Net) : Option (Net) :=
  ((laws_toBridgeSF n x0.Bridges).bind fun r1 => ((laws_toLinkSF n x0.Links).bind fun r2 => ((laws_toSaySF n x0.Said).bind fun r3 => (some (⟨r1, r2, r3⟩ : Net)))))
/-- loop.example/g00326/laws.toNet -/
theorem laws_toNet (n : Nat) (x0 : Net) (r : Net) (H : laws_toNetF n x0 = some r) : LCall Try.prog 17 [.val true (CV.frzRow (Net.row x0))] [.val true (Net.row r)] [] := by
  refine LCall.of_body tOk Try.func17 rfl (c := (.seq (.region 0 (rg Try.f17 0) false) (.seq (.region 1 (rg Try.f17 1) false) (.seq (.region 2 (rg Try.f17 2) false) (.seq (.region 3 (rg Try.f17 3) false) (.seq (.region 4 (rg Try.f17 4) false) (.seq (.region 5 (rg Try.f17 5) false) .ret))))))) kr (Nat.le_of_ble_eq_true kr) 0 (rs := [.cell 2 34]) rfl [] .nil [(true, (Net.row r))] [] [] fun cx => ?_
  show Tr _ _ _ ⟨17, 0, [sV 0 (CV.frzRow (Net.row x0))], []⟩ _
  unfold laws_toNetF at H
  refine Tr.rs ?_
  refine LAt.runU tOk 2 kr ?_
  refine LAt.doneM 6 6 kr ?_
  refine Tr.rs ?_
  refine LAt.runU tOk 1 kr ?_
  refine LAt.doneM 14 14 kr ?_
  refine Tr.rs ?_
  refine LAt.runU tOk 2 kr ?_
  obtain ⟨r1, er1, H⟩ := bind_some H
  refine LAt.callU tOk [.rd] (f := 67) (av := #[.tmp 5]) (ats := #[22]) (d := (some 6)) (ty := 30) (g := none) kr kr kr [] (laws_toBridgeS n x0.Bridges r1 er1) kr (.inl rfl) ?_
  refine LAt.runU tOk 2 kr ?_
  refine LAt.doneM 14 14 kr ?_
  refine Tr.rs ?_
  refine LAt.runU tOk 2 kr ?_
  obtain ⟨r2, er2, H⟩ := bind_some H
  refine LAt.callU tOk [.rd] (f := 68) (av := #[.tmp 9]) (ats := #[23]) (d := (some 10)) (ty := 31) (g := none) kr kr kr [] (laws_toLinkS n x0.Links r2 er2) kr (.inl rfl) ?_
  refine LAt.runU tOk 2 kr ?_
  refine LAt.doneM 14 14 kr ?_
  refine Tr.rs ?_
  refine LAt.runU tOk 2 kr ?_
  obtain ⟨r3, er3, H⟩ := bind_some H
  refine LAt.callU tOk [.rd] (f := 69) (av := #[.tmp 13]) (ats := #[24]) (d := (some 14)) (ty := 32) (g := none) kr kr kr [] (laws_toSayS n x0.Said r3 er3) kr (.inl rfl) ?_
  refine LAt.runU tOk 2 kr ?_
  refine LAt.doneM 12 12 kr ?_
  refine Tr.rs ?_
  refine LAt.runU tOk 2 kr ?_
  refine LAt.doneM 4 4 kr ?_
  refine Tr.ret ?_
  have H := Option.some.inj H
  subst H
  exact Fin.of _ [(true, [cL 11 r1 Bridge.row, cL 4 r2 Link.row, cL 7 r3 Say.row])] kr rfl rfl

def spec_l1InF (n : Nat) (x0 : Int) (x1 : Int) (x2 : Int) : Option (Bool) :=
  (bif (decide (x0 ≥ x1)) then (some (decide (x0 ≤ x2))) else (some false))
/-- loop.example/g00326/spec.l1In -/
theorem spec_l1In (n : Nat) (x0 : Int) (x1 : Int) (x2 : Int) (r : Bool) (H : spec_l1InF n x0 x1 x2 = some r) : LCall Try.prog 65 [.val false [.lit (.int .i64 x0)], .val false [.lit (.int .i64 x1)], .val false [.lit (.int .i64 x2)]] [.val false [.lit (.bool r)]] [] := by
  refine LCall.of_body tOk Try.func65 rfl (c := (.seq (.region 0 (rg Try.f65 0) false) (.seq (.region 1 (rg Try.f65 1) false) .ret))) kr (Nat.le_of_ble_eq_true kr) 0 (rs := [.tmp 6]) rfl [] .nil [(false, [.lit (.bool r)])] [] [] fun cx => ?_
  show Tr _ _ _ ⟨15, 0, [sI 0 x0, sI 1 x1, sI 2 x2], []⟩ _
  unfold spec_l1InF at H
  refine Tr.rs ?_
  refine LAt.runU tOk 1 kr ?_
  refine LAt.doneM 71 0 kr ?_
  refine Tr.rs ?_
  refine LAt.runU tOk 4 kr ?_
  refine LAt.to ⟨15, 0, [sB 10 (decide (x0 ≥ x1)), sB 9 (decide (x0 ≥ x1)), sI 8 x1, sI 7 x0, sB 6 false, sI 0 x0, sI 1 x1, sI 2 x2], []⟩ kr ?_
  cases h1 : (decide (x0 ≥ x1))
  · have H := bifF h1 H
    refine LAt.runU tOk 5 kr ?_
    refine LAt.doneM 64 0 kr ?_
    refine Tr.ret ?_
    have H := Option.some.inj H
    subst H
    exact Fin.of _ [(false, [cB false])] kr rfl rfl
  · have H := bifT h1 H
    refine LAt.runU tOk 5 kr ?_
    refine LAt.doneM 64 0 kr ?_
    refine Tr.ret ?_
    have H := Option.some.inj H
    subst H
    exact Fin.of _ [(false, [cB (decide (x0 ≤ x2))])] kr rfl rfl

def spec_VecOkF (n : Nat) (x0 : Vec) : Option (Bool) :=
  ((spec_l1InF n x0.Root 1 99).bind fun r1 => (bif r1 then ((spec_l1InF n x0.Cost 0 100000).bind fun r2 => (bif r2 then ((spec_l1InF n x0.Hops 0 10).bind fun r3 => (bif r3 then ((spec_l1InF n x0.Bridge 1 99).bind fun r4 => (bif r4 then ((spec_l1InF n x0.Port 0 7).bind fun r5 => (some r5)) else (some false))) else (some false))) else (some false))) else (some false)))
/-- loop.example/g00326/spec.VecOk -/
theorem spec_VecOk (n : Nat) (x0 : Vec) (r : Bool) (H : spec_VecOkF n x0 = some r) : LCall Try.prog 87 [.val true (CV.frzRow (Vec.row x0))] [.val false [.lit (.bool r)]] [] := by
  refine LCall.of_body tOk Try.func87 rfl (c := (.seq (.region 0 (rg Try.f87 0) false) (.seq (.region 1 (rg Try.f87 1) false) .ret))) kr (Nat.le_of_ble_eq_true kr) 0 (rs := [.tmp 2]) rfl [] .nil [(false, [.lit (.bool r)])] [] [] fun cx => ?_
  show Tr _ _ _ ⟨26, 0, [sV 0 (Vec.row x0)], []⟩ _
  unfold spec_VecOkF at H
  refine Tr.rs ?_
  refine LAt.runU tOk 2 kr ?_
  refine LAt.doneM 6 2 kr ?_
  refine Tr.rs ?_
  refine LAt.runU tOk 2 kr ?_
  obtain ⟨r1, er1, H⟩ := bind_some H
  refine LAt.callU tOk [.rd, .rd, .rd] (f := 65) (av := #[.tmp 4, .const (.int .i64 1), .const (.int .i64 99)]) (ats := #[3, 3, 3]) (d := (some 5)) (ty := 4) (g := none) kr kr kr [] (spec_l1In n x0.Root 1 99 r1 er1) kr (.inl rfl) ?_
  refine LAt.runU tOk 1 kr ?_
  refine LAt.to ⟨26, 0, [sB 6 r1, sB 5 r1, sI 4 x0.Root, sA 3 1 5 0, sB 2 false, sA 1 1 5 0], [(1, (Vec.row x0))]⟩ kr ?_
  cases h1 : r1
  · have H := bifF h1 H
    refine LAt.runU tOk 20 kr ?_
    refine LAt.doneM 4 0 kr ?_
    refine Tr.ret ?_
    have H := Option.some.inj H
    subst H
    exact Fin.of _ [(false, [cB false])] kr rfl rfl
  · have H := bifT h1 H
    refine LAt.runU tOk 2 kr ?_
    obtain ⟨r2, er2, H⟩ := bind_some H
    refine LAt.callU tOk [.rd, .rd, .rd] (f := 65) (av := #[.tmp 8, .const (.int .i64 0), .const (.int .i64 100000)]) (ats := #[3, 3, 3]) (d := (some 9)) (ty := 4) (g := (some (3, true))) kr kr kr [] (spec_l1In n x0.Cost 0 100000 r2 er2) kr (.inl rfl) ?_
    refine LAt.runU tOk 2 kr ?_
    refine LAt.to ⟨26, 0, [sB 11 r2, sB 10 r2, sB 9 r2, sI 8 x0.Cost, sA 7 1 5 1, sB 6 true, sB 5 true, sI 4 x0.Root, sA 3 1 5 0, sB 2 false, sA 1 1 5 0], [(1, (Vec.row x0))]⟩ kr ?_
    cases h2 : r2
    · have H := bifF h2 H
      refine LAt.runU tOk 15 kr ?_
      refine LAt.doneM 4 0 kr ?_
      refine Tr.ret ?_
      have H := Option.some.inj H
      subst H
      exact Fin.of _ [(false, [cB false])] kr rfl rfl
    · have H := bifT h2 H
      refine LAt.runU tOk 2 kr ?_
      obtain ⟨r3, er3, H⟩ := bind_some H
      refine LAt.callU tOk [.rd, .rd, .rd] (f := 65) (av := #[.tmp 13, .const (.int .i64 0), .const (.int .i64 10)]) (ats := #[3, 3, 3]) (d := (some 14)) (ty := 4) (g := (some (8, true))) kr kr kr [] (spec_l1In n x0.Hops 0 10 r3 er3) kr (.inl rfl) ?_
      refine LAt.runU tOk 2 kr ?_
      refine LAt.to ⟨26, 0, [sB 16 r3, sB 15 r3, sB 14 r3, sI 13 x0.Hops, sA 12 1 5 2, sB 11 true, sB 10 true, sB 9 true, sI 8 x0.Cost, sA 7 1 5 1, sB 6 true, sB 5 true, sI 4 x0.Root, sA 3 1 5 0, sB 2 false, sA 1 1 5 0], [(1, (Vec.row x0))]⟩ kr ?_
      cases h3 : r3
      · have H := bifF h3 H
        refine LAt.runU tOk 10 kr ?_
        refine LAt.doneM 4 0 kr ?_
        refine Tr.ret ?_
        have H := Option.some.inj H
        subst H
        exact Fin.of _ [(false, [cB false])] kr rfl rfl
      · have H := bifT h3 H
        refine LAt.runU tOk 2 kr ?_
        obtain ⟨r4, er4, H⟩ := bind_some H
        refine LAt.callU tOk [.rd, .rd, .rd] (f := 65) (av := #[.tmp 18, .const (.int .i64 1), .const (.int .i64 99)]) (ats := #[3, 3, 3]) (d := (some 19)) (ty := 4) (g := (some (13, true))) kr kr kr [] (spec_l1In n x0.Bridge 1 99 r4 er4) kr (.inl rfl) ?_
        refine LAt.runU tOk 2 kr ?_
        refine LAt.to ⟨26, 0, [sB 21 r4, sB 20 r4, sB 19 r4, sI 18 x0.Bridge, sA 17 1 5 3, sB 16 true, sB 15 true, sB 14 true, sI 13 x0.Hops, sA 12 1 5 2, sB 11 true, sB 10 true, sB 9 true, sI 8 x0.Cost, sA 7 1 5 1, sB 6 true, sB 5 true, sI 4 x0.Root, sA 3 1 5 0, sB 2 false, sA 1 1 5 0], [(1, (Vec.row x0))]⟩ kr ?_
        cases h4 : r4
        · have H := bifF h4 H
          refine LAt.runU tOk 5 kr ?_
          refine LAt.doneM 4 0 kr ?_
          refine Tr.ret ?_
          have H := Option.some.inj H
          subst H
          exact Fin.of _ [(false, [cB false])] kr rfl rfl
        · have H := bifT h4 H
          refine LAt.runU tOk 2 kr ?_
          obtain ⟨r5, er5, H⟩ := bind_some H
          refine LAt.callU tOk [.rd, .rd, .rd] (f := 65) (av := #[.tmp 23, .const (.int .i64 0), .const (.int .i64 7)]) (ats := #[3, 3, 3]) (d := (some 24)) (ty := 4) (g := (some (18, true))) kr kr kr [] (spec_l1In n x0.Port 0 7 r5 er5) kr (.inl rfl) ?_
          refine LAt.runU tOk 2 kr ?_
          refine LAt.doneM 4 0 kr ?_
          refine Tr.ret ?_
          have H := Option.some.inj H
          subst H
          exact Fin.of _ [(false, [cB r5])] kr rfl rfl

def spec_PtOkF (n : Nat) (x0 : Pt) : Option (Bool) :=
  ((spec_l1InF n x0.Cost 1 1000).bind fun r1 => (bif (!r1) then (some false) else (bif (!x0.Up) then (bif x0.Has then (some false) else (some ((x0.Heard.Root == 0) && ((x0.Heard.Cost == 0) && ((x0.Heard.Hops == 0) && ((x0.Heard.Bridge == 0) && ((x0.Heard.Port == 0) && true))))))) else (bif (!x0.Has) then (some ((x0.Heard.Root == 0) && ((x0.Heard.Cost == 0) && ((x0.Heard.Hops == 0) && ((x0.Heard.Bridge == 0) && ((x0.Heard.Port == 0) && true)))))) else ((spec_VecOkF n x0.Heard).bind fun r2 => (some r2))))))
/-- loop.example/g00326/spec.PtOk -/
theorem spec_PtOk (n : Nat) (x0 : Pt) (r : Bool) (H : spec_PtOkF n x0 = some r) : LCall Try.prog 165 [.val true (CV.frzRow (Pt.row x0))] [.val false [.lit (.bool r)]] [] := by
  refine LCall.of_body tOk Try.func165 rfl (c := (.seq (.region 0 (rg Try.f165 0) false) (.seq (.seq (.region 1 (rg Try.f165 1) false) (.cond (.tmp 15) (.seq (.region 2 (rg Try.f165 2) false) .ret) .skip)) (.seq (.seq (.region 3 (rg Try.f165 3) false) (.cond (.tmp 18) (.seq (.region 4 (rg Try.f165 4) false) .ret) .skip)) (.seq (.region 5 (rg Try.f165 5) false) .ret))))) kr (Nat.le_of_ble_eq_true kr) 0 (rs := [.tmp 2]) rfl [] .nil [(false, [.lit (.bool r)])] [] [] fun cx => ?_
  show Tr _ _ _ ⟨26, 0, [sV 0 (Pt.row x0)], []⟩ _
  unfold spec_PtOkF at H
  refine Tr.rs ?_
  refine LAt.runU tOk 2 kr ?_
  refine LAt.doneM 6 2 kr ?_
  refine Tr.seq ?_
  refine Tr.rs ?_
  refine LAt.runU tOk 2 kr ?_
  obtain ⟨r1, er1, H⟩ := bind_some H
  refine LAt.callU tOk [.rd, .rd, .rd] (f := 65) (av := #[.tmp 4, .const (.int .i64 1), .const (.int .i64 1000)]) (ats := #[3, 3, 3]) (d := (some 5)) (ty := 4) (g := none) kr kr kr [] (spec_l1In n x0.Cost 1 1000 r1 er1) kr (.inl rfl) ?_
  refine LAt.runU tOk 2 kr ?_
  refine LAt.to ⟨26, 0, [sB 7 (!r1), sB 6 (!r1), sB 5 r1, sI 4 x0.Cost, sA 3 1 8 1, sB 2 false, sA 1 1 8 0], [(1, (Pt.row x0))]⟩ kr ?_
  cases h1 : (!r1)
  · have H := bifF h1 H
    refine LAt.runU tOk 4 kr ?_
    refine LAt.to ⟨26, 0, [sB 11 (!x0.Up), sB 10 (!x0.Up), sB 9 x0.Up, sA 8 1 8 0, sB 7 false, sB 6 false, sB 5 r1, sI 4 x0.Cost, sA 3 1 8 1, sB 2 false, sA 1 1 8 0], [(1, (Pt.row x0))]⟩ kr ?_
    cases h2 : (!x0.Up)
    · have H := bifF h2 H
      refine LAt.runU tOk 4 kr ?_
      refine LAt.doneM 32774 2 kr ?_
      refine Tr.cond (b := false) kr (fun h => nomatch h) (fun _ => ?_)
      refine Tr.skip ?_
      show Tr _ _ _ _ _
      refine Tr.seq ?_
      refine Tr.rs ?_
      refine LAt.runU tOk 3 kr ?_
      refine LAt.doneM 262150 2 kr ?_
      refine Tr.to ⟨26, 0, [sB 18 (!x0.Has), sB 2 false, sA 1 1 8 0], [(1, (Pt.row x0))]⟩ kr ?_
      cases h3 : (!x0.Has)
      · have H := bifF h3 H
        refine Tr.cond (b := false) kr (fun h => nomatch h) (fun _ => ?_)
        refine Tr.skip ?_
        show Tr _ _ _ _ _
        refine Tr.rs ?_
        refine LAt.runU tOk 2 kr ?_
        obtain ⟨r2, er2, H⟩ := bind_some H
        refine LAt.callU tOk [.rd] (f := 87) (av := #[.tmp 24]) (ats := #[70]) (d := (some 25)) (ty := 4) (g := none) kr kr kr [] (spec_VecOk n x0.Heard r2 er2) kr (.inl rfl) ?_
        refine LAt.runU tOk 1 kr ?_
        refine LAt.doneM 4 0 kr ?_
        refine Tr.ret ?_
        have H := Option.some.inj H
        subst H
        exact Fin.of _ [(false, [cB r2])] kr rfl rfl
      · have H := bifT h3 H
        refine Tr.cond (b := true) kr (fun _ => ?_) (fun h => nomatch h)
        refine Tr.rs ?_
        refine LAt.runU tOk 3 kr ?_
        refine LAt.eqSG false (t := 70) (ty := 70) (ty' := 4) (x := (.tmp 20)) (y := (.tmp 21)) (d := 22) (g := none) ((x0.Heard.Root == 0) && ((x0.Heard.Cost == 0) && ((x0.Heard.Hops == 0) && ((x0.Heard.Bridge == 0) && ((x0.Heard.Port == 0) && true))))) _ kr kr kr kr rfl ?_
        refine LAt.runU tOk 1 kr ?_
        refine LAt.doneM 6 2 kr ?_
        refine Tr.ret ?_
        have H := Option.some.inj H
        subst H
        exact Fin.of _ [(false, [cB ((x0.Heard.Root == 0) && ((x0.Heard.Cost == 0) && ((x0.Heard.Hops == 0) && ((x0.Heard.Bridge == 0) && ((x0.Heard.Port == 0) && true)))))])] kr rfl rfl
    · have H := bifT h2 H
      refine LAt.runU tOk 4 kr ?_
      refine LAt.doneM 32774 2 kr ?_
      refine Tr.to ⟨26, 0, [sB 15 x0.Has, sB 2 false, sA 1 1 8 0], [(1, (Pt.row x0))]⟩ kr ?_
      cases h4 : x0.Has
      · have H := bifF h4 H
        refine Tr.cond (b := false) kr (fun h => nomatch h) (fun _ => ?_)
        refine Tr.skip ?_
        show Tr _ _ _ _ _
        refine Tr.seq ?_
        refine Tr.rs ?_
        refine LAt.runU tOk 3 kr ?_
        refine LAt.doneM 262150 2 kr ?_
        refine Tr.to ⟨26, 0, [sB 18 (!x0.Has), sB 2 false, sA 1 1 8 0], [(1, (Pt.row x0))]⟩ kr ?_
        rw [h4]
        refine Tr.cond (b := true) kr (fun _ => ?_) (fun h => nomatch h)
        refine Tr.rs ?_
        refine LAt.runU tOk 3 kr ?_
        refine LAt.eqSG false (t := 70) (ty := 70) (ty' := 4) (x := (.tmp 20)) (y := (.tmp 21)) (d := 22) (g := none) ((x0.Heard.Root == 0) && ((x0.Heard.Cost == 0) && ((x0.Heard.Hops == 0) && ((x0.Heard.Bridge == 0) && ((x0.Heard.Port == 0) && true))))) _ kr kr kr kr rfl ?_
        refine LAt.runU tOk 1 kr ?_
        refine LAt.doneM 6 2 kr ?_
        refine Tr.ret ?_
        have H := Option.some.inj H
        subst H
        exact Fin.of _ [(false, [cB ((x0.Heard.Root == 0) && ((x0.Heard.Cost == 0) && ((x0.Heard.Hops == 0) && ((x0.Heard.Bridge == 0) && ((x0.Heard.Port == 0) && true)))))])] kr rfl rfl
      · have H := bifT h4 H
        refine Tr.cond (b := true) kr (fun _ => ?_) (fun h => nomatch h)
        refine Tr.rs ?_
        refine LAt.runU tOk 1 kr ?_
        refine LAt.doneM 6 2 kr ?_
        refine Tr.ret ?_
        have H := Option.some.inj H
        subst H
        exact Fin.of _ [(false, [cB false])] kr rfl rfl
  · have H := bifT h1 H
    refine LAt.runU tOk 8 kr ?_
    refine LAt.doneM 32774 2 kr ?_
    refine Tr.cond (b := true) kr (fun _ => ?_) (fun h => nomatch h)
    refine Tr.rs ?_
    refine LAt.runU tOk 1 kr ?_
    refine LAt.doneM 6 2 kr ?_
    refine Tr.ret ?_
    have H := Option.some.inj H
    subst H
    exact Fin.of _ [(false, [cB false])] kr rfl rfl

def spec_l8EntF (n : Nat) (x0 : Fent) : Option (Bool) :=
  ((spec_l1InF n x0.Tag 1 99).bind fun r1 => (bif r1 then ((spec_l1InF n x0.Mac 1 9999).bind fun r2 => (bif r2 then ((spec_l1InF n x0.Port 0 7).bind fun r3 => (bif r3 then ((spec_l1InF n x0.Age 0 4).bind fun r4 => (bif r4 then (bif (!x0.Static) then (some true) else (some (x0.Age == 0))) else (some false))) else (some false))) else (some false))) else (some false)))
/-- loop.example/g00326/spec.l8Ent -/
theorem spec_l8Ent (n : Nat) (x0 : Fent) (r : Bool) (H : spec_l8EntF n x0 = some r) : LCall Try.prog 182 [.val true (CV.frzRow (Fent.row x0))] [.val false [.lit (.bool r)]] [] := by
  refine LCall.of_body tOk Try.func182 rfl (c := (.seq (.region 0 (rg Try.f182 0) false) (.seq (.region 1 (rg Try.f182 1) false) .ret))) kr (Nat.le_of_ble_eq_true kr) 0 (rs := [.tmp 2]) rfl [] .nil [(false, [.lit (.bool r)])] [] [] fun cx => ?_
  show Tr _ _ _ ⟨31, 0, [sV 0 (Fent.row x0)], []⟩ _
  unfold spec_l8EntF at H
  refine Tr.rs ?_
  refine LAt.runU tOk 2 kr ?_
  refine LAt.doneM 6 2 kr ?_
  refine Tr.rs ?_
  refine LAt.runU tOk 2 kr ?_
  obtain ⟨r1, er1, H⟩ := bind_some H
  refine LAt.callU tOk [.rd, .rd, .rd] (f := 65) (av := #[.tmp 4, .const (.int .i64 1), .const (.int .i64 99)]) (ats := #[3, 3, 3]) (d := (some 5)) (ty := 4) (g := none) kr kr kr [] (spec_l1In n x0.Tag 1 99 r1 er1) kr (.inl rfl) ?_
  refine LAt.runU tOk 1 kr ?_
  refine LAt.to ⟨31, 0, [sB 6 r1, sB 5 r1, sI 4 x0.Tag, sA 3 1 5 0, sB 2 false, sA 1 1 5 0], [(1, (Fent.row x0))]⟩ kr ?_
  cases h1 : r1
  · have H := bifF h1 H
    refine LAt.runU tOk 25 kr ?_
    refine LAt.doneM 4 0 kr ?_
    refine Tr.ret ?_
    have H := Option.some.inj H
    subst H
    exact Fin.of _ [(false, [cB false])] kr rfl rfl
  · have H := bifT h1 H
    refine LAt.runU tOk 2 kr ?_
    obtain ⟨r2, er2, H⟩ := bind_some H
    refine LAt.callU tOk [.rd, .rd, .rd] (f := 65) (av := #[.tmp 8, .const (.int .i64 1), .const (.int .i64 9999)]) (ats := #[3, 3, 3]) (d := (some 9)) (ty := 4) (g := (some (3, true))) kr kr kr [] (spec_l1In n x0.Mac 1 9999 r2 er2) kr (.inl rfl) ?_
    refine LAt.runU tOk 2 kr ?_
    refine LAt.to ⟨31, 0, [sB 11 r2, sB 10 r2, sB 9 r2, sI 8 x0.Mac, sA 7 1 5 1, sB 6 true, sB 5 true, sI 4 x0.Tag, sA 3 1 5 0, sB 2 false, sA 1 1 5 0], [(1, (Fent.row x0))]⟩ kr ?_
    cases h2 : r2
    · have H := bifF h2 H
      refine LAt.runU tOk 20 kr ?_
      refine LAt.doneM 4 0 kr ?_
      refine Tr.ret ?_
      have H := Option.some.inj H
      subst H
      exact Fin.of _ [(false, [cB false])] kr rfl rfl
    · have H := bifT h2 H
      refine LAt.runU tOk 2 kr ?_
      obtain ⟨r3, er3, H⟩ := bind_some H
      refine LAt.callU tOk [.rd, .rd, .rd] (f := 65) (av := #[.tmp 13, .const (.int .i64 0), .const (.int .i64 7)]) (ats := #[3, 3, 3]) (d := (some 14)) (ty := 4) (g := (some (8, true))) kr kr kr [] (spec_l1In n x0.Port 0 7 r3 er3) kr (.inl rfl) ?_
      refine LAt.runU tOk 2 kr ?_
      refine LAt.to ⟨31, 0, [sB 16 r3, sB 15 r3, sB 14 r3, sI 13 x0.Port, sA 12 1 5 2, sB 11 true, sB 10 true, sB 9 true, sI 8 x0.Mac, sA 7 1 5 1, sB 6 true, sB 5 true, sI 4 x0.Tag, sA 3 1 5 0, sB 2 false, sA 1 1 5 0], [(1, (Fent.row x0))]⟩ kr ?_
      cases h3 : r3
      · have H := bifF h3 H
        refine LAt.runU tOk 15 kr ?_
        refine LAt.doneM 4 0 kr ?_
        refine Tr.ret ?_
        have H := Option.some.inj H
        subst H
        exact Fin.of _ [(false, [cB false])] kr rfl rfl
      · have H := bifT h3 H
        refine LAt.runU tOk 2 kr ?_
        obtain ⟨r4, er4, H⟩ := bind_some H
        refine LAt.callU tOk [.rd, .rd, .rd] (f := 65) (av := #[.tmp 18, .const (.int .i64 0), .const (.int .i64 4)]) (ats := #[3, 3, 3]) (d := (some 19)) (ty := 4) (g := (some (13, true))) kr kr kr [] (spec_l1In n x0.Age 0 4 r4 er4) kr (.inl rfl) ?_
        refine LAt.runU tOk 2 kr ?_
        refine LAt.to ⟨31, 0, [sB 21 r4, sB 20 r4, sB 19 r4, sI 18 x0.Age, sA 17 1 5 3, sB 16 true, sB 15 true, sB 14 true, sI 13 x0.Port, sA 12 1 5 2, sB 11 true, sB 10 true, sB 9 true, sI 8 x0.Mac, sA 7 1 5 1, sB 6 true, sB 5 true, sI 4 x0.Tag, sA 3 1 5 0, sB 2 false, sA 1 1 5 0], [(1, (Fent.row x0))]⟩ kr ?_
        cases h4 : r4
        · have H := bifF h4 H
          refine LAt.runU tOk 10 kr ?_
          refine LAt.doneM 4 0 kr ?_
          refine Tr.ret ?_
          have H := Option.some.inj H
          subst H
          exact Fin.of _ [(false, [cB false])] kr rfl rfl
        · have H := bifT h4 H
          refine LAt.runU tOk 4 kr ?_
          refine LAt.to ⟨31, 0, [sB 25 (!x0.Static), sB 24 (!x0.Static), sB 23 x0.Static, sA 22 1 5 4, sB 21 true, sB 20 true, sB 19 true, sI 18 x0.Age, sA 17 1 5 3, sB 16 true, sB 15 true, sB 14 true, sI 13 x0.Port, sA 12 1 5 2, sB 11 true, sB 10 true, sB 9 true, sI 8 x0.Mac, sA 7 1 5 1, sB 6 true, sB 5 true, sI 4 x0.Tag, sA 3 1 5 0, sB 2 false, sA 1 1 5 0], [(1, (Fent.row x0))]⟩ kr ?_
          cases h5 : (!x0.Static)
          · have H := bifF h5 H
            refine LAt.runU tOk 6 kr ?_
            refine LAt.doneM 4 0 kr ?_
            refine Tr.ret ?_
            have H := Option.some.inj H
            subst H
            exact Fin.of _ [(false, [cB (x0.Age == 0)])] kr rfl rfl
          · have H := bifT h5 H
            refine LAt.runU tOk 6 kr ?_
            refine LAt.doneM 4 0 kr ?_
            refine Tr.ret ?_
            have H := Option.some.inj H
            subst H
            exact Fin.of _ [(false, [cB true])] kr rfl rfl

def spec_l8AheadF (n : Nat) (x0 : Fent) (x1 : Int) (x2 : Int) : Option (Bool) :=
  (bif (x0.Tag != x1) then (some (decide (x0.Tag < x1))) else (some (decide (x0.Mac < x2))))
/-- loop.example/g00326/spec.l8Ahead -/
theorem spec_l8Ahead (n : Nat) (x0 : Fent) (x1 : Int) (x2 : Int) (r : Bool) (H : spec_l8AheadF n x0 x1 x2 = some r) : LCall Try.prog 183 [.val true (CV.frzRow (Fent.row x0)), .val false [.lit (.int .i64 x1)], .val false [.lit (.int .i64 x2)]] [.val false [.lit (.bool r)]] [] := by
  refine LCall.of_body tOk Try.func183 rfl (c := (.seq (.region 0 (rg Try.f183 0) false) (.seq (.seq (.region 1 (rg Try.f183 1) false) (.cond (.tmp 10) (.seq (.region 2 (rg Try.f183 2) false) .ret) .skip)) (.seq (.region 3 (rg Try.f183 3) false) .ret)))) kr (Nat.le_of_ble_eq_true kr) 0 (rs := [.tmp 6]) rfl [] .nil [(false, [.lit (.bool r)])] [] [] fun cx => ?_
  show Tr _ _ _ ⟨19, 0, [sV 0 (Fent.row x0), sI 1 x1, sI 2 x2], []⟩ _
  unfold spec_l8AheadF at H
  refine Tr.rs ?_
  refine LAt.runU tOk 2 kr ?_
  refine LAt.doneM 78 8 kr ?_
  refine Tr.seq ?_
  refine Tr.rs ?_
  refine LAt.runU tOk 4 kr ?_
  refine LAt.doneM 1102 8 kr ?_
  refine Tr.to ⟨19, 0, [sB 10 (x0.Tag != x1), sB 6 false, sA 3 3 5 0, sI 1 x1, sI 2 x2], [(3, (Fent.row x0))]⟩ kr ?_
  cases h1 : (x0.Tag != x1)
  · have H := bifF h1 H
    refine Tr.cond (b := false) kr (fun h => nomatch h) (fun _ => ?_)
    refine Tr.skip ?_
    show Tr _ _ _ _ _
    refine Tr.rs ?_
    refine LAt.runU tOk 5 kr ?_
    refine LAt.doneM 64 0 kr ?_
    refine Tr.ret ?_
    have H := Option.some.inj H
    subst H
    exact Fin.of _ [(false, [cB (decide (x0.Mac < x2))])] kr rfl rfl
  · have H := bifT h1 H
    refine Tr.cond (b := true) kr (fun _ => ?_) (fun h => nomatch h)
    refine Tr.rs ?_
    refine LAt.runU tOk 5 kr ?_
    refine LAt.doneM 76 8 kr ?_
    refine Tr.ret ?_
    have H := Option.some.inj H
    subst H
    exact Fin.of _ [(false, [cB (decide (x0.Tag < x1))])] kr rfl rfl

def spec_FdbOk_J1 (n : Nat) (x0 : (List Fent)) : Option (Bool) :=
  (some (decide ((x0.length : Int) ≤ 12)))
def spec_FdbOk_L2 (n : Nat) : Nat → (List Fent) → Int → Option ((Unit) ⊕ (Bool))
  | 0, _, _ => none
  | mo2 + 1, x0, y1 => (bif (decide (y1 < (x0.length : Int))) then ((idx x0 y1).bind fun v3 => ((spec_l8EntF n v3).bind fun r4 => (bif (!r4) then (some (Sum.inr false)) else (bif (decide (y1 > 0)) then ((idx x0 (IntKind.wrap .i64 (y1 - 1))).bind fun v5 => ((idx x0 y1).bind fun v6 => ((idx x0 y1).bind fun v7 => ((spec_l8AheadF n v5 v6.Tag v7.Mac).bind fun r8 => (bif (!r8) then (some (Sum.inr false)) else (spec_FdbOk_L2 n mo2 x0 (IntKind.wrap .i64 (y1 + 1)))))))) else (spec_FdbOk_L2 n mo2 x0 (IntKind.wrap .i64 (y1 + 1))))))) else (some (Sum.inl ())))
def spec_FdbOkF (n : Nat) (x0 : (List Fent)) : Option (Bool) :=
  ((spec_FdbOk_L2 n n x0 0).bind fun o => match o with | .inl _ => (spec_FdbOk_J1 n x0) | .inr r => some r)
/-- loop.example/g00326/spec.FdbOk -/
theorem spec_FdbOk (n : Nat) (x0 : (List Fent)) (r : Bool) (H : spec_FdbOkF n x0 = some r) : LCall Try.prog 166 [.val false [.sl false 5 (CV.frzEs (x0.map Fent.row))]] [.val false [.lit (.bool r)]] [] := by
  refine LCall.of_body tOk Try.func166 rfl (c := (.seq (.region 0 (rg Try.f166 0) false) (.seq (.seq (.region 1 (rg Try.f166 1) false) (.block 0 (.loop (.seq (.seq (.region 2 (rg Try.f166 2) false) (.cond (.tmp 7) .skip (.exit 0))) (.seq (.block 1 (.seq (.region 4 (rg Try.f166 4) true) (.cond (.tmp 38) (.seq (.region 5 (rg Try.f166 5) false) .ret) .skip))) (.region 3 (rg Try.f166 3) false)))))) (.seq (.region 6 (rg Try.f166 6) false) .ret)))) kr (Nat.le_of_ble_eq_true kr) 0 (rs := [.tmp 2]) rfl [] .nil [(false, [.lit (.bool r)])] [] [] fun cx => ?_
  show Tr _ _ _ ⟨42, 0, [sC 0 (cF 5 x0 Fent.row)], []⟩ _
  unfold spec_FdbOkF at H
  refine Tr.rs ?_
  refine LAt.runU tOk 1 kr ?_
  refine LAt.doneM 5 0 kr ?_
  refine Tr.seq ?_
  refine Tr.rs ?_
  refine LAt.runU tOk 1 kr ?_
  refine LAt.doneM 13 0 kr ?_
  obtain ⟨o2, eo2, Ho2⟩ := bind_some H
  clear H
  refine Tr.mid (ι := Unit) (fun v => ⟨42, 0, [sB 2 false, sC 0 (cF 5 x0 Fent.row)], []⟩) (fun v => spec_FdbOk_J1 n x0 = some r) ?_ ?_
  · refine Tr.block ?_
    refine Tr.loop (ι := Nat × (Int)) (fun v => ⟨42, 0, [sI 3 v.2, sB 2 false, sC 0 (cF 5 x0 Fent.row)], []⟩) (fun v => spec_FdbOk_L2 n v.1 x0 v.2 = some o2) (fun v => v.1) (n, 0) eo2 (St.sub_of [3, 2, 0] [] kr) ?_
    rintro ⟨mo2, y1⟩ H
    have H : spec_FdbOk_L2 n mo2 x0 y1 = some o2 := H
    obtain _ | mo2 := mo2
    · cases (show (none : Option _) = some o2 from H)
    · rw [spec_FdbOk_L2] at H
      refine Tr.seq ?_
      refine Tr.rs ?_
      refine LAt.runU tOk 2 kr ?_
      refine LAt.lenE tOk (t := 56) (ty := 3) (e := 141) (x := (.tmp 5)) (d := 6) (g := none) ⟨(.slot 5), [], 0, false, 5, (CV.frzEs (x0.map Fent.row))⟩ (x0).length _ kr kr kr kr kr (frz_len _ _) rfl ?_
      refine LAt.runU tOk 1 kr ?_
      refine LAt.doneM 253 0 kr ?_
      refine Tr.to ⟨42, 0, [sB 7 (decide (y1 < (x0.length : Int))), sI 6 (x0.length : Int), sC 5 (cF 5 x0 Fent.row), sI 4 y1, sI 3 y1, sB 2 false, sC 0 (cF 5 x0 Fent.row)], []⟩ kr ?_
      cases h1 : (decide (y1 < (x0.length : Int)))
      · have H := bifF h1 H
        refine Tr.cond (b := false) kr (fun h => nomatch h) (fun _ => ?_)
        refine Tr.exit ?_
        refine And.intro (fun _ => ?_) (fun h => absurd rfl h)
        have H := Option.some.inj H
        subst H
        have H := Ho2
        dsimp only at H
        exact Exists.intro () (And.intro H (St.sub_of [2, 0] [] kr))
      · have H := bifT h1 H
        refine Tr.cond (b := true) kr (fun _ => ?_) (fun h => nomatch h)
        refine Tr.skip ?_
        show Tr _ _ _ _ _
        refine Tr.seq ?_
        refine Tr.block ?_
        obtain ⟨v3, ev3, H⟩ := bind_some H
        obtain ⟨r4, er4, H⟩ := bind_some H
        refine Tr.to ⟨42, 0, [sB 7 true, sI 6 (x0.length : Int), sC 5 (cF 5 x0 Fent.row), sI 4 y1, sI 3 y1, sB 2 false, sC 0 (cF 5 x0 Fent.row)], []⟩ kr ?_
        cases h2 : (!r4)
        · have H := bifF h2 H
          refine Tr.to ⟨42, 0, [sB 7 true, sI 6 (x0.length : Int), sC 5 (cF 5 x0 Fent.row), sI 4 y1, sI 3 y1, sB 2 false, sC 0 (cF 5 x0 Fent.row)], []⟩ kr ?_
          cases h3 : (decide (y1 > 0))
          · have H := bifF h3 H
            refine Tr.draws mixed 29 kr ⟨42, 0, [sB 38 false, sB 37 false, (36, .tup []), (35, .tup []), (34, .tup []), (33, .tup []), (32, .tup []), (31, .tup []), (30, .tup []), (29, .tup []), (28, .tup []), (27, .tup []), (26, .tup []), (25, .tup []), (24, .tup []), (23, .tup []), (22, .tup []), (21, .tup []), (20, .tup []), sB 19 false, sB 18 false, sI 17 y1, sB 16 false, sB 15 false, sB 14 r4, sV 13 (Fent.row v3), (12, .fad ((Fent.row v3))), sI 11 y1, sC 10 (cF 5 x0 Fent.row), sB 7 true, sI 6 (x0.length : Int), sC 5 (cF 5 x0 Fent.row), sI 4 y1, sI 3 y1, sB 2 false, sC 0 (cF 5 x0 Fent.row)], []⟩ (fun cx => ?_) ?_
            · refine AT.runU tOk [(0, []), (1, [])] 27 [] [1, 0] rfl kr (fun cx => ?_)
              refine AT.indexF tOk 2 (t := 56) (ty := 0) (x := (.tmp 10)) (y := (.tmp 11)) (d := 12) (g := none) ⟨(.slot 10), [], 0, false, 5, (CV.frzEs (x0.map Fent.row))⟩ y1 (Fent.row v3) _ kr kr kr kr kr kr rfl (idx_isF ev3) rfl (fun cx => ?_)
              refine AT.runU tOk [(3, [])] 25 [] [3, 2, 1, 0] rfl kr (fun cx => ?_)
              refine AT.big1 tOk 4 kr kr ?_
              refine LAt.callU tOk [.rd] (f := 182) (av := #[.tmp 13]) (ats := #[141]) (d := (some 14)) (ty := 4) (g := none) kr kr kr [] (spec_l8Ent n v3 r4 er4) kr (.inl rfl) ?_
              refine LAt.fin kr (And.intro (And.intro kr kr) ?_)
              refine AT.runU tOk [(5, []), (6, [])] 22 [] [6, 5, 4, 3, 2, 1, 0] rfl kr (fun cx => ?_)
              refine AT.to ⟨42, 0, [sB 16 (!r4), sB 15 (!r4), sB 14 r4, sV 13 (Fent.row v3), (12, .fad ((Fent.row v3))), sI 11 y1, sC 10 (cF 5 x0 Fent.row), sB 7 true, sI 6 (x0.length : Int), sC 5 (cF 5 x0 Fent.row), sI 4 y1, sI 3 y1, sB 2 false, sC 0 (cF 5 x0 Fent.row)], []⟩ kr ?_
              rw [h2]
              refine AT.runU tOk [(7, []), (8, []), (9, [])] 19 [] [9, 8, 7, 6, 5, 4, 3, 2, 1, 0] rfl kr (fun cx => ?_)
              refine AT.to ⟨42, 0, [sB 19 (decide (y1 > 0)), sB 18 (decide (y1 > 0)), sI 17 y1, sB 16 false, sB 15 false, sB 14 r4, sV 13 (Fent.row v3), (12, .fad ((Fent.row v3))), sI 11 y1, sC 10 (cF 5 x0 Fent.row), sB 7 true, sI 6 (x0.length : Int), sC 5 (cF 5 x0 Fent.row), sI 4 y1, sI 3 y1, sB 2 false, sC 0 (cF 5 x0 Fent.row)], []⟩ kr ?_
              rw [h3]
              refine AT.runU tOk [(10, []), (11, []), (12, []), (13, []), (14, []), (15, []), (16, []), (17, []), (18, []), (19, []), (20, []), (21, []), (22, []), (23, []), (24, []), (25, []), (26, []), (27, []), (28, [])] 0 [] [28, 27, 26, 25, 24, 23, 22, 21, 20, 19, 18, 17, 16, 15, 14, 13, 12, 11, 10, 9, 8, 7, 6, 5, 4, 3, 2, 1, 0] rfl kr (fun cx => ?_)
              exact AT.done [38, 37, 36, 35, 34, 33, 32, 31, 30, 29, 28, 27, 26, 25, 24, 23, 22, 21, 20, 19, 18, 17, 16, 15, 14, 13, 12, 11, 10, 7, 6, 5, 4, 3, 2, 0] [] _ kr kr rfl
            · refine Tr.cond (b := false) kr (fun h => nomatch h) (fun _ => ?_)
              refine Tr.skip ?_
              show Tr _ _ _ _ _
              refine Tr.at ?_
              refine LAt.runU tOk 3 kr ?_
              refine LAt.doneM 549755813885 0 kr ?_
              exact Exists.intro (mo2, (IntKind.wrap .i64 (y1 + 1))) (And.intro H (And.intro (Nat.lt_succ_self mo2) (St.sub_of [3, 2, 0] [] kr)))
          · have H := bifT h3 H
            obtain ⟨v5, ev5, H⟩ := bind_some H
            obtain ⟨v6, ev6, H⟩ := bind_some H
            obtain ⟨v7, ev7, H⟩ := bind_some H
            obtain ⟨r8, er8, H⟩ := bind_some H
            refine Tr.draws mixed 29 kr ⟨42, 0, [sB 38 (!r8), sB 37 (!r8), sB 36 (!r8), sB 35 r8, sI 34 v7.Mac, (33, .fad (((Fent.row v7).drop 1))), (32, .fad ((Fent.row v7))), sI 31 y1, sC 30 (cF 5 x0 Fent.row), sI 29 v6.Tag, (28, .fad ((Fent.row v6))), (27, .fad ((Fent.row v6))), sI 26 y1, sC 25 (cF 5 x0 Fent.row), sV 24 (Fent.row v5), (23, .fad ((Fent.row v5))), sI 22 (IntKind.wrap .i64 (y1 - 1)), sI 21 y1, sC 20 (cF 5 x0 Fent.row), sB 19 true, sB 18 true, sI 17 y1, sB 16 false, sB 15 false, sB 14 r4, sV 13 (Fent.row v3), (12, .fad ((Fent.row v3))), sI 11 y1, sC 10 (cF 5 x0 Fent.row), sB 7 true, sI 6 (x0.length : Int), sC 5 (cF 5 x0 Fent.row), sI 4 y1, sI 3 y1, sB 2 false, sC 0 (cF 5 x0 Fent.row)], []⟩ (fun cx => ?_) ?_
            · refine AT.runU tOk [(0, []), (1, [])] 27 [] [1, 0] rfl kr (fun cx => ?_)
              refine AT.indexF tOk 2 (t := 56) (ty := 0) (x := (.tmp 10)) (y := (.tmp 11)) (d := 12) (g := none) ⟨(.slot 10), [], 0, false, 5, (CV.frzEs (x0.map Fent.row))⟩ y1 (Fent.row v3) _ kr kr kr kr kr kr rfl (idx_isF ev3) rfl (fun cx => ?_)
              refine AT.runU tOk [(3, [])] 25 [] [3, 2, 1, 0] rfl kr (fun cx => ?_)
              refine AT.big1 tOk 4 kr kr ?_
              refine LAt.callU tOk [.rd] (f := 182) (av := #[.tmp 13]) (ats := #[141]) (d := (some 14)) (ty := 4) (g := none) kr kr kr [] (spec_l8Ent n v3 r4 er4) kr (.inl rfl) ?_
              refine LAt.fin kr (And.intro (And.intro kr kr) ?_)
              refine AT.runU tOk [(5, []), (6, [])] 22 [] [6, 5, 4, 3, 2, 1, 0] rfl kr (fun cx => ?_)
              refine AT.to ⟨42, 0, [sB 16 (!r4), sB 15 (!r4), sB 14 r4, sV 13 (Fent.row v3), (12, .fad ((Fent.row v3))), sI 11 y1, sC 10 (cF 5 x0 Fent.row), sB 7 true, sI 6 (x0.length : Int), sC 5 (cF 5 x0 Fent.row), sI 4 y1, sI 3 y1, sB 2 false, sC 0 (cF 5 x0 Fent.row)], []⟩ kr ?_
              rw [h2]
              refine AT.runU tOk [(7, []), (8, []), (9, [])] 19 [] [9, 8, 7, 6, 5, 4, 3, 2, 1, 0] rfl kr (fun cx => ?_)
              refine AT.to ⟨42, 0, [sB 19 (decide (y1 > 0)), sB 18 (decide (y1 > 0)), sI 17 y1, sB 16 false, sB 15 false, sB 14 r4, sV 13 (Fent.row v3), (12, .fad ((Fent.row v3))), sI 11 y1, sC 10 (cF 5 x0 Fent.row), sB 7 true, sI 6 (x0.length : Int), sC 5 (cF 5 x0 Fent.row), sI 4 y1, sI 3 y1, sB 2 false, sC 0 (cF 5 x0 Fent.row)], []⟩ kr ?_
              rw [h3]
              refine AT.runU tOk [(10, []), (11, []), (12, [])] 16 [] [12, 11, 10, 9, 8, 7, 6, 5, 4, 3, 2, 1, 0] rfl kr (fun cx => ?_)
              refine AT.indexF tOk 13 (t := 56) (ty := 0) (x := (.tmp 20)) (y := (.tmp 22)) (d := 23) (g := (some (9, true))) ⟨(.slot 20), [], 0, false, 5, (CV.frzEs (x0.map Fent.row))⟩ (IntKind.wrap .i64 (y1 - 1)) (Fent.row v5) _ kr kr kr kr kr kr rfl (idx_isF ev5) rfl (fun cx => ?_)
              refine AT.runU tOk [(14, []), (15, []), (16, [])] 12 [] [16, 15, 14, 13, 12, 11, 10, 9, 8, 7, 6, 5, 4, 3, 2, 1, 0] rfl kr (fun cx => ?_)
              refine AT.indexF tOk 17 (t := 56) (ty := 0) (x := (.tmp 25)) (y := (.tmp 26)) (d := 27) (g := (some (9, true))) ⟨(.slot 25), [], 0, false, 5, (CV.frzEs (x0.map Fent.row))⟩ y1 (Fent.row v6) _ kr kr kr kr kr kr rfl (idx_isF ev6) rfl (fun cx => ?_)
              refine AT.runU tOk [(18, []), (19, []), (20, []), (21, [])] 7 [] [21, 20, 19, 18, 17, 16, 15, 14, 13, 12, 11, 10, 9, 8, 7, 6, 5, 4, 3, 2, 1, 0] rfl kr (fun cx => ?_)
              refine AT.indexF tOk 22 (t := 56) (ty := 0) (x := (.tmp 30)) (y := (.tmp 31)) (d := 32) (g := (some (9, true))) ⟨(.slot 30), [], 0, false, 5, (CV.frzEs (x0.map Fent.row))⟩ y1 (Fent.row v7) _ kr kr kr kr kr kr rfl (idx_isF ev7) rfl (fun cx => ?_)
              refine AT.runU tOk [(23, []), (24, [])] 4 [] [24, 23, 22, 21, 20, 19, 18, 17, 16, 15, 14, 13, 12, 11, 10, 9, 8, 7, 6, 5, 4, 3, 2, 1, 0] rfl kr (fun cx => ?_)
              refine AT.big1 tOk 25 kr kr ?_
              refine LAt.callU tOk [.rd, .rd, .rd] (f := 183) (av := #[.tmp 24, .tmp 29, .tmp 34]) (ats := #[141, 3, 3]) (d := (some 35)) (ty := 4) (g := (some (9, true))) kr kr kr [] (spec_l8Ahead n v5 v6.Tag v7.Mac r8 er8) kr (.inl rfl) ?_
              refine LAt.fin kr (And.intro (And.intro kr kr) ?_)
              refine AT.runU tOk [(26, []), (27, []), (28, [])] 0 [] [28, 27, 26, 25, 24, 23, 22, 21, 20, 19, 18, 17, 16, 15, 14, 13, 12, 11, 10, 9, 8, 7, 6, 5, 4, 3, 2, 1, 0] rfl kr (fun cx => ?_)
              exact AT.done [38, 37, 36, 35, 34, 33, 32, 31, 30, 29, 28, 27, 26, 25, 24, 23, 22, 21, 20, 19, 18, 17, 16, 15, 14, 13, 12, 11, 10, 7, 6, 5, 4, 3, 2, 0] [] _ kr kr rfl
            · refine Tr.to ⟨42, 0, [sB 38 (!r8), sB 37 (!r8), sB 36 (!r8), sB 35 r8, sI 34 v7.Mac, (33, .fad (((Fent.row v7).drop 1))), (32, .fad ((Fent.row v7))), sI 31 y1, sC 30 (cF 5 x0 Fent.row), sI 29 v6.Tag, (28, .fad ((Fent.row v6))), (27, .fad ((Fent.row v6))), sI 26 y1, sC 25 (cF 5 x0 Fent.row), sV 24 (Fent.row v5), (23, .fad ((Fent.row v5))), sI 22 (IntKind.wrap .i64 (y1 - 1)), sI 21 y1, sC 20 (cF 5 x0 Fent.row), sB 19 true, sB 18 true, sI 17 y1, sB 16 false, sB 15 false, sB 14 r4, sV 13 (Fent.row v3), (12, .fad ((Fent.row v3))), sI 11 y1, sC 10 (cF 5 x0 Fent.row), sB 7 true, sI 6 (x0.length : Int), sC 5 (cF 5 x0 Fent.row), sI 4 y1, sI 3 y1, sB 2 false, sC 0 (cF 5 x0 Fent.row)], []⟩ kr ?_
              cases h4 : (!r8)
              · have H := bifF h4 H
                refine Tr.cond (b := false) kr (fun h => nomatch h) (fun _ => ?_)
                refine Tr.skip ?_
                show Tr _ _ _ _ _
                refine Tr.at ?_
                refine LAt.runU tOk 3 kr ?_
                refine LAt.doneM 549755813885 0 kr ?_
                exact Exists.intro (mo2, (IntKind.wrap .i64 (y1 + 1))) (And.intro H (And.intro (Nat.lt_succ_self mo2) (St.sub_of [3, 2, 0] [] kr)))
              · have H := bifT h4 H
                refine Tr.cond (b := true) kr (fun _ => ?_) (fun h => nomatch h)
                refine Tr.rs ?_
                refine LAt.runU tOk 1 kr ?_
                refine LAt.doneM 549755813117 0 kr ?_
                refine Tr.ret ?_
                have H := Option.some.inj H
                subst H
                have H := Ho2
                dsimp only at H
                have H := Option.some.inj H
                subst H
                exact Fin.of _ [(false, [cB false])] kr rfl rfl
        · have H := bifT h2 H
          refine Tr.draws mixed 29 kr ⟨42, 0, [sB 38 true, (37, .tup []), (36, .tup []), (35, .tup []), (34, .tup []), (33, .tup []), (32, .tup []), (31, .tup []), (30, .tup []), (29, .tup []), (28, .tup []), (27, .tup []), (26, .tup []), (25, .tup []), (24, .tup []), (23, .tup []), (22, .tup []), (21, .tup []), (20, .tup []), (19, .tup []), (18, .tup []), (17, .tup []), sB 16 true, sB 15 true, sB 14 r4, sV 13 (Fent.row v3), (12, .fad ((Fent.row v3))), sI 11 y1, sC 10 (cF 5 x0 Fent.row), sB 7 true, sI 6 (x0.length : Int), sC 5 (cF 5 x0 Fent.row), sI 4 y1, sI 3 y1, sB 2 false, sC 0 (cF 5 x0 Fent.row)], []⟩ (fun cx => ?_) ?_
          · refine AT.runU tOk [(0, []), (1, [])] 27 [] [1, 0] rfl kr (fun cx => ?_)
            refine AT.indexF tOk 2 (t := 56) (ty := 0) (x := (.tmp 10)) (y := (.tmp 11)) (d := 12) (g := none) ⟨(.slot 10), [], 0, false, 5, (CV.frzEs (x0.map Fent.row))⟩ y1 (Fent.row v3) _ kr kr kr kr kr kr rfl (idx_isF ev3) rfl (fun cx => ?_)
            refine AT.runU tOk [(3, [])] 25 [] [3, 2, 1, 0] rfl kr (fun cx => ?_)
            refine AT.big1 tOk 4 kr kr ?_
            refine LAt.callU tOk [.rd] (f := 182) (av := #[.tmp 13]) (ats := #[141]) (d := (some 14)) (ty := 4) (g := none) kr kr kr [] (spec_l8Ent n v3 r4 er4) kr (.inl rfl) ?_
            refine LAt.fin kr (And.intro (And.intro kr kr) ?_)
            refine AT.runU tOk [(5, []), (6, [])] 22 [] [6, 5, 4, 3, 2, 1, 0] rfl kr (fun cx => ?_)
            refine AT.to ⟨42, 0, [sB 16 (!r4), sB 15 (!r4), sB 14 r4, sV 13 (Fent.row v3), (12, .fad ((Fent.row v3))), sI 11 y1, sC 10 (cF 5 x0 Fent.row), sB 7 true, sI 6 (x0.length : Int), sC 5 (cF 5 x0 Fent.row), sI 4 y1, sI 3 y1, sB 2 false, sC 0 (cF 5 x0 Fent.row)], []⟩ kr ?_
            rw [h2]
            refine AT.runU tOk [(7, []), (8, []), (9, []), (10, []), (11, []), (12, []), (13, []), (14, []), (15, []), (16, []), (17, []), (18, []), (19, []), (20, []), (21, []), (22, []), (23, []), (24, []), (25, []), (26, []), (27, []), (28, [])] 0 [] [28, 27, 26, 25, 24, 23, 22, 21, 20, 19, 18, 17, 16, 15, 14, 13, 12, 11, 10, 9, 8, 7, 6, 5, 4, 3, 2, 1, 0] rfl kr (fun cx => ?_)
            exact AT.done [38, 37, 36, 35, 34, 33, 32, 31, 30, 29, 28, 27, 26, 25, 24, 23, 22, 21, 20, 19, 18, 17, 16, 15, 14, 13, 12, 11, 10, 7, 6, 5, 4, 3, 2, 0] [] _ kr kr rfl
          · refine Tr.cond (b := true) kr (fun _ => ?_) (fun h => nomatch h)
            refine Tr.rs ?_
            refine LAt.runU tOk 1 kr ?_
            refine LAt.doneM 549755813117 0 kr ?_
            refine Tr.ret ?_
            have H := Option.some.inj H
            subst H
            have H := Ho2
            dsimp only at H
            have H := Option.some.inj H
            subst H
            exact Fin.of _ [(false, [cB false])] kr rfl rfl
  · rintro _ H
    have H : (spec_FdbOk_J1 n x0) = some r := H
    unfold spec_FdbOk_J1 at H
    show Tr _ _ _ _ _
    refine Tr.rs ?_
    refine LAt.runU tOk 1 kr ?_
    refine LAt.lenE tOk (t := 56) (ty := 3) (e := 141) (x := (.tmp 39)) (d := 40) (g := none) ⟨(.slot 39), [], 0, false, 5, (CV.frzEs (x0.map Fent.row))⟩ (x0).length _ kr kr kr kr kr (frz_len _ _) rfl ?_
    refine LAt.runU tOk 2 kr ?_
    refine LAt.doneM 4 0 kr ?_
    refine Tr.ret ?_
    have H := Option.some.inj H
    subst H
    exact Fin.of _ [(false, [cB (decide ((x0.length : Int) ≤ 12))])] kr rfl rfl

def spec_RowAt_J1 (n : Nat) : Option (Int) :=
  (some (-1))
def spec_RowAt_L2 (n : Nat) : Nat → Vtab → Int → Int → Option ((Unit) ⊕ (Int))
  | 0, _, _, _ => none
  | mo2 + 1, x0, x1, y1 => (bif (decide (y1 < (x0.Rows.length : Int))) then ((idx x0.Rows y1).bind fun v3 => (bif (v3.Id == x1) then (some (Sum.inr y1)) else (spec_RowAt_L2 n mo2 x0 x1 (IntKind.wrap .i64 (y1 + 1))))) else (some (Sum.inl ())))
def spec_RowAtF (n : Nat) (x0 : Vtab) (x1 : Int) : Option (Int) :=
  ((spec_RowAt_L2 n n x0 x1 0).bind fun o => match o with | .inl _ => (spec_RowAt_J1 n) | .inr r => some r)
/-- loop.example/g00326/spec.RowAt -/
theorem spec_RowAt (n : Nat) (x0 : Vtab) (x1 : Int) (r : Int) (H : spec_RowAtF n x0 x1 = some r) : LCall Try.prog 184 [.val true (CV.frzRow (Vtab.row x0)), .val false [.lit (.int .i64 x1)]] [.val false [.lit (.int .i64 r)]] [] := by
  refine LCall.of_body tOk Try.func184 rfl (c := (.seq (.region 0 (rg Try.f184 0) false) (.seq (.seq (.region 1 (rg Try.f184 1) false) (.block 0 (.loop (.seq (.seq (.region 2 (rg Try.f184 2) false) (.cond (.tmp 10) .skip (.exit 0))) (.seq (.block 1 (.seq (.region 4 (rg Try.f184 4) false) (.cond (.tmp 20) (.seq (.region 5 (rg Try.f184 5) false) .ret) .skip))) (.region 3 (rg Try.f184 3) false)))))) (.seq (.region 6 (rg Try.f184 6) false) .ret)))) kr (Nat.le_of_ble_eq_true kr) 0 (rs := [.tmp 4]) rfl [] .nil [(false, [.lit (.int .i64 r)])] [] [] fun cx => ?_
  show Tr _ _ _ ⟨22, 0, [sV 0 (CV.frzRow (Vtab.row x0)), sI 1 x1], []⟩ _
  unfold spec_RowAtF at H
  refine Tr.rs ?_
  refine LAt.runU tOk 2 kr ?_
  refine LAt.doneM 22 4 kr ?_
  refine Tr.seq ?_
  refine Tr.rs ?_
  refine LAt.runU tOk 1 kr ?_
  refine LAt.doneM 54 4 kr ?_
  obtain ⟨o2, eo2, Ho2⟩ := bind_some H
  clear H
  refine Tr.mid (ι := Unit) (fun v => ⟨22, 0, [sI 4 0], []⟩) (fun v => spec_RowAt_J1 n = some r) ?_ ?_
  · refine Tr.block ?_
    refine Tr.loop (ι := Nat × (Int)) (fun v => ⟨22, 0, [sI 5 v.2, sI 4 0, sA 2 2 2 0, sI 1 x1], [(2, (CV.frzRow (Vtab.row x0)))]⟩) (fun v => spec_RowAt_L2 n v.1 x0 x1 v.2 = some o2) (fun v => v.1) (n, 0) eo2 (St.sub_of [5, 4, 2, 1] [2] kr) ?_
    rintro ⟨mo2, y1⟩ H
    have H : spec_RowAt_L2 n mo2 x0 x1 y1 = some o2 := H
    obtain _ | mo2 := mo2
    · cases (show (none : Option _) = some o2 from H)
    · rw [spec_RowAt_L2] at H
      refine Tr.seq ?_
      refine Tr.rs ?_
      refine LAt.runU tOk 3 kr ?_
      refine LAt.lenE tOk (t := 57) (ty := 3) (e := 138) (x := (.tmp 8)) (d := 9) (g := none) ⟨(.slot 8), [], 0, false, 3, (CV.frzEs (x0.Rows.map Vrow.row))⟩ (x0.Rows).length _ kr kr kr kr kr (frz_len _ _) rfl ?_
      refine LAt.runU tOk 1 kr ?_
      refine LAt.doneM 2038 4 kr ?_
      refine Tr.to ⟨22, 0, [sB 10 (decide (y1 < (x0.Rows.length : Int))), sI 9 (x0.Rows.length : Int), sC 8 (cF 3 x0.Rows Vrow.row), sA 7 2 2 0, sI 6 y1, sI 5 y1, sI 4 0, sA 2 2 2 0, sI 1 x1], [(2, (CV.frzRow (Vtab.row x0)))]⟩ kr ?_
      cases h1 : (decide (y1 < (x0.Rows.length : Int)))
      · have H := bifF h1 H
        refine Tr.cond (b := false) kr (fun h => nomatch h) (fun _ => ?_)
        refine Tr.exit ?_
        refine And.intro (fun _ => ?_) (fun h => absurd rfl h)
        have H := Option.some.inj H
        subst H
        have H := Ho2
        dsimp only at H
        exact Exists.intro () (And.intro H (St.sub_of [4] [] kr))
      · have H := bifT h1 H
        refine Tr.cond (b := true) kr (fun _ => ?_) (fun h => nomatch h)
        refine Tr.skip ?_
        show Tr _ _ _ _ _
        refine Tr.seq ?_
        refine Tr.block ?_
        refine Tr.rs ?_
        refine LAt.runU tOk 3 kr ?_
        obtain ⟨v3, ev3, H⟩ := bind_some H
        refine LAt.indexF tOk (t := 57) (ty := 0) (x := (.tmp 14)) (y := (.tmp 15)) (d := 16) (g := none) ⟨(.slot 14), [], 0, false, 3, (CV.frzEs (x0.Rows.map Vrow.row))⟩ y1 (Vrow.row v3) _ kr kr kr kr rfl (idx_isF ev3) rfl ?_
        refine LAt.runU tOk 4 kr ?_
        refine LAt.doneM 2090998 4 kr ?_
        refine Tr.to ⟨22, 0, [sB 20 (v3.Id == x1), sI 19 x1, sI 18 v3.Id, (17, .fad ((Vrow.row v3))), (16, .fad ((Vrow.row v3))), sI 15 y1, sC 14 (cF 3 x0.Rows Vrow.row), sA 13 2 2 0, sB 10 true, sI 9 (x0.Rows.length : Int), sC 8 (cF 3 x0.Rows Vrow.row), sA 7 2 2 0, sI 6 y1, sI 5 y1, sI 4 0, sA 2 2 2 0, sI 1 x1], [(2, (CV.frzRow (Vtab.row x0)))]⟩ kr ?_
        cases h2 : (v3.Id == x1)
        · have H := bifF h2 H
          refine Tr.cond (b := false) kr (fun h => nomatch h) (fun _ => ?_)
          refine Tr.skip ?_
          show Tr _ _ _ _ _
          refine Tr.at ?_
          refine LAt.runU tOk 3 kr ?_
          refine LAt.doneM 2097142 4 kr ?_
          exact Exists.intro (mo2, (IntKind.wrap .i64 (y1 + 1))) (And.intro H (And.intro (Nat.lt_succ_self mo2) (St.sub_of [5, 4, 2, 1] [2] kr)))
        · have H := bifT h2 H
          refine Tr.cond (b := true) kr (fun _ => ?_) (fun h => nomatch h)
          refine Tr.rs ?_
          refine LAt.runU tOk 2 kr ?_
          refine LAt.doneM 4188150 4 kr ?_
          refine Tr.ret ?_
          have H := Option.some.inj H
          subst H
          have H := Ho2
          dsimp only at H
          have H := Option.some.inj H
          subst H
          exact Fin.of _ [(false, [cI y1])] kr rfl rfl
  · rintro _ H
    have H : (spec_RowAt_J1 n) = some r := H
    unfold spec_RowAt_J1 at H
    show Tr _ _ _ _ _
    refine Tr.rs ?_
    refine LAt.runU tOk 1 kr ?_
    refine LAt.doneM 16 0 kr ?_
    refine Tr.ret ?_
    have H := Option.some.inj H
    subst H
    exact Fin.of _ [(false, [cI (-1)])] kr rfl rfl
end Go.Proofs.Ytjdedhklbdkeoaa.Tw
