/- Functions of the program, over trees. -/
import Derived.Test.YtjdedhklbdkeoaaProg
import Derived.Test.YtjdedhklbdkeoaaTlRule
import Derived.Test.YtjdedhklbdkeoaaTlU7
import Derived.WalkKit
set_option linter.unusedVariables false
set_option linter.unusedSimpArgs false
set_option maxRecDepth 100000
set_option maxHeartbeats 1000000
namespace Go.Proofs.Ytjdedhklbdkeoaa.Tw
open Go Go.TL Go.Proofs
def tab : List (Nat × TI) := [(2, ⟨.int .i64, 1, 8, [.lit (.int .i64 0)]⟩),
  (3, ⟨.int .i64, 1, 8, [.lit (.int .i64 0)]⟩),
  (4, ⟨.bool, 1, 1, [.lit (.bool false)]⟩),
  (5, ⟨.int .u8, 1, 1, [.lit (.int .u8 0)]⟩),
  (6, ⟨.int .u8, 1, 1, [.lit (.int .u8 0)]⟩),
  (7, ⟨.st [(0, 1, 2), (1, 1, 3), (2, 1, 4), (3, 1, 6)], 4, 24, [.lit (.int .i64 0), .lit (.int .i64 0), .lit (.bool false), .lit (.int .u8 0)]⟩),
  (8, ⟨.st [(0, 1, 2), (1, 1, 3), (2, 1, 4), (3, 1, 6)], 4, 24, [.lit (.int .i64 0), .lit (.int .i64 0), .lit (.bool false), .lit (.int .u8 0)]⟩),
  (9, ⟨.str, 1, 16, [.lit (.string ⟨#[]⟩)]⟩),
  (27, ⟨.sl 3, 1, 24, [.sl true 1 []]⟩),
  (47, ⟨.sl 169, 1, 24, [.sl true 8 []]⟩),
  (48, ⟨.sl 171, 1, 24, [.sl true 5 []]⟩),
  (49, ⟨.sl 187, 1, 24, [.sl true 3 []]⟩),
  (51, ⟨.st [(0, 1, 49), (1, 1, 27)], 2, 48, [.sl true 3 [], .sl true 1 []]⟩),
  (53, ⟨.st [(0, 1, 3), (1, 1, 9), (2, 1, 47), (3, 1, 48), (4, 2, 51), (6, 1, 3), (7, 1, 3), (8, 1, 3), (9, 1, 3), (10, 1, 3)], 11, 160, [.lit (.int .i64 0), .lit (.string ⟨#[]⟩), .sl true 8 [], .sl true 5 [], .sl true 3 [], .sl true 1 [], .lit (.int .i64 0), .lit (.int .i64 0), .lit (.int .i64 0), .lit (.int .i64 0), .lit (.int .i64 0)]⟩),
  (55, ⟨.sl 114, 1, 24, [.sl true 8 []]⟩),
  (56, ⟨.sl 141, 1, 24, [.sl true 5 []]⟩),
  (57, ⟨.sl 138, 1, 24, [.sl true 3 []]⟩),
  (59, ⟨.st [(0, 1, 57), (1, 1, 27)], 2, 48, [.sl true 3 [], .sl true 1 []]⟩),
  (61, ⟨.st [(0, 1, 3), (1, 1, 9), (2, 1, 55), (3, 1, 56), (4, 2, 59), (6, 1, 3), (7, 1, 3), (8, 1, 3), (9, 1, 3), (10, 1, 3)], 11, 160, [.lit (.int .i64 0), .lit (.string ⟨#[]⟩), .sl true 8 [], .sl true 5 [], .sl true 3 [], .sl true 1 [], .lit (.int .i64 0), .lit (.int .i64 0), .lit (.int .i64 0), .lit (.int .i64 0), .lit (.int .i64 0)]⟩),
  (68, ⟨.st [(0, 1, 3), (1, 1, 3), (2, 1, 3), (3, 1, 3), (4, 1, 3)], 5, 40, [.lit (.int .i64 0), .lit (.int .i64 0), .lit (.int .i64 0), .lit (.int .i64 0), .lit (.int .i64 0)]⟩),
  (70, ⟨.st [(0, 1, 3), (1, 1, 3), (2, 1, 3), (3, 1, 3), (4, 1, 3)], 5, 40, [.lit (.int .i64 0), .lit (.int .i64 0), .lit (.int .i64 0), .lit (.int .i64 0), .lit (.int .i64 0)]⟩),
  (76, ⟨.st [(0, 1, 3), (1, 1, 3), (2, 1, 9), (3, 1, 27)], 4, 56, [.lit (.int .i64 0), .lit (.int .i64 0), .lit (.string ⟨#[]⟩), .sl true 1 []]⟩),
  (81, ⟨.sl 86, 1, 24, [.sl true 5 []]⟩),
  (86, ⟨.st [(0, 1, 27), (1, 4, 76)], 5, 80, [.sl true 1 [], .lit (.int .i64 0), .lit (.int .i64 0), .lit (.string ⟨#[]⟩), .sl true 1 []]⟩),
  (114, ⟨.st [(0, 1, 4), (1, 1, 3), (2, 1, 4), (3, 5, 70)], 8, 64, [.lit (.bool false), .lit (.int .i64 0), .lit (.bool false), .lit (.int .i64 0), .lit (.int .i64 0), .lit (.int .i64 0), .lit (.int .i64 0), .lit (.int .i64 0)]⟩),
  (138, ⟨.st [(0, 1, 3), (1, 1, 3), (2, 1, 3)], 3, 24, [.lit (.int .i64 0), .lit (.int .i64 0), .lit (.int .i64 0)]⟩),
  (141, ⟨.st [(0, 1, 3), (1, 1, 3), (2, 1, 3), (3, 1, 3), (4, 1, 4)], 5, 40, [.lit (.int .i64 0), .lit (.int .i64 0), .lit (.int .i64 0), .lit (.int .i64 0), .lit (.bool false)]⟩),
  (169, ⟨.st [(0, 1, 4), (1, 1, 3), (2, 1, 4), (3, 5, 68)], 8, 64, [.lit (.bool false), .lit (.int .i64 0), .lit (.bool false), .lit (.int .i64 0), .lit (.int .i64 0), .lit (.int .i64 0), .lit (.int .i64 0), .lit (.int .i64 0)]⟩),
  (171, ⟨.st [(0, 1, 3), (1, 1, 3), (2, 1, 3), (3, 1, 3), (4, 1, 4)], 5, 40, [.lit (.int .i64 0), .lit (.int .i64 0), .lit (.int .i64 0), .lit (.int .i64 0), .lit (.bool false)]⟩),
  (185, ⟨.int .u64, 1, 8, [.lit (.int .u64 0)]⟩),
  (187, ⟨.st [(0, 1, 3), (1, 1, 3), (2, 1, 3)], 3, 24, [.lit (.int .i64 0), .lit (.int .i64 0), .lit (.int .i64 0)]⟩)]
theorem mixed : Try.prog.follows .mixedOrders = true := by kernel_rfl
theorem tOk : TOk Try.prog (lk tab) := tok_of (by kernel_rfl)

structure Vec where
  Root : Int
  Cost : Int
  Hops : Int
  Bridge : Int
  Port : Int
def Vec.row (v : Vec) : List CV := [.lit (.int .i64 v.Root), .lit (.int .i64 v.Cost), .lit (.int .i64 v.Hops), .lit (.int .i64 v.Bridge), .lit (.int .i64 v.Port)]
def Vec.wf (v : Vec) : Prop := intWf v.Root ∧ intWf v.Cost ∧ intWf v.Hops ∧ intWf v.Bridge ∧ intWf v.Port ∧ True
theorem Vec.enc : Enc Vec [.int .i64, .int .i64, .int .i64, .int .i64, .int .i64] Vec.row Vec.wf := fun cs h => by
  obtain ⟨c0, r0, rfl, k0, h⟩ := fitR_cons h
  obtain ⟨c1, r1, rfl, k1, h⟩ := fitR_cons h
  obtain ⟨c2, r2, rfl, k2, h⟩ := fitR_cons h
  obtain ⟨c3, r3, rfl, k3, h⟩ := fitR_cons h
  obtain ⟨c4, r4, rfl, k4, h⟩ := fitR_cons h
  obtain rfl := fitR_nil h
  obtain ⟨x0, rfl, w0⟩ := fitC_int k0
  obtain ⟨x1, rfl, w1⟩ := fitC_int k1
  obtain ⟨x2, rfl, w2⟩ := fitC_int k2
  obtain ⟨x3, rfl, w3⟩ := fitC_int k3
  obtain ⟨x4, rfl, w4⟩ := fitC_int k4
  exact ⟨⟨x0, x1, x2, x3, x4⟩, rfl, ⟨w0, w1, w2, w3, w4, trivial⟩⟩
theorem Vec.row_mine (v : Vec) : CV.mineRow (Vec.row v) := mine_cons mine_lit (mine_cons mine_lit (mine_cons mine_lit (mine_cons mine_lit (mine_cons mine_lit (mine_nil)))))

structure Pt where
  Up : Bool
  Cost : Int
  Has : Bool
  Heard : Vec
def Pt.row (v : Pt) : List CV := [.lit (.bool v.Up), .lit (.int .i64 v.Cost), .lit (.bool v.Has), .lit (.int .i64 v.Heard.Root), .lit (.int .i64 v.Heard.Cost), .lit (.int .i64 v.Heard.Hops), .lit (.int .i64 v.Heard.Bridge), .lit (.int .i64 v.Heard.Port)]
def Pt.wf (v : Pt) : Prop := intWf v.Cost ∧ intWf v.Heard.Root ∧ intWf v.Heard.Cost ∧ intWf v.Heard.Hops ∧ intWf v.Heard.Bridge ∧ intWf v.Heard.Port ∧ True
theorem Pt.enc : Enc Pt [.bool, .int .i64, .bool, .int .i64, .int .i64, .int .i64, .int .i64, .int .i64] Pt.row Pt.wf := fun cs h => by
  obtain ⟨c0, r0, rfl, k0, h⟩ := fitR_cons h
  obtain ⟨c1, r1, rfl, k1, h⟩ := fitR_cons h
  obtain ⟨c2, r2, rfl, k2, h⟩ := fitR_cons h
  obtain ⟨c3, r3, rfl, k3, h⟩ := fitR_cons h
  obtain ⟨c4, r4, rfl, k4, h⟩ := fitR_cons h
  obtain ⟨c5, r5, rfl, k5, h⟩ := fitR_cons h
  obtain ⟨c6, r6, rfl, k6, h⟩ := fitR_cons h
  obtain ⟨c7, r7, rfl, k7, h⟩ := fitR_cons h
  obtain rfl := fitR_nil h
  obtain ⟨x0, rfl⟩ := fitC_bool k0
  obtain ⟨x1, rfl, w1⟩ := fitC_int k1
  obtain ⟨x2, rfl⟩ := fitC_bool k2
  obtain ⟨x3, rfl, w3⟩ := fitC_int k3
  obtain ⟨x4, rfl, w4⟩ := fitC_int k4
  obtain ⟨x5, rfl, w5⟩ := fitC_int k5
  obtain ⟨x6, rfl, w6⟩ := fitC_int k6
  obtain ⟨x7, rfl, w7⟩ := fitC_int k7
  exact ⟨⟨x0, x1, x2, ⟨x3, x4, x5, x6, x7⟩⟩, rfl, ⟨w1, w3, w4, w5, w6, w7, trivial⟩⟩
theorem Pt.row_mine (v : Pt) : CV.mineRow (Pt.row v) := mine_cons mine_lit (mine_cons mine_lit (mine_cons mine_lit (mine_cons mine_lit (mine_cons mine_lit (mine_cons mine_lit (mine_cons mine_lit (mine_cons mine_lit (mine_nil))))))))

structure Fent where
  Tag : Int
  Mac : Int
  Port : Int
  Age : Int
  Static : Bool
def Fent.row (v : Fent) : List CV := [.lit (.int .i64 v.Tag), .lit (.int .i64 v.Mac), .lit (.int .i64 v.Port), .lit (.int .i64 v.Age), .lit (.bool v.Static)]
def Fent.wf (v : Fent) : Prop := intWf v.Tag ∧ intWf v.Mac ∧ intWf v.Port ∧ intWf v.Age ∧ True
theorem Fent.enc : Enc Fent [.int .i64, .int .i64, .int .i64, .int .i64, .bool] Fent.row Fent.wf := fun cs h => by
  obtain ⟨c0, r0, rfl, k0, h⟩ := fitR_cons h
  obtain ⟨c1, r1, rfl, k1, h⟩ := fitR_cons h
  obtain ⟨c2, r2, rfl, k2, h⟩ := fitR_cons h
  obtain ⟨c3, r3, rfl, k3, h⟩ := fitR_cons h
  obtain ⟨c4, r4, rfl, k4, h⟩ := fitR_cons h
  obtain rfl := fitR_nil h
  obtain ⟨x0, rfl, w0⟩ := fitC_int k0
  obtain ⟨x1, rfl, w1⟩ := fitC_int k1
  obtain ⟨x2, rfl, w2⟩ := fitC_int k2
  obtain ⟨x3, rfl, w3⟩ := fitC_int k3
  obtain ⟨x4, rfl⟩ := fitC_bool k4
  exact ⟨⟨x0, x1, x2, x3, x4⟩, rfl, ⟨w0, w1, w2, w3, trivial⟩⟩
theorem Fent.row_mine (v : Fent) : CV.mineRow (Fent.row v) := mine_cons mine_lit (mine_cons mine_lit (mine_cons mine_lit (mine_cons mine_lit (mine_cons mine_lit (mine_nil)))))

structure Vrow where
  Id : Int
  Members : Int
  Bare : Int
def Vrow.row (v : Vrow) : List CV := [.lit (.int .i64 v.Id), .lit (.int .i64 v.Members), .lit (.int .i64 v.Bare)]
def Vrow.wf (v : Vrow) : Prop := intWf v.Id ∧ intWf v.Members ∧ intWf v.Bare ∧ True
theorem Vrow.enc : Enc Vrow [.int .i64, .int .i64, .int .i64] Vrow.row Vrow.wf := fun cs h => by
  obtain ⟨c0, r0, rfl, k0, h⟩ := fitR_cons h
  obtain ⟨c1, r1, rfl, k1, h⟩ := fitR_cons h
  obtain ⟨c2, r2, rfl, k2, h⟩ := fitR_cons h
  obtain rfl := fitR_nil h
  obtain ⟨x0, rfl, w0⟩ := fitC_int k0
  obtain ⟨x1, rfl, w1⟩ := fitC_int k1
  obtain ⟨x2, rfl, w2⟩ := fitC_int k2
  exact ⟨⟨x0, x1, x2⟩, rfl, ⟨w0, w1, w2, trivial⟩⟩
theorem Vrow.row_mine (v : Vrow) : CV.mineRow (Vrow.row v) := mine_cons mine_lit (mine_cons mine_lit (mine_cons mine_lit (mine_nil)))

structure Vtab where
  Rows : (List Vrow)
  Pvid : (List Int)
def Vtab.row (v : Vtab) : List CV := [.sl true 3 (v.Rows.map Vrow.row), .sl true 1 (v.Pvid.map intRow)]
def Vtab.wf (v : Vtab) : Prop := listWf Vrow.wf v.Rows ∧ listWf intWf v.Pvid ∧ True
theorem Vtab.enc : Enc Vtab [.sl 3 [.int .i64, .int .i64, .int .i64], .sl 1 [.int .i64]] Vtab.row Vtab.wf := fun cs h => by
  obtain ⟨c0, r0, rfl, k0, h⟩ := fitR_cons h
  obtain ⟨c1, r1, rfl, k1, h⟩ := fitR_cons h
  obtain rfl := fitR_nil h
  obtain ⟨x0, rfl, w0⟩ := Enc.sl Vrow.enc k0
  obtain ⟨x1, rfl, w1⟩ := Enc.sl encInt k1
  exact ⟨⟨x0, x1⟩, rfl, ⟨w0, w1, trivial⟩⟩
theorem Vtab.row_mine (v : Vtab) : CV.mineRow (Vtab.row v) := mine_cons (mine_sl (mine_map Vrow.row_mine _)) (mine_cons (mine_sl (mine_map intRow_mine _)) (mine_nil))

structure Bridge where
  Id : Int
  Name : ByteArray
  Ports : (List Pt)
  F : (List Fent)
  V : Vtab
  Ticks : Int
  Parse : Int
  Word : Int
  Drops : Int
  Vers : Int
def Bridge.row (v : Bridge) : List CV := [.lit (.int .i64 v.Id), .lit (.string v.Name), .sl true 8 (v.Ports.map Pt.row), .sl true 5 (v.F.map Fent.row), .sl true 3 (v.V.Rows.map Vrow.row), .sl true 1 (v.V.Pvid.map intRow), .lit (.int .i64 v.Ticks), .lit (.int .i64 v.Parse), .lit (.int .i64 v.Word), .lit (.int .i64 v.Drops), .lit (.int .i64 v.Vers)]
def Bridge.wf (v : Bridge) : Prop := intWf v.Id ∧ v.Name.size ≤ maxLen ∧ listWf Pt.wf v.Ports ∧ listWf Fent.wf v.F ∧ listWf Vrow.wf v.V.Rows ∧ listWf intWf v.V.Pvid ∧ intWf v.Ticks ∧ intWf v.Parse ∧ intWf v.Word ∧ intWf v.Drops ∧ intWf v.Vers ∧ True
theorem Bridge.enc : Enc Bridge [.int .i64, .str, .sl 8 [.bool, .int .i64, .bool, .int .i64, .int .i64, .int .i64, .int .i64, .int .i64], .sl 5 [.int .i64, .int .i64, .int .i64, .int .i64, .bool], .sl 3 [.int .i64, .int .i64, .int .i64], .sl 1 [.int .i64], .int .i64, .int .i64, .int .i64, .int .i64, .int .i64] Bridge.row Bridge.wf := fun cs h => by
  obtain ⟨c0, r0, rfl, k0, h⟩ := fitR_cons h
  obtain ⟨c1, r1, rfl, k1, h⟩ := fitR_cons h
  obtain ⟨c2, r2, rfl, k2, h⟩ := fitR_cons h
  obtain ⟨c3, r3, rfl, k3, h⟩ := fitR_cons h
  obtain ⟨c4, r4, rfl, k4, h⟩ := fitR_cons h
  obtain ⟨c5, r5, rfl, k5, h⟩ := fitR_cons h
  obtain ⟨c6, r6, rfl, k6, h⟩ := fitR_cons h
  obtain ⟨c7, r7, rfl, k7, h⟩ := fitR_cons h
  obtain ⟨c8, r8, rfl, k8, h⟩ := fitR_cons h
  obtain ⟨c9, r9, rfl, k9, h⟩ := fitR_cons h
  obtain ⟨c10, r10, rfl, k10, h⟩ := fitR_cons h
  obtain rfl := fitR_nil h
  obtain ⟨x0, rfl, w0⟩ := fitC_int k0
  obtain ⟨x1, rfl, w1⟩ := fitC_str k1
  obtain ⟨x2, rfl, w2⟩ := Enc.sl Pt.enc k2
  obtain ⟨x3, rfl, w3⟩ := Enc.sl Fent.enc k3
  obtain ⟨x4, rfl, w4⟩ := Enc.sl Vrow.enc k4
  obtain ⟨x5, rfl, w5⟩ := Enc.sl encInt k5
  obtain ⟨x6, rfl, w6⟩ := fitC_int k6
  obtain ⟨x7, rfl, w7⟩ := fitC_int k7
  obtain ⟨x8, rfl, w8⟩ := fitC_int k8
  obtain ⟨x9, rfl, w9⟩ := fitC_int k9
  obtain ⟨x10, rfl, w10⟩ := fitC_int k10
  exact ⟨⟨x0, x1, x2, x3, ⟨x4, x5⟩, x6, x7, x8, x9, x10⟩, rfl, ⟨w0, w1, w2, w3, w4, w5, w6, w7, w8, w9, w10, trivial⟩⟩
theorem Bridge.row_mine (v : Bridge) : CV.mineRow (Bridge.row v) := mine_cons mine_lit (mine_cons mine_lit (mine_cons (mine_sl (mine_map Pt.row_mine _)) (mine_cons (mine_sl (mine_map Fent.row_mine _)) (mine_cons (mine_sl (mine_map Vrow.row_mine _)) (mine_cons (mine_sl (mine_map intRow_mine _)) (mine_cons mine_lit (mine_cons mine_lit (mine_cons mine_lit (mine_cons mine_lit (mine_cons mine_lit (mine_nil)))))))))))

structure Val where
  K : Int
  N : Int
  S : ByteArray
  O : (List Int)
def Val.row (v : Val) : List CV := [.lit (.int .i64 v.K), .lit (.int .i64 v.N), .lit (.string v.S), .sl true 1 (v.O.map intRow)]
def Val.wf (v : Val) : Prop := intWf v.K ∧ intWf v.N ∧ v.S.size ≤ maxLen ∧ listWf intWf v.O ∧ True
theorem Val.enc : Enc Val [.int .i64, .int .i64, .str, .sl 1 [.int .i64]] Val.row Val.wf := fun cs h => by
  obtain ⟨c0, r0, rfl, k0, h⟩ := fitR_cons h
  obtain ⟨c1, r1, rfl, k1, h⟩ := fitR_cons h
  obtain ⟨c2, r2, rfl, k2, h⟩ := fitR_cons h
  obtain ⟨c3, r3, rfl, k3, h⟩ := fitR_cons h
  obtain rfl := fitR_nil h
  obtain ⟨x0, rfl, w0⟩ := fitC_int k0
  obtain ⟨x1, rfl, w1⟩ := fitC_int k1
  obtain ⟨x2, rfl, w2⟩ := fitC_str k2
  obtain ⟨x3, rfl, w3⟩ := Enc.sl encInt k3
  exact ⟨⟨x0, x1, x2, x3⟩, rfl, ⟨w0, w1, w2, w3, trivial⟩⟩
theorem Val.row_mine (v : Val) : CV.mineRow (Val.row v) := mine_cons mine_lit (mine_cons mine_lit (mine_cons mine_lit (mine_cons (mine_sl (mine_map intRow_mine _)) (mine_nil))))

structure Bind where
  O : (List Int)
  V : Val
def Bind.row (v : Bind) : List CV := [.sl true 1 (v.O.map intRow), .lit (.int .i64 v.V.K), .lit (.int .i64 v.V.N), .lit (.string v.V.S), .sl true 1 (v.V.O.map intRow)]
def Bind.wf (v : Bind) : Prop := listWf intWf v.O ∧ intWf v.V.K ∧ intWf v.V.N ∧ v.V.S.size ≤ maxLen ∧ listWf intWf v.V.O ∧ True
theorem Bind.enc : Enc Bind [.sl 1 [.int .i64], .int .i64, .int .i64, .str, .sl 1 [.int .i64]] Bind.row Bind.wf := fun cs h => by
  obtain ⟨c0, r0, rfl, k0, h⟩ := fitR_cons h
  obtain ⟨c1, r1, rfl, k1, h⟩ := fitR_cons h
  obtain ⟨c2, r2, rfl, k2, h⟩ := fitR_cons h
  obtain ⟨c3, r3, rfl, k3, h⟩ := fitR_cons h
  obtain ⟨c4, r4, rfl, k4, h⟩ := fitR_cons h
  obtain rfl := fitR_nil h
  obtain ⟨x0, rfl, w0⟩ := Enc.sl encInt k0
  obtain ⟨x1, rfl, w1⟩ := fitC_int k1
  obtain ⟨x2, rfl, w2⟩ := fitC_int k2
  obtain ⟨x3, rfl, w3⟩ := fitC_str k3
  obtain ⟨x4, rfl, w4⟩ := Enc.sl encInt k4
  exact ⟨⟨x0, ⟨x1, x2, x3, x4⟩⟩, rfl, ⟨w0, w1, w2, w3, w4, trivial⟩⟩
theorem Bind.row_mine (v : Bind) : CV.mineRow (Bind.row v) := mine_cons (mine_sl (mine_map intRow_mine _)) (mine_cons mine_lit (mine_cons mine_lit (mine_cons mine_lit (mine_cons (mine_sl (mine_map intRow_mine _)) (mine_nil)))))

def laws_szPtSF (n : Nat) (x0 : (List Pt)) (x1 : Int) : Option (Int) :=
  (bif (decide ((IntKind.wrap .i64 (x1 - (x0.length : Int))) < 0)) then (some (-1)) else (some (IntKind.wrap .i64 (x1 - (x0.length : Int)))))
/-- loop.example/g00326/laws.szPtS -/
theorem laws_szPtS (n : Nat) (x0 : (List Pt)) (x1 : Int) (r : Int) (H : laws_szPtSF n x0 x1 = some r) : LCall Try.prog 94 [.val false [.sl false 8 (CV.frzEs (x0.map Pt.row))], .val false [.lit (.int .i64 x1)]] [.val false [.lit (.int .i64 r)]] [] := by
  refine LCall.of_body tOk Try.func94 rfl (c := (.seq (Rg Try.f94 0) (.seq (Rg Try.f94 1) (.seq (.seq (Rg Try.f94 2) (.cond (.tmp 10) (.seq (Rg Try.f94 3) .ret) .skip)) (.seq (Rg Try.f94 4) .ret))))) kr (Nat.le_of_ble_eq_true kr) 0 (rs := [.tmp 4]) rfl [] .nil [(false, [.lit (.int .i64 r)])] [] [] fun cx => ?_
  show Tr _ _ _ ⟨12, 0, [sC 0 (cF 8 x0 Pt.row), sI 1 x1], []⟩ _
  unfold laws_szPtSF at H
  refine Tr.rgn tOk 1 19 0 kr kr ?_
  refine Tr.rs ?_
  refine LAt.runU tOk 2 kr ?_
  refine LAt.lenE tOk (t := 47) (ty := 3) (e := 169) (x := (.tmp 6)) (d := 7) (g := none) ⟨(.slot 6), [], 0, false, 8, (CV.frzEs (x0.map Pt.row))⟩ (x0).length _ kr kr kr kr kr (frz_len _ _) rfl ?_
  refine LAt.runU tOk 2 kr ?_
  refine LAt.doneM 18 0 kr ?_
  refine Tr.seq ?_
  refine Tr.rgn tOk 2 1042 0 kr kr ?_
  cases h1 : (decide ((IntKind.wrap .i64 (x1 - (x0.length : Int))) < 0))
  · have H := bifF h1 H
    refine Tr.cF h1 kr ?_
    refine Tr.skip ?_
    show Tr _ _ _ _ _
    refine Tr.rgn tOk 2 16 0 kr kr ?_
    refine Tr.ret ?_
    have H := Option.some.inj H
    subst H
    exact Fin.of _ [(false, [cI (IntKind.wrap .i64 (x1 - (x0.length : Int)))])] kr rfl rfl
  have H := bifT h1 H
  refine Tr.cT h1 kr ?_
  refine Tr.rgn tOk 1 18 0 kr kr ?_
  refine Tr.ret ?_
  have H := Option.some.inj H
  subst H
  exact Fin.of _ [(false, [cI (-1)])] kr rfl rfl

def laws_szFentSF (n : Nat) (x0 : (List Fent)) (x1 : Int) : Option (Int) :=
  (bif (decide ((IntKind.wrap .i64 (x1 - (x0.length : Int))) < 0)) then (some (-1)) else (some (IntKind.wrap .i64 (x1 - (x0.length : Int)))))
/-- loop.example/g00326/laws.szFentS -/
theorem laws_szFentS (n : Nat) (x0 : (List Fent)) (x1 : Int) (r : Int) (H : laws_szFentSF n x0 x1 = some r) : LCall Try.prog 95 [.val false [.sl false 5 (CV.frzEs (x0.map Fent.row))], .val false [.lit (.int .i64 x1)]] [.val false [.lit (.int .i64 r)]] [] := by
  refine LCall.of_body tOk Try.func95 rfl (c := (.seq (Rg Try.f95 0) (.seq (Rg Try.f95 1) (.seq (.seq (Rg Try.f95 2) (.cond (.tmp 10) (.seq (Rg Try.f95 3) .ret) .skip)) (.seq (Rg Try.f95 4) .ret))))) kr (Nat.le_of_ble_eq_true kr) 0 (rs := [.tmp 4]) rfl [] .nil [(false, [.lit (.int .i64 r)])] [] [] fun cx => ?_
  show Tr _ _ _ ⟨12, 0, [sC 0 (cF 5 x0 Fent.row), sI 1 x1], []⟩ _
  unfold laws_szFentSF at H
  refine Tr.rgn tOk 1 19 0 kr kr ?_
  refine Tr.rs ?_
  refine LAt.runU tOk 2 kr ?_
  refine LAt.lenE tOk (t := 48) (ty := 3) (e := 171) (x := (.tmp 6)) (d := 7) (g := none) ⟨(.slot 6), [], 0, false, 5, (CV.frzEs (x0.map Fent.row))⟩ (x0).length _ kr kr kr kr kr (frz_len _ _) rfl ?_
  refine LAt.runU tOk 2 kr ?_
  refine LAt.doneM 18 0 kr ?_
  refine Tr.seq ?_
  refine Tr.rgn tOk 2 1042 0 kr kr ?_
  cases h1 : (decide ((IntKind.wrap .i64 (x1 - (x0.length : Int))) < 0))
  · have H := bifF h1 H
    refine Tr.cF h1 kr ?_
    refine Tr.skip ?_
    show Tr _ _ _ _ _
    refine Tr.rgn tOk 2 16 0 kr kr ?_
    refine Tr.ret ?_
    have H := Option.some.inj H
    subst H
    exact Fin.of _ [(false, [cI (IntKind.wrap .i64 (x1 - (x0.length : Int)))])] kr rfl rfl
  have H := bifT h1 H
  refine Tr.cT h1 kr ?_
  refine Tr.rgn tOk 1 18 0 kr kr ?_
  refine Tr.ret ?_
  have H := Option.some.inj H
  subst H
  exact Fin.of _ [(false, [cI (-1)])] kr rfl rfl

def laws_szVrowSF (n : Nat) (x0 : (List Vrow)) (x1 : Int) : Option (Int) :=
  (bif (decide ((IntKind.wrap .i64 (x1 - (x0.length : Int))) < 0)) then (some (-1)) else (some (IntKind.wrap .i64 (x1 - (x0.length : Int)))))
/-- loop.example/g00326/laws.szVrowS -/
theorem laws_szVrowS (n : Nat) (x0 : (List Vrow)) (x1 : Int) (r : Int) (H : laws_szVrowSF n x0 x1 = some r) : LCall Try.prog 150 [.val false [.sl false 3 (CV.frzEs (x0.map Vrow.row))], .val false [.lit (.int .i64 x1)]] [.val false [.lit (.int .i64 r)]] [] := by
  refine LCall.of_body tOk Try.func150 rfl (c := (.seq (Rg Try.f150 0) (.seq (Rg Try.f150 1) (.seq (.seq (Rg Try.f150 2) (.cond (.tmp 10) (.seq (Rg Try.f150 3) .ret) .skip)) (.seq (Rg Try.f150 4) .ret))))) kr (Nat.le_of_ble_eq_true kr) 0 (rs := [.tmp 4]) rfl [] .nil [(false, [.lit (.int .i64 r)])] [] [] fun cx => ?_
  show Tr _ _ _ ⟨12, 0, [sC 0 (cF 3 x0 Vrow.row), sI 1 x1], []⟩ _
  unfold laws_szVrowSF at H
  refine Tr.rgn tOk 1 19 0 kr kr ?_
  refine Tr.rs ?_
  refine LAt.runU tOk 2 kr ?_
  refine LAt.lenE tOk (t := 49) (ty := 3) (e := 187) (x := (.tmp 6)) (d := 7) (g := none) ⟨(.slot 6), [], 0, false, 3, (CV.frzEs (x0.map Vrow.row))⟩ (x0).length _ kr kr kr kr kr (frz_len _ _) rfl ?_
  refine LAt.runU tOk 2 kr ?_
  refine LAt.doneM 18 0 kr ?_
  refine Tr.seq ?_
  refine Tr.rgn tOk 2 1042 0 kr kr ?_
  cases h1 : (decide ((IntKind.wrap .i64 (x1 - (x0.length : Int))) < 0))
  · have H := bifF h1 H
    refine Tr.cF h1 kr ?_
    refine Tr.skip ?_
    show Tr _ _ _ _ _
    refine Tr.rgn tOk 2 16 0 kr kr ?_
    refine Tr.ret ?_
    have H := Option.some.inj H
    subst H
    exact Fin.of _ [(false, [cI (IntKind.wrap .i64 (x1 - (x0.length : Int)))])] kr rfl rfl
  have H := bifT h1 H
  refine Tr.cT h1 kr ?_
  refine Tr.rgn tOk 1 18 0 kr kr ?_
  refine Tr.ret ?_
  have H := Option.some.inj H
  subst H
  exact Fin.of _ [(false, [cI (-1)])] kr rfl rfl

def laws_szIntSF (n : Nat) (x0 : (List Int)) (x1 : Int) : Option (Int) :=
  (bif (decide ((IntKind.wrap .i64 (x1 - (x0.length : Int))) < 0)) then (some (-1)) else (some (IntKind.wrap .i64 (x1 - (x0.length : Int)))))
/-- loop.example/g00326/laws.szIntS -/
theorem laws_szIntS (n : Nat) (x0 : (List Int)) (x1 : Int) (r : Int) (H : laws_szIntSF n x0 x1 = some r) : LCall Try.prog 151 [.val false [.sl false 1 (CV.frzEs (x0.map intRow))], .val false [.lit (.int .i64 x1)]] [.val false [.lit (.int .i64 r)]] [] := by
  refine LCall.of_body tOk Try.func151 rfl (c := (.seq (Rg Try.f151 0) (.seq (Rg Try.f151 1) (.seq (.seq (Rg Try.f151 2) (.cond (.tmp 10) (.seq (Rg Try.f151 3) .ret) .skip)) (.seq (Rg Try.f151 4) .ret))))) kr (Nat.le_of_ble_eq_true kr) 0 (rs := [.tmp 4]) rfl [] .nil [(false, [.lit (.int .i64 r)])] [] [] fun cx => ?_
  show Tr _ _ _ ⟨12, 0, [sC 0 (cF 1 x0 intRow), sI 1 x1], []⟩ _
  unfold laws_szIntSF at H
  refine Tr.rgn tOk 1 19 0 kr kr ?_
  refine Tr.rs ?_
  refine LAt.runU tOk 2 kr ?_
  refine LAt.lenE tOk (t := 27) (ty := 3) (e := 3) (x := (.tmp 6)) (d := 7) (g := none) ⟨(.slot 6), [], 0, false, 1, (CV.frzEs (x0.map intRow))⟩ (x0).length _ kr kr kr kr kr (frz_len _ _) rfl ?_
  refine LAt.runU tOk 2 kr ?_
  refine LAt.doneM 18 0 kr ?_
  refine Tr.seq ?_
  refine Tr.rgn tOk 2 1042 0 kr kr ?_
  cases h1 : (decide ((IntKind.wrap .i64 (x1 - (x0.length : Int))) < 0))
  · have H := bifF h1 H
    refine Tr.cF h1 kr ?_
    refine Tr.skip ?_
    show Tr _ _ _ _ _
    refine Tr.rgn tOk 2 16 0 kr kr ?_
    refine Tr.ret ?_
    have H := Option.some.inj H
    subst H
    exact Fin.of _ [(false, [cI (IntKind.wrap .i64 (x1 - (x0.length : Int)))])] kr rfl rfl
  have H := bifT h1 H
  refine Tr.cT h1 kr ?_
  refine Tr.rgn tOk 1 18 0 kr kr ?_
  refine Tr.ret ?_
  have H := Option.some.inj H
  subst H
  exact Fin.of _ [(false, [cI (-1)])] kr rfl rfl

def laws_szVtabF (n : Nat) (x0 : Vtab) (x1 : Int) : Option (Int) :=
  ((laws_szVrowSF n x0.Rows x1).bind fun r1 => (bif (decide (r1 < 0)) then (some (-1)) else ((laws_szIntSF n x0.Pvid r1).bind fun r2 => (bif (decide (r2 < 0)) then (some (-1)) else (some r2)))))
/-- loop.example/g00326/laws.szVtab -/
theorem laws_szVtab (n : Nat) (x0 : Vtab) (x1 : Int) (r : Int) (H : laws_szVtabF n x0 x1 = some r) : LCall Try.prog 96 [.val true (CV.frzRow (Vtab.row x0)), .val false [.lit (.int .i64 x1)]] [.val false [.lit (.int .i64 r)]] [] := by
  refine LCall.of_body tOk Try.func96 rfl (c := (.seq (Rg Try.f96 0) (.seq (Rg Try.f96 1) (.seq (.seq (Rg Try.f96 2) (.cond (.tmp 10) (.seq (Rg Try.f96 3) .ret) .skip)) (.seq (Rg Try.f96 4) (.seq (.seq (Rg Try.f96 5) (.cond (.tmp 16) (.seq (Rg Try.f96 6) .ret) .skip)) (.seq (Rg Try.f96 7) .ret))))))) kr (Nat.le_of_ble_eq_true kr) 0 (rs := [.tmp 4]) rfl [] .nil [(false, [.lit (.int .i64 r)])] [] [] fun cx => ?_
  show Tr _ _ _ ⟨18, 0, [sV 0 (CV.frzRow (Vtab.row x0)), sI 1 x1], []⟩ _
  unfold laws_szVtabF at H
  refine Tr.rgn tOk 2 22 4 kr kr ?_
  refine Tr.rs ?_
  refine LAt.runU tOk 3 kr ?_
  obtain ⟨r1, er1, H⟩ := bind_some H
  refine LAt.callV tOk [.rd, .rd] [] (laws_szVrowS n x0.Rows x1 r1 er1) kr kr kr kr (.inl rfl) ?_
  refine LAt.runU tOk 1 kr ?_
  refine LAt.doneM 22 4 kr ?_
  refine Tr.seq ?_
  refine Tr.rgn tOk 2 1046 4 kr kr ?_
  cases h1 : (decide (r1 < 0))
  · have H := bifF h1 H
    refine Tr.cF h1 kr ?_
    refine Tr.skip ?_
    show Tr _ _ _ _ _
    refine Tr.rs ?_
    refine LAt.runU tOk 3 kr ?_
    obtain ⟨r2, er2, H⟩ := bind_some H
    refine LAt.callV tOk [.rd, .rd] [] (laws_szIntS n x0.Pvid r1 r2 er2) kr kr kr kr (.inl rfl) ?_
    refine LAt.runU tOk 1 kr ?_
    refine LAt.doneM 18 0 kr ?_
    refine Tr.seq ?_
    refine Tr.rgn tOk 2 65554 0 kr kr ?_
    cases h2 : (decide (r2 < 0))
    · have H := bifF h2 H
      refine Tr.cF h2 kr ?_
      refine Tr.skip ?_
      show Tr _ _ _ _ _
      refine Tr.rgn tOk 2 16 0 kr kr ?_
      refine Tr.ret ?_
      have H := Option.some.inj H
      subst H
      exact Fin.of _ [(false, [cI r2])] kr rfl rfl
    have H := bifT h2 H
    refine Tr.cT h2 kr ?_
    refine Tr.rgn tOk 1 18 0 kr kr ?_
    refine Tr.ret ?_
    have H := Option.some.inj H
    subst H
    exact Fin.of _ [(false, [cI (-1)])] kr rfl rfl
  have H := bifT h1 H
  refine Tr.cT h1 kr ?_
  refine Tr.rgn tOk 1 22 4 kr kr ?_
  refine Tr.ret ?_
  have H := Option.some.inj H
  subst H
  exact Fin.of _ [(false, [cI (-1)])] kr rfl rfl

def laws_szBridgeF (n : Nat) (x0 : Bridge) (x1 : Int) : Option (Int) :=
  (bif (decide ((IntKind.wrap .i64 (x1 - (x0.Name.size : Int))) < 0)) then (some (-1)) else ((laws_szPtSF n x0.Ports (IntKind.wrap .i64 (x1 - (x0.Name.size : Int)))).bind fun r1 => (bif (decide (r1 < 0)) then (some (-1)) else ((laws_szFentSF n x0.F r1).bind fun r2 => (bif (decide (r2 < 0)) then (some (-1)) else ((laws_szVtabF n x0.V r2).bind fun r3 => (bif (decide (r3 < 0)) then (some (-1)) else (some r3))))))))
/-- loop.example/g00326/laws.szBridge -/
theorem laws_szBridge (n : Nat) (x0 : Bridge) (x1 : Int) (r : Int) (H : laws_szBridgeF n x0 x1 = some r) : LCall Try.prog 35 [.val true (CV.frzRow (Bridge.row x0)), .val false [.lit (.int .i64 x1)]] [.val false [.lit (.int .i64 r)]] [] := by
  refine LCall.of_body tOk Try.func35 rfl (c := (.seq (Rg Try.f35 0) (.seq (Rg Try.f35 1) (.seq (.seq (Rg Try.f35 2) (.cond (.tmp 11) (.seq (Rg Try.f35 3) .ret) .skip)) (.seq (Rg Try.f35 4) (.seq (.seq (Rg Try.f35 5) (.cond (.tmp 17) (.seq (Rg Try.f35 6) .ret) .skip)) (.seq (Rg Try.f35 7) (.seq (.seq (Rg Try.f35 8) (.cond (.tmp 23) (.seq (Rg Try.f35 9) .ret) .skip)) (.seq (Rg Try.f35 10) (.seq (.seq (Rg Try.f35 11) (.cond (.tmp 29) (.seq (Rg Try.f35 12) .ret) .skip)) (.seq (Rg Try.f35 13) .ret))))))))))) kr (Nat.le_of_ble_eq_true kr) 0 (rs := [.tmp 4]) rfl [] .nil [(false, [.lit (.int .i64 r)])] [] [] fun cx => ?_
  show Tr _ _ _ ⟨31, 0, [sV 0 (CV.frzRow (Bridge.row x0)), sI 1 x1], []⟩ _
  unfold laws_szBridgeF at H
  refine Tr.rgn tOk 2 22 4 kr kr ?_
  refine Tr.rgn tOk 6 22 4 kr kr ?_
  refine Tr.seq ?_
  refine Tr.rgn tOk 2 2070 4 kr kr ?_
  cases h1 : (decide ((IntKind.wrap .i64 (x1 - (x0.Name.size : Int))) < 0))
  · have H := bifF h1 H
    refine Tr.cF h1 kr ?_
    refine Tr.skip ?_
    show Tr _ _ _ _ _
    refine Tr.rs ?_
    refine LAt.runU tOk 3 kr ?_
    obtain ⟨r1, er1, H⟩ := bind_some H
    refine LAt.callV tOk [.rd, .rd] [] (laws_szPtS n x0.Ports (IntKind.wrap .i64 (x1 - (x0.Name.size : Int))) r1 er1) kr kr kr kr (.inl rfl) ?_
    refine LAt.runU tOk 1 kr ?_
    refine LAt.doneM 22 4 kr ?_
    refine Tr.seq ?_
    refine Tr.rgn tOk 2 131094 4 kr kr ?_
    cases h2 : (decide (r1 < 0))
    · have H := bifF h2 H
      refine Tr.cF h2 kr ?_
      refine Tr.skip ?_
      show Tr _ _ _ _ _
      refine Tr.rs ?_
      refine LAt.runU tOk 3 kr ?_
      obtain ⟨r2, er2, H⟩ := bind_some H
      refine LAt.callV tOk [.rd, .rd] [] (laws_szFentS n x0.F r1 r2 er2) kr kr kr kr (.inl rfl) ?_
      refine LAt.runU tOk 1 kr ?_
      refine LAt.doneM 22 4 kr ?_
      refine Tr.seq ?_
      refine Tr.rgn tOk 2 8388630 4 kr kr ?_
      cases h3 : (decide (r2 < 0))
      · have H := bifF h3 H
        refine Tr.cF h3 kr ?_
        refine Tr.skip ?_
        show Tr _ _ _ _ _
        refine Tr.rs ?_
        refine LAt.runU tOk 3 kr ?_
        obtain ⟨r3, er3, H⟩ := bind_some H
        refine LAt.callV tOk [.rd, .rd] [] (laws_szVtab n x0.V r2 r3 er3) kr kr kr kr (.inl rfl) ?_
        refine LAt.runU tOk 1 kr ?_
        refine LAt.doneM 18 0 kr ?_
        refine Tr.seq ?_
        refine Tr.rgn tOk 2 536870930 0 kr kr ?_
        cases h4 : (decide (r3 < 0))
        · have H := bifF h4 H
          refine Tr.cF h4 kr ?_
          refine Tr.skip ?_
          show Tr _ _ _ _ _
          refine Tr.rgn tOk 2 16 0 kr kr ?_
          refine Tr.ret ?_
          have H := Option.some.inj H
          subst H
          exact Fin.of _ [(false, [cI r3])] kr rfl rfl
        have H := bifT h4 H
        refine Tr.cT h4 kr ?_
        refine Tr.rgn tOk 1 18 0 kr kr ?_
        refine Tr.ret ?_
        have H := Option.some.inj H
        subst H
        exact Fin.of _ [(false, [cI (-1)])] kr rfl rfl
      have H := bifT h3 H
      refine Tr.cT h3 kr ?_
      refine Tr.rgn tOk 1 22 4 kr kr ?_
      refine Tr.ret ?_
      have H := Option.some.inj H
      subst H
      exact Fin.of _ [(false, [cI (-1)])] kr rfl rfl
    have H := bifT h2 H
    refine Tr.cT h2 kr ?_
    refine Tr.rgn tOk 1 22 4 kr kr ?_
    refine Tr.ret ?_
    have H := Option.some.inj H
    subst H
    exact Fin.of _ [(false, [cI (-1)])] kr rfl rfl
  have H := bifT h1 H
  refine Tr.cT h1 kr ?_
  refine Tr.rgn tOk 1 22 4 kr kr ?_
  refine Tr.ret ?_
  have H := Option.some.inj H
  subst H
  exact Fin.of _ [(false, [cI (-1)])] kr rfl rfl

def laws_toVecF (n : Nat) (x0 : Vec) : Option (Vec) :=
  (some x0)
/-- loop.example/g00326/laws.toVec -/
theorem laws_toVec (n : Nat) (x0 : Vec) (r : Vec) (H : laws_toVecF n x0 = some r) : LCall Try.prog 43 [.val true (CV.frzRow (Vec.row x0))] [.val true (Vec.row r)] [] := by
  refine LCall.of_body tOk Try.func43 rfl (c := (.seq (Rg Try.f43 0) (.seq (Rg Try.f43 1) (.seq (Rg Try.f43 2) (.seq (Rg Try.f43 3) (.seq (Rg Try.f43 4) (.seq (Rg Try.f43 5) (.seq (Rg Try.f43 6) (.seq (Rg Try.f43 7) .ret))))))))) kr (Nat.le_of_ble_eq_true kr) 0 (rs := [.cell 2 70]) rfl [] .nil [(true, (Vec.row r))] [] [] fun cx => ?_
  show Tr _ _ _ ⟨20, 0, [sV 0 (Vec.row x0)], []⟩ _
  unfold laws_toVecF at H
  refine Tr.rgn tOk 2 6 6 kr kr ?_
  refine Tr.rgn tOk 1 14 14 kr kr ?_
  refine Tr.rgn tOk 4 14 14 kr kr ?_
  refine Tr.rgn tOk 4 14 14 kr kr ?_
  refine Tr.rgn tOk 4 14 14 kr kr ?_
  refine Tr.rgn tOk 4 14 14 kr kr ?_
  refine Tr.rgn tOk 4 12 12 kr kr ?_
  refine Tr.rgn tOk 2 4 4 kr kr ?_
  refine Tr.ret ?_
  have H := Option.some.inj H
  subst H
  exact Fin.of _ [(true, (Vec.row x0))] kr rfl rfl

def laws_toPtF (n : Nat) (x0 : Pt) : Option (Pt) :=
  ((laws_toVecF n x0.Heard).bind fun r1 => (some (⟨x0.Up, x0.Cost, x0.Has, r1⟩ : Pt)))
/-- loop.example/g00326/laws.toPt -/
theorem laws_toPt (n : Nat) (x0 : Pt) (r : Pt) (H : laws_toPtF n x0 = some r) : LCall Try.prog 155 [.val true (CV.frzRow (Pt.row x0))] [.val true (Pt.row r)] [] := by
  refine LCall.of_body tOk Try.func155 rfl (c := (.seq (Rg Try.f155 0) (.seq (Rg Try.f155 1) (.seq (Rg Try.f155 2) (.seq (Rg Try.f155 3) (.seq (Rg Try.f155 4) (.seq (Rg Try.f155 5) (.seq (Rg Try.f155 6) .ret)))))))) kr (Nat.le_of_ble_eq_true kr) 0 (rs := [.cell 2 114]) rfl [] .nil [(true, (Pt.row r))] [] [] fun cx => ?_
  show Tr _ _ _ ⟨18, 0, [sV 0 (Pt.row x0)], []⟩ _
  unfold laws_toPtF at H
  refine Tr.rgn tOk 2 6 6 kr kr ?_
  refine Tr.rgn tOk 1 14 14 kr kr ?_
  refine Tr.rgn tOk 4 14 14 kr kr ?_
  refine Tr.rgn tOk 4 14 14 kr kr ?_
  refine Tr.rgn tOk 4 14 14 kr kr ?_
  refine Tr.rs ?_
  refine LAt.runU tOk 2 kr ?_
  obtain ⟨r1, er1, H⟩ := bind_some H
  refine LAt.callV tOk [.rd] [] (laws_toVec n x0.Heard r1 er1) kr kr kr kr (.inl rfl) ?_
  refine LAt.runU tOk 2 kr ?_
  refine LAt.doneM 12 12 kr ?_
  refine Tr.rgn tOk 2 4 4 kr kr ?_
  refine Tr.ret ?_
  have H := Option.some.inj H
  subst H
  exact Fin.of _ [(true, [cB x0.Up, cI x0.Cost, cB x0.Has, cI r1.Root, cI r1.Cost, cI r1.Hops, cI r1.Bridge, cI r1.Port])] kr rfl rfl

def laws_toPtS_J1 (n : Nat) (y4 : (List Pt)) : Option ((List Pt)) :=
  (some y4)
def laws_toPtS_L2 (n : Nat) : Nat → (List Pt) → Int → (List Pt) → Option (((List Pt)) ⊕ ((List Pt)))
  | 0, _, _, _ => none
  | mo5 + 1, x0, y2, y3 => (bif (decide (y2 < (x0.length : Int))) then ((idx x0 y2).bind fun v6 => ((laws_toPtF n v6).bind fun r7 => ((idx y3 y2).bind fun v8 => (laws_toPtS_L2 n mo5 x0 (IntKind.wrap .i64 (y2 + 1)) (y3.set (y2.toNat) r7))))) else (some (Sum.inl y3)))
def laws_toPtSF (n : Nat) (x0 : (List Pt)) : Option ((List Pt)) :=
  (bif (decide (0 ≤ (x0.length : Int)) && decide ((x0.length : Int) ≤ 268435456)) then ((laws_toPtS_L2 n n x0 0 (List.replicate ((x0.length : Int)).toNat (⟨false, 0, false, (⟨0, 0, 0, 0, 0⟩ : Vec)⟩ : Pt))).bind fun o => match o with | .inl y4 => (laws_toPtS_J1 n y4) | .inr r => some r) else none)
/-- loop.example/g00326/laws.toPtS -/
theorem laws_toPtS (n : Nat) (x0 : (List Pt)) (r : (List Pt)) (H : laws_toPtSF n x0 = some r) : LCall Try.prog 100 [.val false [.sl false 8 (CV.frzEs (x0.map Pt.row))]] [.val false [.sl true 8 (r.map Pt.row)]] [] := by
  refine LCall.of_body tOk Try.func100 rfl (c := (.seq (Rg Try.f100 0) (.seq (Rg Try.f100 1) (.seq (.seq (Rg Try.f100 2) (.block 0 (.loop (.seq (.seq (Rg Try.f100 3) (.cond (.tmp 11) .skip (.exit 0))) (.seq (.block 1 (Rg Try.f100 5)) (Rg Try.f100 4)))))) (.seq (Rg Try.f100 6) .ret))))) kr (Nat.le_of_ble_eq_true kr) 0 (rs := [.tmp 2]) rfl [] .nil [(false, [.sl true 8 (r.map Pt.row)])] [] [] fun cx => ?_
  show Tr _ _ _ ⟨23, 0, [sC 0 (cF 8 x0 Pt.row)], []⟩ _
  unfold laws_toPtSF at H
  refine Tr.rgn tOk 1 5 0 kr kr ?_
  refine Tr.rs ?_
  refine LAt.runU tOk 1 kr ?_
  refine LAt.lenE tOk (t := 47) (ty := 3) (e := 169) (x := (.tmp 5)) (d := 6) (g := none) ⟨(.slot 5), [], 0, false, 8, (CV.frzEs (x0.map Pt.row))⟩ (x0).length _ kr kr kr kr kr (frz_len _ _) rfl ?_
  obtain ⟨hg1, H⟩ := guard_some H
  refine LAt.makeG tOk (t := 55) (ty := 55) (e := 114) (x := (.tmp 6)) (d := 7) (g := none) ⟨.st [(0, 1, 4), (1, 1, 3), (2, 1, 4), (3, 5, 70)], 8, 64, [.lit (.bool false), .lit (.int .i64 0), .lit (.bool false), .lit (.int .i64 0), .lit (.int .i64 0), .lit (.int .i64 0), .lit (.int .i64 0), .lit (.int .i64 0)]⟩ (x0.length : Int) ((List.replicate ((x0.length : Int)).toNat (⟨false, 0, false, (⟨0, 0, 0, 0, 0⟩ : Vec)⟩ : Pt)).map Pt.row) _ kr kr kr kr kr kr hg1 kr (rep_map _ rfl) rfl ?_
  refine LAt.moveU (T := lk tab) (ty := 55) (x := (.tmp 7)) (d := 3) (g := none) false [cL 8 (List.replicate ((x0.length : Int)).toNat (⟨false, 0, false, (⟨0, 0, 0, 0, 0⟩ : Vec)⟩ : Pt)) Pt.row] kr kr kr kr kr ?_
  refine LAt.doneM 13 0 kr ?_
  refine Tr.seq ?_
  refine Tr.rgn tOk 1 29 0 kr kr ?_
  obtain ⟨o5, eo5, Ho5⟩ := bind_some H
  clear H
  refine Tr.mid (ι := (List Pt)) (fun v => ⟨23, 0, [sC 3 (cL 8 v Pt.row), sC 2 (cL 8 ([] : List Pt) Pt.row)], []⟩) (fun v => laws_toPtS_J1 n v = some r) ?_ ?_
  · refine Tr.block ?_
    refine Tr.loop (ι := Nat × (Int × (List Pt))) (fun v => ⟨23, 0, [sI 4 v.2.1, sC 3 (cL 8 v.2.2 Pt.row), sC 2 (cL 8 ([] : List Pt) Pt.row), sC 0 (cF 8 x0 Pt.row)], []⟩) (fun v => laws_toPtS_L2 n v.1 x0 v.2.1 v.2.2 = some o5) (fun v => v.1) (n, (0, (List.replicate ((x0.length : Int)).toNat (⟨false, 0, false, (⟨0, 0, 0, 0, 0⟩ : Vec)⟩ : Pt)))) eo5 (St.sub_of [4, 3, 2, 0] [] kr) ?_
    rintro ⟨mo5, y2, y3⟩ H
    have H : laws_toPtS_L2 n mo5 x0 y2 y3 = some o5 := H
    obtain _ | mo5 := mo5
    · cases (show (none : Option _) = some o5 from H)
    rw [laws_toPtS_L2] at H
    refine Tr.seq ?_
    refine Tr.rs ?_
    refine LAt.runU tOk 2 kr ?_
    refine LAt.lenE tOk (t := 47) (ty := 3) (e := 169) (x := (.tmp 9)) (d := 10) (g := none) ⟨(.slot 9), [], 0, false, 8, (CV.frzEs (x0.map Pt.row))⟩ (x0).length _ kr kr kr kr kr (frz_len _ _) rfl ?_
    refine LAt.runU tOk 1 kr ?_
    refine LAt.doneM 3869 0 kr ?_
    cases h1 : (decide (y2 < (x0.length : Int)))
    · have H := bifF h1 H
      refine Tr.cF h1 kr ?_
      refine Tr.exit ?_
      refine And.intro (fun _ => ?_) (fun h => absurd rfl h)
      have H := Option.some.inj H
      subst H
      have H := Ho5
      dsimp only at H
      exact Exists.intro y3 (And.intro H (St.sub_of [3, 2] [] kr))
    have H := bifT h1 H
    refine Tr.cT h1 kr ?_
    refine Tr.skip ?_
    show Tr _ _ _ _ _
    refine Tr.seq ?_
    refine Tr.block ?_
    refine Tr.at ?_
    refine LAt.runU tOk 4 kr ?_
    obtain ⟨v6, ev6, H⟩ := bind_some H
    refine LAt.indexF tOk (t := 47) (ty := 0) (x := (.tmp 16)) (y := (.tmp 17)) (d := 18) (g := none) ⟨(.slot 16), [], 0, false, 8, (CV.frzEs (x0.map Pt.row))⟩ y2 (Pt.row v6) _ kr kr kr kr rfl (idx_isF ev6) rfl ?_
    refine LAt.runU tOk 1 kr ?_
    obtain ⟨r7, er7, H⟩ := bind_some H
    refine LAt.callV tOk [.rd] [] (laws_toPt n v6 r7 er7) kr kr kr kr (.inl rfl) ?_
    obtain ⟨v8, ev8, H⟩ := bind_some H
    refine LAt.indexO tOk (t := 55) (ty := 0) (x := (.tmp 14)) (y := (.tmp 15)) (d := 21) (g := none) ⟨(.slot 3), [], 0, true, 8, (y3.map Pt.row)⟩ y2 (y2.toNat) (Pt.row v8) _ kr kr kr kr rfl kr (idx_isE ev8) rfl rfl ?_
    refine LAt.storeS tOk (t := 114) (ty := 0) (ad := (.tmp 21)) (x := (.tmp 20)) (g := none) ⟨.st [(0, 1, 4), (1, 1, 3), (2, 1, 4), (3, 5, 70)], 8, 64, [.lit (.bool false), .lit (.int .i64 0), .lit (.bool false), .lit (.int .i64 0), .lit (.int .i64 0), .lit (.int .i64 0), .lit (.int .i64 0), .lit (.int .i64 0)]⟩ true (Pt.row r7) 3 0 (y2.toNat) 8 0 8 y3 Pt.row v8 r7 kr kr kr kr kr kr kr kr (idx_get ev8).2 kr kr kr kr ?_
    refine LAt.doneM 4181789 0 kr ?_
    show Tr _ _ _ _ _
    refine Tr.rgE tOk 3 4194077 0 kr kr ?_
    exact Exists.intro (mo5, ((IntKind.wrap .i64 (y2 + 1)), (y3.set (y2.toNat) r7))) (And.intro H (And.intro (Nat.lt_succ_self mo5) (St.sub_of [4, 3, 2, 0] [] kr)))
  rintro y4 H
  have H : (laws_toPtS_J1 n y4) = some r := H
  unfold laws_toPtS_J1 at H
  show Tr _ _ _ _ _
  refine Tr.rgn tOk 2 12 0 kr kr ?_
  refine Tr.ret ?_
  have H := Option.some.inj H
  subst H
  exact Fin.of _ [(false, [cL 8 y4 Pt.row])] kr rfl rfl

def laws_toFentF (n : Nat) (x0 : Fent) : Option (Fent) :=
  (some x0)
/-- loop.example/g00326/laws.toFent -/
theorem laws_toFent (n : Nat) (x0 : Fent) (r : Fent) (H : laws_toFentF n x0 = some r) : LCall Try.prog 156 [.val true (CV.frzRow (Fent.row x0))] [.val true (Fent.row r)] [] := by
  refine LCall.of_body tOk Try.func156 rfl (c := (.seq (Rg Try.f156 0) (.seq (Rg Try.f156 1) (.seq (Rg Try.f156 2) (.seq (Rg Try.f156 3) (.seq (Rg Try.f156 4) (.seq (Rg Try.f156 5) (.seq (Rg Try.f156 6) (.seq (Rg Try.f156 7) .ret))))))))) kr (Nat.le_of_ble_eq_true kr) 0 (rs := [.cell 2 141]) rfl [] .nil [(true, (Fent.row r))] [] [] fun cx => ?_
  show Tr _ _ _ ⟨20, 0, [sV 0 (Fent.row x0)], []⟩ _
  unfold laws_toFentF at H
  refine Tr.rgn tOk 2 6 6 kr kr ?_
  refine Tr.rgn tOk 1 14 14 kr kr ?_
  refine Tr.rgn tOk 4 14 14 kr kr ?_
  refine Tr.rgn tOk 4 14 14 kr kr ?_
  refine Tr.rgn tOk 4 14 14 kr kr ?_
  refine Tr.rgn tOk 4 14 14 kr kr ?_
  refine Tr.rgn tOk 4 12 12 kr kr ?_
  refine Tr.rgn tOk 2 4 4 kr kr ?_
  refine Tr.ret ?_
  have H := Option.some.inj H
  subst H
  exact Fin.of _ [(true, (Fent.row x0))] kr rfl rfl

def laws_toFentS_J1 (n : Nat) (y4 : (List Fent)) : Option ((List Fent)) :=
  (some y4)
def laws_toFentS_L2 (n : Nat) : Nat → (List Fent) → Int → (List Fent) → Option (((List Fent)) ⊕ ((List Fent)))
  | 0, _, _, _ => none
  | mo5 + 1, x0, y2, y3 => (bif (decide (y2 < (x0.length : Int))) then ((idx x0 y2).bind fun v6 => ((laws_toFentF n v6).bind fun r7 => ((idx y3 y2).bind fun v8 => (laws_toFentS_L2 n mo5 x0 (IntKind.wrap .i64 (y2 + 1)) (y3.set (y2.toNat) r7))))) else (some (Sum.inl y3)))
def laws_toFentSF (n : Nat) (x0 : (List Fent)) : Option ((List Fent)) :=
  (bif (decide (0 ≤ (x0.length : Int)) && decide ((x0.length : Int) ≤ 268435456)) then ((laws_toFentS_L2 n n x0 0 (List.replicate ((x0.length : Int)).toNat (⟨0, 0, 0, 0, false⟩ : Fent))).bind fun o => match o with | .inl y4 => (laws_toFentS_J1 n y4) | .inr r => some r) else none)
/-- loop.example/g00326/laws.toFentS -/
theorem laws_toFentS (n : Nat) (x0 : (List Fent)) (r : (List Fent)) (H : laws_toFentSF n x0 = some r) : LCall Try.prog 101 [.val false [.sl false 5 (CV.frzEs (x0.map Fent.row))]] [.val false [.sl true 5 (r.map Fent.row)]] [] := by
  refine LCall.of_body tOk Try.func101 rfl (c := (.seq (Rg Try.f101 0) (.seq (Rg Try.f101 1) (.seq (.seq (Rg Try.f101 2) (.block 0 (.loop (.seq (.seq (Rg Try.f101 3) (.cond (.tmp 11) .skip (.exit 0))) (.seq (.block 1 (Rg Try.f101 5)) (Rg Try.f101 4)))))) (.seq (Rg Try.f101 6) .ret))))) kr (Nat.le_of_ble_eq_true kr) 0 (rs := [.tmp 2]) rfl [] .nil [(false, [.sl true 5 (r.map Fent.row)])] [] [] fun cx => ?_
  show Tr _ _ _ ⟨23, 0, [sC 0 (cF 5 x0 Fent.row)], []⟩ _
  unfold laws_toFentSF at H
  refine Tr.rgn tOk 1 5 0 kr kr ?_
  refine Tr.rs ?_
  refine LAt.runU tOk 1 kr ?_
  refine LAt.lenE tOk (t := 48) (ty := 3) (e := 171) (x := (.tmp 5)) (d := 6) (g := none) ⟨(.slot 5), [], 0, false, 5, (CV.frzEs (x0.map Fent.row))⟩ (x0).length _ kr kr kr kr kr (frz_len _ _) rfl ?_
  obtain ⟨hg1, H⟩ := guard_some H
  refine LAt.makeG tOk (t := 56) (ty := 56) (e := 141) (x := (.tmp 6)) (d := 7) (g := none) ⟨.st [(0, 1, 3), (1, 1, 3), (2, 1, 3), (3, 1, 3), (4, 1, 4)], 5, 40, [.lit (.int .i64 0), .lit (.int .i64 0), .lit (.int .i64 0), .lit (.int .i64 0), .lit (.bool false)]⟩ (x0.length : Int) ((List.replicate ((x0.length : Int)).toNat (⟨0, 0, 0, 0, false⟩ : Fent)).map Fent.row) _ kr kr kr kr kr kr hg1 kr (rep_map _ rfl) rfl ?_
  refine LAt.moveU (T := lk tab) (ty := 56) (x := (.tmp 7)) (d := 3) (g := none) false [cL 5 (List.replicate ((x0.length : Int)).toNat (⟨0, 0, 0, 0, false⟩ : Fent)) Fent.row] kr kr kr kr kr ?_
  refine LAt.doneM 13 0 kr ?_
  refine Tr.seq ?_
  refine Tr.rgn tOk 1 29 0 kr kr ?_
  obtain ⟨o5, eo5, Ho5⟩ := bind_some H
  clear H
  refine Tr.mid (ι := (List Fent)) (fun v => ⟨23, 0, [sC 3 (cL 5 v Fent.row), sC 2 (cL 5 ([] : List Fent) Fent.row)], []⟩) (fun v => laws_toFentS_J1 n v = some r) ?_ ?_
  · refine Tr.block ?_
    refine Tr.loop (ι := Nat × (Int × (List Fent))) (fun v => ⟨23, 0, [sI 4 v.2.1, sC 3 (cL 5 v.2.2 Fent.row), sC 2 (cL 5 ([] : List Fent) Fent.row), sC 0 (cF 5 x0 Fent.row)], []⟩) (fun v => laws_toFentS_L2 n v.1 x0 v.2.1 v.2.2 = some o5) (fun v => v.1) (n, (0, (List.replicate ((x0.length : Int)).toNat (⟨0, 0, 0, 0, false⟩ : Fent)))) eo5 (St.sub_of [4, 3, 2, 0] [] kr) ?_
    rintro ⟨mo5, y2, y3⟩ H
    have H : laws_toFentS_L2 n mo5 x0 y2 y3 = some o5 := H
    obtain _ | mo5 := mo5
    · cases (show (none : Option _) = some o5 from H)
    rw [laws_toFentS_L2] at H
    refine Tr.seq ?_
    refine Tr.rs ?_
    refine LAt.runU tOk 2 kr ?_
    refine LAt.lenE tOk (t := 48) (ty := 3) (e := 171) (x := (.tmp 9)) (d := 10) (g := none) ⟨(.slot 9), [], 0, false, 5, (CV.frzEs (x0.map Fent.row))⟩ (x0).length _ kr kr kr kr kr (frz_len _ _) rfl ?_
    refine LAt.runU tOk 1 kr ?_
    refine LAt.doneM 3869 0 kr ?_
    cases h1 : (decide (y2 < (x0.length : Int)))
    · have H := bifF h1 H
      refine Tr.cF h1 kr ?_
      refine Tr.exit ?_
      refine And.intro (fun _ => ?_) (fun h => absurd rfl h)
      have H := Option.some.inj H
      subst H
      have H := Ho5
      dsimp only at H
      exact Exists.intro y3 (And.intro H (St.sub_of [3, 2] [] kr))
    have H := bifT h1 H
    refine Tr.cT h1 kr ?_
    refine Tr.skip ?_
    show Tr _ _ _ _ _
    refine Tr.seq ?_
    refine Tr.block ?_
    refine Tr.at ?_
    refine LAt.runU tOk 4 kr ?_
    obtain ⟨v6, ev6, H⟩ := bind_some H
    refine LAt.indexF tOk (t := 48) (ty := 0) (x := (.tmp 16)) (y := (.tmp 17)) (d := 18) (g := none) ⟨(.slot 16), [], 0, false, 5, (CV.frzEs (x0.map Fent.row))⟩ y2 (Fent.row v6) _ kr kr kr kr rfl (idx_isF ev6) rfl ?_
    refine LAt.runU tOk 1 kr ?_
    obtain ⟨r7, er7, H⟩ := bind_some H
    refine LAt.callV tOk [.rd] [] (laws_toFent n v6 r7 er7) kr kr kr kr (.inl rfl) ?_
    obtain ⟨v8, ev8, H⟩ := bind_some H
    refine LAt.indexO tOk (t := 56) (ty := 0) (x := (.tmp 14)) (y := (.tmp 15)) (d := 21) (g := none) ⟨(.slot 3), [], 0, true, 5, (y3.map Fent.row)⟩ y2 (y2.toNat) (Fent.row v8) _ kr kr kr kr rfl kr (idx_isE ev8) rfl rfl ?_
    refine LAt.storeS tOk (t := 141) (ty := 0) (ad := (.tmp 21)) (x := (.tmp 20)) (g := none) ⟨.st [(0, 1, 3), (1, 1, 3), (2, 1, 3), (3, 1, 3), (4, 1, 4)], 5, 40, [.lit (.int .i64 0), .lit (.int .i64 0), .lit (.int .i64 0), .lit (.int .i64 0), .lit (.bool false)]⟩ true (Fent.row r7) 3 0 (y2.toNat) 5 0 5 y3 Fent.row v8 r7 kr kr kr kr kr kr kr kr (idx_get ev8).2 kr kr kr kr ?_
    refine LAt.doneM 4181789 0 kr ?_
    show Tr _ _ _ _ _
    refine Tr.rgE tOk 3 4194077 0 kr kr ?_
    exact Exists.intro (mo5, ((IntKind.wrap .i64 (y2 + 1)), (y3.set (y2.toNat) r7))) (And.intro H (And.intro (Nat.lt_succ_self mo5) (St.sub_of [4, 3, 2, 0] [] kr)))
  rintro y4 H
  have H : (laws_toFentS_J1 n y4) = some r := H
  unfold laws_toFentS_J1 at H
  show Tr _ _ _ _ _
  refine Tr.rgn tOk 2 12 0 kr kr ?_
  refine Tr.ret ?_
  have H := Option.some.inj H
  subst H
  exact Fin.of _ [(false, [cL 5 y4 Fent.row])] kr rfl rfl

def laws_toVrowF (n : Nat) (x0 : Vrow) : Option (Vrow) :=
  (some x0)
/-- loop.example/g00326/laws.toVrow -/
theorem laws_toVrow (n : Nat) (x0 : Vrow) (r : Vrow) (H : laws_toVrowF n x0 = some r) : LCall Try.prog 180 [.val true (CV.frzRow (Vrow.row x0))] [.val true (Vrow.row r)] [] := by
  refine LCall.of_body tOk Try.func180 rfl (c := (.seq (Rg Try.f180 0) (.seq (Rg Try.f180 1) (.seq (Rg Try.f180 2) (.seq (Rg Try.f180 3) (.seq (Rg Try.f180 4) (.seq (Rg Try.f180 5) .ret))))))) kr (Nat.le_of_ble_eq_true kr) 0 (rs := [.cell 2 138]) rfl [] .nil [(true, (Vrow.row r))] [] [] fun cx => ?_
  show Tr _ _ _ ⟨14, 0, [sV 0 (Vrow.row x0)], []⟩ _
  unfold laws_toVrowF at H
  refine Tr.rgn tOk 2 6 6 kr kr ?_
  refine Tr.rgn tOk 1 14 14 kr kr ?_
  refine Tr.rgn tOk 4 14 14 kr kr ?_
  refine Tr.rgn tOk 4 14 14 kr kr ?_
  refine Tr.rgn tOk 4 12 12 kr kr ?_
  refine Tr.rgn tOk 2 4 4 kr kr ?_
  refine Tr.ret ?_
  have H := Option.some.inj H
  subst H
  exact Fin.of _ [(true, (Vrow.row x0))] kr rfl rfl

def laws_toVrowS_J1 (n : Nat) (y4 : (List Vrow)) : Option ((List Vrow)) :=
  (some y4)
def laws_toVrowS_L2 (n : Nat) : Nat → (List Vrow) → Int → (List Vrow) → Option (((List Vrow)) ⊕ ((List Vrow)))
  | 0, _, _, _ => none
  | mo5 + 1, x0, y2, y3 => (bif (decide (y2 < (x0.length : Int))) then ((idx x0 y2).bind fun v6 => ((laws_toVrowF n v6).bind fun r7 => ((idx y3 y2).bind fun v8 => (laws_toVrowS_L2 n mo5 x0 (IntKind.wrap .i64 (y2 + 1)) (y3.set (y2.toNat) r7))))) else (some (Sum.inl y3)))
def laws_toVrowSF (n : Nat) (x0 : (List Vrow)) : Option ((List Vrow)) :=
  (bif (decide (0 ≤ (x0.length : Int)) && decide ((x0.length : Int) ≤ 268435456)) then ((laws_toVrowS_L2 n n x0 0 (List.replicate ((x0.length : Int)).toNat (⟨0, 0, 0⟩ : Vrow))).bind fun o => match o with | .inl y4 => (laws_toVrowS_J1 n y4) | .inr r => some r) else none)
/-- loop.example/g00326/laws.toVrowS -/
theorem laws_toVrowS (n : Nat) (x0 : (List Vrow)) (r : (List Vrow)) (H : laws_toVrowSF n x0 = some r) : LCall Try.prog 157 [.val false [.sl false 3 (CV.frzEs (x0.map Vrow.row))]] [.val false [.sl true 3 (r.map Vrow.row)]] [] := by
  refine LCall.of_body tOk Try.func157 rfl (c := (.seq (Rg Try.f157 0) (.seq (Rg Try.f157 1) (.seq (.seq (Rg Try.f157 2) (.block 0 (.loop (.seq (.seq (Rg Try.f157 3) (.cond (.tmp 11) .skip (.exit 0))) (.seq (.block 1 (Rg Try.f157 5)) (Rg Try.f157 4)))))) (.seq (Rg Try.f157 6) .ret))))) kr (Nat.le_of_ble_eq_true kr) 0 (rs := [.tmp 2]) rfl [] .nil [(false, [.sl true 3 (r.map Vrow.row)])] [] [] fun cx => ?_
  show Tr _ _ _ ⟨23, 0, [sC 0 (cF 3 x0 Vrow.row)], []⟩ _
  unfold laws_toVrowSF at H
  refine Tr.rgn tOk 1 5 0 kr kr ?_
  refine Tr.rs ?_
  refine LAt.runU tOk 1 kr ?_
  refine LAt.lenE tOk (t := 49) (ty := 3) (e := 187) (x := (.tmp 5)) (d := 6) (g := none) ⟨(.slot 5), [], 0, false, 3, (CV.frzEs (x0.map Vrow.row))⟩ (x0).length _ kr kr kr kr kr (frz_len _ _) rfl ?_
  obtain ⟨hg1, H⟩ := guard_some H
  refine LAt.makeG tOk (t := 57) (ty := 57) (e := 138) (x := (.tmp 6)) (d := 7) (g := none) ⟨.st [(0, 1, 3), (1, 1, 3), (2, 1, 3)], 3, 24, [.lit (.int .i64 0), .lit (.int .i64 0), .lit (.int .i64 0)]⟩ (x0.length : Int) ((List.replicate ((x0.length : Int)).toNat (⟨0, 0, 0⟩ : Vrow)).map Vrow.row) _ kr kr kr kr kr kr hg1 kr (rep_map _ rfl) rfl ?_
  refine LAt.moveU (T := lk tab) (ty := 57) (x := (.tmp 7)) (d := 3) (g := none) false [cL 3 (List.replicate ((x0.length : Int)).toNat (⟨0, 0, 0⟩ : Vrow)) Vrow.row] kr kr kr kr kr ?_
  refine LAt.doneM 13 0 kr ?_
  refine Tr.seq ?_
  refine Tr.rgn tOk 1 29 0 kr kr ?_
  obtain ⟨o5, eo5, Ho5⟩ := bind_some H
  clear H
  refine Tr.mid (ι := (List Vrow)) (fun v => ⟨23, 0, [sC 3 (cL 3 v Vrow.row), sC 2 (cL 3 ([] : List Vrow) Vrow.row)], []⟩) (fun v => laws_toVrowS_J1 n v = some r) ?_ ?_
  · refine Tr.block ?_
    refine Tr.loop (ι := Nat × (Int × (List Vrow))) (fun v => ⟨23, 0, [sI 4 v.2.1, sC 3 (cL 3 v.2.2 Vrow.row), sC 2 (cL 3 ([] : List Vrow) Vrow.row), sC 0 (cF 3 x0 Vrow.row)], []⟩) (fun v => laws_toVrowS_L2 n v.1 x0 v.2.1 v.2.2 = some o5) (fun v => v.1) (n, (0, (List.replicate ((x0.length : Int)).toNat (⟨0, 0, 0⟩ : Vrow)))) eo5 (St.sub_of [4, 3, 2, 0] [] kr) ?_
    rintro ⟨mo5, y2, y3⟩ H
    have H : laws_toVrowS_L2 n mo5 x0 y2 y3 = some o5 := H
    obtain _ | mo5 := mo5
    · cases (show (none : Option _) = some o5 from H)
    rw [laws_toVrowS_L2] at H
    refine Tr.seq ?_
    refine Tr.rs ?_
    refine LAt.runU tOk 2 kr ?_
    refine LAt.lenE tOk (t := 49) (ty := 3) (e := 187) (x := (.tmp 9)) (d := 10) (g := none) ⟨(.slot 9), [], 0, false, 3, (CV.frzEs (x0.map Vrow.row))⟩ (x0).length _ kr kr kr kr kr (frz_len _ _) rfl ?_
    refine LAt.runU tOk 1 kr ?_
    refine LAt.doneM 3869 0 kr ?_
    cases h1 : (decide (y2 < (x0.length : Int)))
    · have H := bifF h1 H
      refine Tr.cF h1 kr ?_
      refine Tr.exit ?_
      refine And.intro (fun _ => ?_) (fun h => absurd rfl h)
      have H := Option.some.inj H
      subst H
      have H := Ho5
      dsimp only at H
      exact Exists.intro y3 (And.intro H (St.sub_of [3, 2] [] kr))
    have H := bifT h1 H
    refine Tr.cT h1 kr ?_
    refine Tr.skip ?_
    show Tr _ _ _ _ _
    refine Tr.seq ?_
    refine Tr.block ?_
    refine Tr.at ?_
    refine LAt.runU tOk 4 kr ?_
    obtain ⟨v6, ev6, H⟩ := bind_some H
    refine LAt.indexF tOk (t := 49) (ty := 0) (x := (.tmp 16)) (y := (.tmp 17)) (d := 18) (g := none) ⟨(.slot 16), [], 0, false, 3, (CV.frzEs (x0.map Vrow.row))⟩ y2 (Vrow.row v6) _ kr kr kr kr rfl (idx_isF ev6) rfl ?_
    refine LAt.runU tOk 1 kr ?_
    obtain ⟨r7, er7, H⟩ := bind_some H
    refine LAt.callV tOk [.rd] [] (laws_toVrow n v6 r7 er7) kr kr kr kr (.inl rfl) ?_
    obtain ⟨v8, ev8, H⟩ := bind_some H
    refine LAt.indexO tOk (t := 57) (ty := 0) (x := (.tmp 14)) (y := (.tmp 15)) (d := 21) (g := none) ⟨(.slot 3), [], 0, true, 3, (y3.map Vrow.row)⟩ y2 (y2.toNat) (Vrow.row v8) _ kr kr kr kr rfl kr (idx_isE ev8) rfl rfl ?_
    refine LAt.storeS tOk (t := 138) (ty := 0) (ad := (.tmp 21)) (x := (.tmp 20)) (g := none) ⟨.st [(0, 1, 3), (1, 1, 3), (2, 1, 3)], 3, 24, [.lit (.int .i64 0), .lit (.int .i64 0), .lit (.int .i64 0)]⟩ true (Vrow.row r7) 3 0 (y2.toNat) 3 0 3 y3 Vrow.row v8 r7 kr kr kr kr kr kr kr kr (idx_get ev8).2 kr kr kr kr ?_
    refine LAt.doneM 4181789 0 kr ?_
    show Tr _ _ _ _ _
    refine Tr.rgE tOk 3 4194077 0 kr kr ?_
    exact Exists.intro (mo5, ((IntKind.wrap .i64 (y2 + 1)), (y3.set (y2.toNat) r7))) (And.intro H (And.intro (Nat.lt_succ_self mo5) (St.sub_of [4, 3, 2, 0] [] kr)))
  rintro y4 H
  have H : (laws_toVrowS_J1 n y4) = some r := H
  unfold laws_toVrowS_J1 at H
  show Tr _ _ _ _ _
  refine Tr.rgn tOk 2 12 0 kr kr ?_
  refine Tr.ret ?_
  have H := Option.some.inj H
  subst H
  exact Fin.of _ [(false, [cL 3 y4 Vrow.row])] kr rfl rfl

def laws_toIntS_J1 (n : Nat) (y4 : (List Int)) : Option ((List Int)) :=
  (some y4)
def laws_toIntS_L2 (n : Nat) : Nat → (List Int) → Int → (List Int) → Option (((List Int)) ⊕ ((List Int)))
  | 0, _, _, _ => none
  | mo5 + 1, x0, y2, y3 => (bif (decide (y2 < (x0.length : Int))) then ((idx x0 y2).bind fun v6 => ((idx y3 y2).bind fun v7 => (laws_toIntS_L2 n mo5 x0 (IntKind.wrap .i64 (y2 + 1)) (y3.set (y2.toNat) v6)))) else (some (Sum.inl y3)))
def laws_toIntSF (n : Nat) (x0 : (List Int)) : Option ((List Int)) :=
  (bif (decide (0 ≤ (x0.length : Int)) && decide ((x0.length : Int) ≤ 268435456)) then ((laws_toIntS_L2 n n x0 0 (List.replicate ((x0.length : Int)).toNat 0)).bind fun o => match o with | .inl y4 => (laws_toIntS_J1 n y4) | .inr r => some r) else none)
/-- loop.example/g00326/laws.toIntS -/
theorem laws_toIntS (n : Nat) (x0 : (List Int)) (r : (List Int)) (H : laws_toIntSF n x0 = some r) : LCall Try.prog 18 [.val false [.sl false 1 (CV.frzEs (x0.map intRow))]] [.val false [.sl true 1 (r.map intRow)]] [] := by
  refine LCall.of_body tOk Try.func18 rfl (c := (.seq (Rg Try.f18 0) (.seq (Rg Try.f18 1) (.seq (.seq (Rg Try.f18 2) (.block 0 (.loop (.seq (.seq (Rg Try.f18 3) (.cond (.tmp 11) .skip (.exit 0))) (.seq (.block 1 (Rg Try.f18 5)) (Rg Try.f18 4)))))) (.seq (Rg Try.f18 6) .ret))))) kr (Nat.le_of_ble_eq_true kr) 0 (rs := [.tmp 2]) rfl [] .nil [(false, [.sl true 1 (r.map intRow)])] [] [] fun cx => ?_
  show Tr _ _ _ ⟨22, 0, [sC 0 (cF 1 x0 intRow)], []⟩ _
  unfold laws_toIntSF at H
  refine Tr.rgn tOk 1 5 0 kr kr ?_
  refine Tr.rs ?_
  refine LAt.runU tOk 1 kr ?_
  refine LAt.lenE tOk (t := 27) (ty := 3) (e := 3) (x := (.tmp 5)) (d := 6) (g := none) ⟨(.slot 5), [], 0, false, 1, (CV.frzEs (x0.map intRow))⟩ (x0).length _ kr kr kr kr kr (frz_len _ _) rfl ?_
  obtain ⟨hg1, H⟩ := guard_some H
  refine LAt.makeG tOk (t := 27) (ty := 27) (e := 3) (x := (.tmp 6)) (d := 7) (g := none) ⟨.int .i64, 1, 8, [.lit (.int .i64 0)]⟩ (x0.length : Int) ((List.replicate ((x0.length : Int)).toNat 0).map intRow) _ kr kr kr kr kr kr hg1 kr (rep_map _ rfl) rfl ?_
  refine LAt.moveU (T := lk tab) (ty := 27) (x := (.tmp 7)) (d := 3) (g := none) false [cL 1 (List.replicate ((x0.length : Int)).toNat 0) intRow] kr kr kr kr kr ?_
  refine LAt.doneM 13 0 kr ?_
  refine Tr.seq ?_
  refine Tr.rgn tOk 1 29 0 kr kr ?_
  obtain ⟨o5, eo5, Ho5⟩ := bind_some H
  clear H
  refine Tr.mid (ι := (List Int)) (fun v => ⟨22, 0, [sC 3 (cL 1 v intRow), sC 2 (cL 1 ([] : List Int) intRow)], []⟩) (fun v => laws_toIntS_J1 n v = some r) ?_ ?_
  · refine Tr.block ?_
    refine Tr.loop (ι := Nat × (Int × (List Int))) (fun v => ⟨22, 0, [sI 4 v.2.1, sC 3 (cL 1 v.2.2 intRow), sC 2 (cL 1 ([] : List Int) intRow), sC 0 (cF 1 x0 intRow)], []⟩) (fun v => laws_toIntS_L2 n v.1 x0 v.2.1 v.2.2 = some o5) (fun v => v.1) (n, (0, (List.replicate ((x0.length : Int)).toNat 0))) eo5 (St.sub_of [4, 3, 2, 0] [] kr) ?_
    rintro ⟨mo5, y2, y3⟩ H
    have H : laws_toIntS_L2 n mo5 x0 y2 y3 = some o5 := H
    obtain _ | mo5 := mo5
    · cases (show (none : Option _) = some o5 from H)
    rw [laws_toIntS_L2] at H
    refine Tr.seq ?_
    refine Tr.rs ?_
    refine LAt.runU tOk 2 kr ?_
    refine LAt.lenE tOk (t := 27) (ty := 3) (e := 3) (x := (.tmp 9)) (d := 10) (g := none) ⟨(.slot 9), [], 0, false, 1, (CV.frzEs (x0.map intRow))⟩ (x0).length _ kr kr kr kr kr (frz_len _ _) rfl ?_
    refine LAt.runU tOk 1 kr ?_
    refine LAt.doneM 3869 0 kr ?_
    cases h1 : (decide (y2 < (x0.length : Int)))
    · have H := bifF h1 H
      refine Tr.cF h1 kr ?_
      refine Tr.exit ?_
      refine And.intro (fun _ => ?_) (fun h => absurd rfl h)
      have H := Option.some.inj H
      subst H
      have H := Ho5
      dsimp only at H
      exact Exists.intro y3 (And.intro H (St.sub_of [3, 2] [] kr))
    have H := bifT h1 H
    refine Tr.cT h1 kr ?_
    refine Tr.skip ?_
    show Tr _ _ _ _ _
    refine Tr.seq ?_
    refine Tr.block ?_
    refine Tr.at ?_
    refine LAt.runU tOk 4 kr ?_
    obtain ⟨v6, ev6, H⟩ := bind_some H
    refine LAt.indexF tOk (t := 27) (ty := 0) (x := (.tmp 16)) (y := (.tmp 17)) (d := 18) (g := none) ⟨(.slot 16), [], 0, false, 1, (CV.frzEs (x0.map intRow))⟩ y2 [cI v6] _ kr kr kr kr rfl (idx_isF ev6) rfl ?_
    refine LAt.runU tOk 1 kr ?_
    obtain ⟨v7, ev7, H⟩ := bind_some H
    refine LAt.indexO tOk (t := 27) (ty := 0) (x := (.tmp 14)) (y := (.tmp 15)) (d := 20) (g := none) ⟨(.slot 3), [], 0, true, 1, (y3.map intRow)⟩ y2 (y2.toNat) (intRow v7) _ kr kr kr kr rfl kr (idx_isE ev7) rfl rfl ?_
    refine LAt.storeS tOk (t := 3) (ty := 0) (ad := (.tmp 20)) (x := (.tmp 19)) (g := none) ⟨.int .i64, 1, 8, [.lit (.int .i64 0)]⟩ false [cI v6] 3 0 (y2.toNat) 1 0 1 y3 intRow v7 v6 kr kr kr kr kr kr kr kr (idx_get ev7).2 kr kr kr kr ?_
    refine LAt.doneM 2084637 0 kr ?_
    show Tr _ _ _ _ _
    refine Tr.rgE tOk 3 2096925 0 kr kr ?_
    exact Exists.intro (mo5, ((IntKind.wrap .i64 (y2 + 1)), (y3.set (y2.toNat) v6))) (And.intro H (And.intro (Nat.lt_succ_self mo5) (St.sub_of [4, 3, 2, 0] [] kr)))
  rintro y4 H
  have H : (laws_toIntS_J1 n y4) = some r := H
  unfold laws_toIntS_J1 at H
  show Tr _ _ _ _ _
  refine Tr.rgn tOk 2 12 0 kr kr ?_
  refine Tr.ret ?_
  have H := Option.some.inj H
  subst H
  exact Fin.of _ [(false, [cL 1 y4 intRow])] kr rfl rfl

def laws_toVtabF (n : Nat) (x0 : Vtab) : Option (Vtab) :=
  ((laws_toVrowSF n x0.Rows).bind fun r1 => ((laws_toIntSF n x0.Pvid).bind fun r2 => (some (⟨r1, r2⟩ : Vtab))))
/-- loop.example/g00326/laws.toVtab -/
theorem laws_toVtab (n : Nat) (x0 : Vtab) (r : Vtab) (H : laws_toVtabF n x0 = some r) : LCall Try.prog 102 [.val true (CV.frzRow (Vtab.row x0))] [.val true (Vtab.row r)] [] := by
  refine LCall.of_body tOk Try.func102 rfl (c := (.seq (Rg Try.f102 0) (.seq (Rg Try.f102 1) (.seq (Rg Try.f102 2) (.seq (Rg Try.f102 3) (.seq (Rg Try.f102 4) .ret)))))) kr (Nat.le_of_ble_eq_true kr) 0 (rs := [.cell 2 59]) rfl [] .nil [(true, (Vtab.row r))] [] [] fun cx => ?_
  show Tr _ _ _ ⟨13, 0, [sV 0 (CV.frzRow (Vtab.row x0))], []⟩ _
  unfold laws_toVtabF at H
  refine Tr.rgn tOk 2 6 6 kr kr ?_
  refine Tr.rgn tOk 1 14 14 kr kr ?_
  refine Tr.rs ?_
  refine LAt.runU tOk 2 kr ?_
  obtain ⟨r1, er1, H⟩ := bind_some H
  refine LAt.callV tOk [.rd] [] (laws_toVrowS n x0.Rows r1 er1) kr kr kr kr (.inl rfl) ?_
  refine LAt.runU tOk 2 kr ?_
  refine LAt.doneM 14 14 kr ?_
  refine Tr.rs ?_
  refine LAt.runU tOk 2 kr ?_
  obtain ⟨r2, er2, H⟩ := bind_some H
  refine LAt.callV tOk [.rd] [] (laws_toIntS n x0.Pvid r2 er2) kr kr kr kr (.inl rfl) ?_
  refine LAt.runU tOk 2 kr ?_
  refine LAt.doneM 12 12 kr ?_
  refine Tr.rgn tOk 2 4 4 kr kr ?_
  refine Tr.ret ?_
  have H := Option.some.inj H
  subst H
  exact Fin.of _ [(true, [cL 3 r1 Vrow.row, cL 1 r2 intRow])] kr rfl rfl

def laws_toBridgeF (n : Nat) (x0 : Bridge) : Option (Bridge) :=
  ((laws_toPtSF n x0.Ports).bind fun r1 => ((laws_toFentSF n x0.F).bind fun r2 => ((laws_toVtabF n x0.V).bind fun r3 => (some (⟨x0.Id, x0.Name, r1, r2, r3, x0.Ticks, x0.Parse, x0.Word, x0.Drops, x0.Vers⟩ : Bridge)))))
/-- loop.example/g00326/laws.toBridge -/
theorem laws_toBridge (n : Nat) (x0 : Bridge) (r : Bridge) (H : laws_toBridgeF n x0 = some r) : LCall Try.prog 37 [.val true (CV.frzRow (Bridge.row x0))] [.val true (Bridge.row r)] [] := by
  refine LCall.of_body tOk Try.func37 rfl (c := (.seq (Rg Try.f37 0) (.seq (Rg Try.f37 1) (.seq (Rg Try.f37 2) (.seq (Rg Try.f37 3) (.seq (Rg Try.f37 4) (.seq (Rg Try.f37 5) (.seq (Rg Try.f37 6) (.seq (Rg Try.f37 7) (.seq (Rg Try.f37 8) (.seq (Rg Try.f37 9) (.seq (Rg Try.f37 10) (.seq (Rg Try.f37 11) (.seq (Rg Try.f37 12) .ret)))))))))))))) kr (Nat.le_of_ble_eq_true kr) 0 (rs := [.cell 2 61]) rfl [] .nil [(true, (Bridge.row r))] [] [] fun cx => ?_
  show Tr _ _ _ ⟨38, 0, [sV 0 (CV.frzRow (Bridge.row x0))], []⟩ _
  unfold laws_toBridgeF at H
  refine Tr.rgn tOk 2 6 6 kr kr ?_
  refine Tr.rgn tOk 1 14 14 kr kr ?_
  refine Tr.rgn tOk 4 14 14 kr kr ?_
  refine Tr.rgn tOk 4 14 14 kr kr ?_
  refine Tr.rs ?_
  refine LAt.runU tOk 2 kr ?_
  obtain ⟨r1, er1, H⟩ := bind_some H
  refine LAt.callV tOk [.rd] [] (laws_toPtS n x0.Ports r1 er1) kr kr kr kr (.inl rfl) ?_
  refine LAt.runU tOk 2 kr ?_
  refine LAt.doneM 14 14 kr ?_
  refine Tr.rs ?_
  refine LAt.runU tOk 2 kr ?_
  obtain ⟨r2, er2, H⟩ := bind_some H
  refine LAt.callV tOk [.rd] [] (laws_toFentS n x0.F r2 er2) kr kr kr kr (.inl rfl) ?_
  refine LAt.runU tOk 2 kr ?_
  refine LAt.doneM 14 14 kr ?_
  refine Tr.rs ?_
  refine LAt.runU tOk 2 kr ?_
  obtain ⟨r3, er3, H⟩ := bind_some H
  refine LAt.callV tOk [.rd] [] (laws_toVtab n x0.V r3 er3) kr kr kr kr (.inl rfl) ?_
  refine LAt.runU tOk 2 kr ?_
  refine LAt.doneM 14 14 kr ?_
  refine Tr.rgn tOk 4 14 14 kr kr ?_
  refine Tr.rgn tOk 4 14 14 kr kr ?_
  refine Tr.rgn tOk 4 14 14 kr kr ?_
  refine Tr.rgn tOk 4 14 14 kr kr ?_
  refine Tr.rgn tOk 4 12 12 kr kr ?_
  refine Tr.rgn tOk 2 4 4 kr kr ?_
  refine Tr.ret ?_
  have H := Option.some.inj H
  subst H
  exact Fin.of _ [(true, [cI x0.Id, cS x0.Name, cL 8 r1 Pt.row, cL 5 r2 Fent.row, cL 3 r3.Rows Vrow.row, cL 1 r3.Pvid intRow, cI x0.Ticks, cI x0.Parse, cI x0.Word, cI x0.Drops, cI x0.Vers])] kr rfl rfl

def spec_l1InF (n : Nat) (x0 : Int) (x1 : Int) (x2 : Int) : Option (Bool) :=
  (bif (decide (x0 ≥ x1)) then (some (decide (x0 ≤ x2))) else (some false))
/-- loop.example/g00326/spec.l1In -/
theorem spec_l1In (n : Nat) (x0 : Int) (x1 : Int) (x2 : Int) (r : Bool) (H : spec_l1InF n x0 x1 x2 = some r) : LCall Try.prog 65 [.val false [.lit (.int .i64 x0)], .val false [.lit (.int .i64 x1)], .val false [.lit (.int .i64 x2)]] [.val false [.lit (.bool r)]] [] := by
  refine LCall.of_body tOk Try.func65 rfl (c := (.seq (Rg Try.f65 0) (.seq (Rg Try.f65 1) .ret))) kr (Nat.le_of_ble_eq_true kr) 0 (rs := [.tmp 6]) rfl [] .nil [(false, [.lit (.bool r)])] [] [] fun cx => ?_
  show Tr _ _ _ ⟨15, 0, [sI 0 x0, sI 1 x1, sI 2 x2], []⟩ _
  unfold spec_l1InF at H
  refine Tr.rgn tOk 1 71 0 kr kr ?_
  refine Tr.rs ?_
  refine LAt.runU tOk 4 kr ?_
  refine LAt.to ⟨15, 0, [sB 10 (decide (x0 ≥ x1)), sB 9 (decide (x0 ≥ x1)), sI 8 x1, sI 7 x0, sB 6 false, sI 0 x0, sI 1 x1, sI 2 x2], []⟩ kr ?_
  cases h1 : (decide (x0 ≥ x1))
  · have H := bifF h1 H
    refine LAt.runU tOk 5 kr ?_
    refine LAt.doneM 64 0 kr ?_
    refine Tr.ret ?_
    have H := Option.some.inj H
    subst H
    exact Fin.of _ [(false, [cB false])] kr rfl rfl
  have H := bifT h1 H
  refine LAt.runU tOk 5 kr ?_
  refine LAt.doneM 64 0 kr ?_
  refine Tr.ret ?_
  have H := Option.some.inj H
  subst H
  exact Fin.of _ [(false, [cB (decide (x0 ≤ x2))])] kr rfl rfl

def spec_VecOkF (n : Nat) (x0 : Vec) : Option (Bool) :=
  ((spec_l1InF n x0.Root 1 99).bind fun r1 => (bif r1 then ((spec_l1InF n x0.Cost 0 100000).bind fun r2 => (bif r2 then ((spec_l1InF n x0.Hops 0 10).bind fun r3 => (bif r3 then ((spec_l1InF n x0.Bridge 1 99).bind fun r4 => (bif r4 then ((spec_l1InF n x0.Port 0 7).bind fun r5 => (some r5)) else (some false))) else (some false))) else (some false))) else (some false)))
/-- loop.example/g00326/spec.VecOk -/
theorem spec_VecOk (n : Nat) (x0 : Vec) (r : Bool) (H : spec_VecOkF n x0 = some r) : LCall Try.prog 87 [.val true (CV.frzRow (Vec.row x0))] [.val false [.lit (.bool r)]] [] := by
  refine LCall.of_body tOk Try.func87 rfl (c := (.seq (Rg Try.f87 0) (.seq (Rg Try.f87 1) .ret))) kr (Nat.le_of_ble_eq_true kr) 0 (rs := [.tmp 2]) rfl [] .nil [(false, [.lit (.bool r)])] [] [] fun cx => ?_
  show Tr _ _ _ ⟨26, 0, [sV 0 (Vec.row x0)], []⟩ _
  unfold spec_VecOkF at H
  refine Tr.rgn tOk 2 6 2 kr kr ?_
  refine Tr.rs ?_
  refine LAt.runU tOk 2 kr ?_
  obtain ⟨r1, er1, H⟩ := bind_some H
  refine LAt.callV tOk [.rd, .rd, .rd] [] (spec_l1In n x0.Root 1 99 r1 er1) kr kr kr kr (.inl rfl) ?_
  refine LAt.runU tOk 1 kr ?_
  refine LAt.to ⟨26, 0, [sB 6 r1, sB 5 r1, sI 4 x0.Root, sA 3 1 5 0, sB 2 false, sA 1 1 5 0], [(1, (Vec.row x0))]⟩ kr ?_
  cases h1 : r1
  · have H := bifF h1 H
    refine LAt.runU tOk 20 kr ?_
    refine LAt.doneM 4 0 kr ?_
    refine Tr.ret ?_
    have H := Option.some.inj H
    subst H
    exact Fin.of _ [(false, [cB false])] kr rfl rfl
  have H := bifT h1 H
  refine LAt.runU tOk 2 kr ?_
  obtain ⟨r2, er2, H⟩ := bind_some H
  refine LAt.callV tOk [.rd, .rd, .rd] [] (spec_l1In n x0.Cost 0 100000 r2 er2) kr kr kr kr (.inl rfl) ?_
  refine LAt.runU tOk 2 kr ?_
  refine LAt.to ⟨26, 0, [sB 11 r2, sB 10 r2, sB 9 r2, sI 8 x0.Cost, sA 7 1 5 1, sB 6 true, sB 5 true, sI 4 x0.Root, sA 3 1 5 0, sB 2 false, sA 1 1 5 0], [(1, (Vec.row x0))]⟩ kr ?_
  cases h2 : r2
  · have H := bifF h2 H
    refine LAt.runU tOk 15 kr ?_
    refine LAt.doneM 4 0 kr ?_
    refine Tr.ret ?_
    have H := Option.some.inj H
    subst H
    exact Fin.of _ [(false, [cB false])] kr rfl rfl
  have H := bifT h2 H
  refine LAt.runU tOk 2 kr ?_
  obtain ⟨r3, er3, H⟩ := bind_some H
  refine LAt.callV tOk [.rd, .rd, .rd] [] (spec_l1In n x0.Hops 0 10 r3 er3) kr kr kr kr (.inl rfl) ?_
  refine LAt.runU tOk 2 kr ?_
  refine LAt.to ⟨26, 0, [sB 16 r3, sB 15 r3, sB 14 r3, sI 13 x0.Hops, sA 12 1 5 2, sB 11 true, sB 10 true, sB 9 true, sI 8 x0.Cost, sA 7 1 5 1, sB 6 true, sB 5 true, sI 4 x0.Root, sA 3 1 5 0, sB 2 false, sA 1 1 5 0], [(1, (Vec.row x0))]⟩ kr ?_
  cases h3 : r3
  · have H := bifF h3 H
    refine LAt.runU tOk 10 kr ?_
    refine LAt.doneM 4 0 kr ?_
    refine Tr.ret ?_
    have H := Option.some.inj H
    subst H
    exact Fin.of _ [(false, [cB false])] kr rfl rfl
  have H := bifT h3 H
  refine LAt.runU tOk 2 kr ?_
  obtain ⟨r4, er4, H⟩ := bind_some H
  refine LAt.callV tOk [.rd, .rd, .rd] [] (spec_l1In n x0.Bridge 1 99 r4 er4) kr kr kr kr (.inl rfl) ?_
  refine LAt.runU tOk 2 kr ?_
  refine LAt.to ⟨26, 0, [sB 21 r4, sB 20 r4, sB 19 r4, sI 18 x0.Bridge, sA 17 1 5 3, sB 16 true, sB 15 true, sB 14 true, sI 13 x0.Hops, sA 12 1 5 2, sB 11 true, sB 10 true, sB 9 true, sI 8 x0.Cost, sA 7 1 5 1, sB 6 true, sB 5 true, sI 4 x0.Root, sA 3 1 5 0, sB 2 false, sA 1 1 5 0], [(1, (Vec.row x0))]⟩ kr ?_
  cases h4 : r4
  · have H := bifF h4 H
    refine LAt.runU tOk 5 kr ?_
    refine LAt.doneM 4 0 kr ?_
    refine Tr.ret ?_
    have H := Option.some.inj H
    subst H
    exact Fin.of _ [(false, [cB false])] kr rfl rfl
  have H := bifT h4 H
  refine LAt.runU tOk 2 kr ?_
  obtain ⟨r5, er5, H⟩ := bind_some H
  refine LAt.callV tOk [.rd, .rd, .rd] [] (spec_l1In n x0.Port 0 7 r5 er5) kr kr kr kr (.inl rfl) ?_
  refine LAt.runU tOk 2 kr ?_
  refine LAt.doneM 4 0 kr ?_
  refine Tr.ret ?_
  have H := Option.some.inj H
  subst H
  exact Fin.of _ [(false, [cB r5])] kr rfl rfl

def spec_PtOkF (n : Nat) (x0 : Pt) : Option (Bool) :=
  ((spec_l1InF n x0.Cost 1 1000).bind fun r1 => (bif (!r1) then (some false) else (bif (!x0.Up) then (bif x0.Has then (some false) else (some ((x0.Heard.Root == 0) && ((x0.Heard.Cost == 0) && ((x0.Heard.Hops == 0) && ((x0.Heard.Bridge == 0) && ((x0.Heard.Port == 0) && true))))))) else (bif (!x0.Has) then (some ((x0.Heard.Root == 0) && ((x0.Heard.Cost == 0) && ((x0.Heard.Hops == 0) && ((x0.Heard.Bridge == 0) && ((x0.Heard.Port == 0) && true)))))) else ((spec_VecOkF n x0.Heard).bind fun r2 => (some r2))))))
/-- loop.example/g00326/spec.PtOk -/
theorem spec_PtOk (n : Nat) (x0 : Pt) (r : Bool) (H : spec_PtOkF n x0 = some r) : LCall Try.prog 165 [.val true (CV.frzRow (Pt.row x0))] [.val false [.lit (.bool r)]] [] := by
  refine LCall.of_body tOk Try.func165 rfl (c := (.seq (Rg Try.f165 0) (.seq (.seq (Rg Try.f165 1) (.cond (.tmp 15) (.seq (Rg Try.f165 2) .ret) .skip)) (.seq (.seq (Rg Try.f165 3) (.cond (.tmp 18) (.seq (Rg Try.f165 4) .ret) .skip)) (.seq (Rg Try.f165 5) .ret))))) kr (Nat.le_of_ble_eq_true kr) 0 (rs := [.tmp 2]) rfl [] .nil [(false, [.lit (.bool r)])] [] [] fun cx => ?_
  show Tr _ _ _ ⟨26, 0, [sV 0 (Pt.row x0)], []⟩ _
  unfold spec_PtOkF at H
  refine Tr.rgn tOk 2 6 2 kr kr ?_
  refine Tr.seq ?_
  refine Tr.rs ?_
  refine LAt.runU tOk 2 kr ?_
  obtain ⟨r1, er1, H⟩ := bind_some H
  refine LAt.callV tOk [.rd, .rd, .rd] [] (spec_l1In n x0.Cost 1 1000 r1 er1) kr kr kr kr (.inl rfl) ?_
  refine LAt.runU tOk 2 kr ?_
  refine LAt.to ⟨26, 0, [sB 7 (!r1), sB 6 (!r1), sB 5 r1, sI 4 x0.Cost, sA 3 1 8 1, sB 2 false, sA 1 1 8 0], [(1, (Pt.row x0))]⟩ kr ?_
  cases h1 : (!r1)
  · have H := bifF h1 H
    refine LAt.runU tOk 4 kr ?_
    refine LAt.to ⟨26, 0, [sB 11 (!x0.Up), sB 10 (!x0.Up), sB 9 x0.Up, sA 8 1 8 0, sB 7 false, sB 6 false, sB 5 r1, sI 4 x0.Cost, sA 3 1 8 1, sB 2 false, sA 1 1 8 0], [(1, (Pt.row x0))]⟩ kr ?_
    cases h2 : (!x0.Up)
    · have H := bifF h2 H
      refine LAt.runU tOk 4 kr ?_
      refine LAt.doneM 32774 2 kr ?_
      refine Tr.cf kr ?_
      refine Tr.skip ?_
      show Tr _ _ _ _ _
      refine Tr.seq ?_
      refine Tr.rgn tOk 3 262150 2 kr kr ?_
      cases h3 : (!x0.Has)
      · have H := bifF h3 H
        refine Tr.cF h3 kr ?_
        refine Tr.skip ?_
        show Tr _ _ _ _ _
        refine Tr.rs ?_
        refine LAt.runU tOk 2 kr ?_
        obtain ⟨r2, er2, H⟩ := bind_some H
        refine LAt.callV tOk [.rd] [] (spec_VecOk n x0.Heard r2 er2) kr kr kr kr (.inl rfl) ?_
        refine LAt.runU tOk 1 kr ?_
        refine LAt.doneM 4 0 kr ?_
        refine Tr.ret ?_
        have H := Option.some.inj H
        subst H
        exact Fin.of _ [(false, [cB r2])] kr rfl rfl
      have H := bifT h3 H
      refine Tr.cT h3 kr ?_
      refine Tr.rs ?_
      refine LAt.runU tOk 3 kr ?_
      refine LAt.eqSG false (t := 70) (ty := 70) (ty' := 4) (x := (.tmp 20)) (y := (.tmp 21)) (d := 22) (g := none) ((x0.Heard.Root == 0) && ((x0.Heard.Cost == 0) && ((x0.Heard.Hops == 0) && ((x0.Heard.Bridge == 0) && ((x0.Heard.Port == 0) && true))))) _ kr kr kr kr rfl ?_
      refine LAt.runU tOk 1 kr ?_
      refine LAt.doneM 6 2 kr ?_
      refine Tr.ret ?_
      have H := Option.some.inj H
      subst H
      exact Fin.of _ [(false, [cB ((x0.Heard.Root == 0) && ((x0.Heard.Cost == 0) && ((x0.Heard.Hops == 0) && ((x0.Heard.Bridge == 0) && ((x0.Heard.Port == 0) && true)))))])] kr rfl rfl
    have H := bifT h2 H
    refine LAt.runU tOk 4 kr ?_
    refine LAt.doneM 32774 2 kr ?_
    refine Tr.to ⟨26, 0, [sB 15 x0.Has, sB 2 false, sA 1 1 8 0], [(1, (Pt.row x0))]⟩ kr ?_
    cases h4 : x0.Has
    · have H := bifF h4 H
      refine Tr.cf kr ?_
      refine Tr.skip ?_
      show Tr _ _ _ _ _
      refine Tr.seq ?_
      refine Tr.rgn tOk 3 262150 2 kr kr ?_
      refine Tr.to ⟨26, 0, [sB 18 (!x0.Has), sB 2 false, sA 1 1 8 0], [(1, (Pt.row x0))]⟩ kr ?_
      rw [h4]
      refine Tr.ct kr ?_
      refine Tr.rs ?_
      refine LAt.runU tOk 3 kr ?_
      refine LAt.eqSG false (t := 70) (ty := 70) (ty' := 4) (x := (.tmp 20)) (y := (.tmp 21)) (d := 22) (g := none) ((x0.Heard.Root == 0) && ((x0.Heard.Cost == 0) && ((x0.Heard.Hops == 0) && ((x0.Heard.Bridge == 0) && ((x0.Heard.Port == 0) && true))))) _ kr kr kr kr rfl ?_
      refine LAt.runU tOk 1 kr ?_
      refine LAt.doneM 6 2 kr ?_
      refine Tr.ret ?_
      have H := Option.some.inj H
      subst H
      exact Fin.of _ [(false, [cB ((x0.Heard.Root == 0) && ((x0.Heard.Cost == 0) && ((x0.Heard.Hops == 0) && ((x0.Heard.Bridge == 0) && ((x0.Heard.Port == 0) && true)))))])] kr rfl rfl
    have H := bifT h4 H
    refine Tr.ct kr ?_
    refine Tr.rgn tOk 1 6 2 kr kr ?_
    refine Tr.ret ?_
    have H := Option.some.inj H
    subst H
    exact Fin.of _ [(false, [cB false])] kr rfl rfl
  have H := bifT h1 H
  refine LAt.runU tOk 8 kr ?_
  refine LAt.doneM 32774 2 kr ?_
  refine Tr.ct kr ?_
  refine Tr.rgn tOk 1 6 2 kr kr ?_
  refine Tr.ret ?_
  have H := Option.some.inj H
  subst H
  exact Fin.of _ [(false, [cB false])] kr rfl rfl

def spec_l8EntF (n : Nat) (x0 : Fent) : Option (Bool) :=
  ((spec_l1InF n x0.Tag 1 99).bind fun r1 => (bif r1 then ((spec_l1InF n x0.Mac 1 9999).bind fun r2 => (bif r2 then ((spec_l1InF n x0.Port 0 7).bind fun r3 => (bif r3 then ((spec_l1InF n x0.Age 0 4).bind fun r4 => (bif r4 then (bif (!x0.Static) then (some true) else (some (x0.Age == 0))) else (some false))) else (some false))) else (some false))) else (some false)))
/-- loop.example/g00326/spec.l8Ent -/
theorem spec_l8Ent (n : Nat) (x0 : Fent) (r : Bool) (H : spec_l8EntF n x0 = some r) : LCall Try.prog 182 [.val true (CV.frzRow (Fent.row x0))] [.val false [.lit (.bool r)]] [] := by
  refine LCall.of_body tOk Try.func182 rfl (c := (.seq (Rg Try.f182 0) (.seq (Rg Try.f182 1) .ret))) kr (Nat.le_of_ble_eq_true kr) 0 (rs := [.tmp 2]) rfl [] .nil [(false, [.lit (.bool r)])] [] [] fun cx => ?_
  show Tr _ _ _ ⟨31, 0, [sV 0 (Fent.row x0)], []⟩ _
  unfold spec_l8EntF at H
  refine Tr.rgn tOk 2 6 2 kr kr ?_
  refine Tr.rs ?_
  refine LAt.runU tOk 2 kr ?_
  obtain ⟨r1, er1, H⟩ := bind_some H
  refine LAt.callV tOk [.rd, .rd, .rd] [] (spec_l1In n x0.Tag 1 99 r1 er1) kr kr kr kr (.inl rfl) ?_
  refine LAt.runU tOk 1 kr ?_
  refine LAt.to ⟨31, 0, [sB 6 r1, sB 5 r1, sI 4 x0.Tag, sA 3 1 5 0, sB 2 false, sA 1 1 5 0], [(1, (Fent.row x0))]⟩ kr ?_
  cases h1 : r1
  · have H := bifF h1 H
    refine LAt.runU tOk 25 kr ?_
    refine LAt.doneM 4 0 kr ?_
    refine Tr.ret ?_
    have H := Option.some.inj H
    subst H
    exact Fin.of _ [(false, [cB false])] kr rfl rfl
  have H := bifT h1 H
  refine LAt.runU tOk 2 kr ?_
  obtain ⟨r2, er2, H⟩ := bind_some H
  refine LAt.callV tOk [.rd, .rd, .rd] [] (spec_l1In n x0.Mac 1 9999 r2 er2) kr kr kr kr (.inl rfl) ?_
  refine LAt.runU tOk 2 kr ?_
  refine LAt.to ⟨31, 0, [sB 11 r2, sB 10 r2, sB 9 r2, sI 8 x0.Mac, sA 7 1 5 1, sB 6 true, sB 5 true, sI 4 x0.Tag, sA 3 1 5 0, sB 2 false, sA 1 1 5 0], [(1, (Fent.row x0))]⟩ kr ?_
  cases h2 : r2
  · have H := bifF h2 H
    refine LAt.runU tOk 20 kr ?_
    refine LAt.doneM 4 0 kr ?_
    refine Tr.ret ?_
    have H := Option.some.inj H
    subst H
    exact Fin.of _ [(false, [cB false])] kr rfl rfl
  have H := bifT h2 H
  refine LAt.runU tOk 2 kr ?_
  obtain ⟨r3, er3, H⟩ := bind_some H
  refine LAt.callV tOk [.rd, .rd, .rd] [] (spec_l1In n x0.Port 0 7 r3 er3) kr kr kr kr (.inl rfl) ?_
  refine LAt.runU tOk 2 kr ?_
  refine LAt.to ⟨31, 0, [sB 16 r3, sB 15 r3, sB 14 r3, sI 13 x0.Port, sA 12 1 5 2, sB 11 true, sB 10 true, sB 9 true, sI 8 x0.Mac, sA 7 1 5 1, sB 6 true, sB 5 true, sI 4 x0.Tag, sA 3 1 5 0, sB 2 false, sA 1 1 5 0], [(1, (Fent.row x0))]⟩ kr ?_
  cases h3 : r3
  · have H := bifF h3 H
    refine LAt.runU tOk 15 kr ?_
    refine LAt.doneM 4 0 kr ?_
    refine Tr.ret ?_
    have H := Option.some.inj H
    subst H
    exact Fin.of _ [(false, [cB false])] kr rfl rfl
  have H := bifT h3 H
  refine LAt.runU tOk 2 kr ?_
  obtain ⟨r4, er4, H⟩ := bind_some H
  refine LAt.callV tOk [.rd, .rd, .rd] [] (spec_l1In n x0.Age 0 4 r4 er4) kr kr kr kr (.inl rfl) ?_
  refine LAt.runU tOk 2 kr ?_
  refine LAt.to ⟨31, 0, [sB 21 r4, sB 20 r4, sB 19 r4, sI 18 x0.Age, sA 17 1 5 3, sB 16 true, sB 15 true, sB 14 true, sI 13 x0.Port, sA 12 1 5 2, sB 11 true, sB 10 true, sB 9 true, sI 8 x0.Mac, sA 7 1 5 1, sB 6 true, sB 5 true, sI 4 x0.Tag, sA 3 1 5 0, sB 2 false, sA 1 1 5 0], [(1, (Fent.row x0))]⟩ kr ?_
  cases h4 : r4
  · have H := bifF h4 H
    refine LAt.runU tOk 10 kr ?_
    refine LAt.doneM 4 0 kr ?_
    refine Tr.ret ?_
    have H := Option.some.inj H
    subst H
    exact Fin.of _ [(false, [cB false])] kr rfl rfl
  have H := bifT h4 H
  refine LAt.runU tOk 4 kr ?_
  refine LAt.to ⟨31, 0, [sB 25 (!x0.Static), sB 24 (!x0.Static), sB 23 x0.Static, sA 22 1 5 4, sB 21 true, sB 20 true, sB 19 true, sI 18 x0.Age, sA 17 1 5 3, sB 16 true, sB 15 true, sB 14 true, sI 13 x0.Port, sA 12 1 5 2, sB 11 true, sB 10 true, sB 9 true, sI 8 x0.Mac, sA 7 1 5 1, sB 6 true, sB 5 true, sI 4 x0.Tag, sA 3 1 5 0, sB 2 false, sA 1 1 5 0], [(1, (Fent.row x0))]⟩ kr ?_
  cases h5 : (!x0.Static)
  · have H := bifF h5 H
    refine LAt.runU tOk 6 kr ?_
    refine LAt.doneM 4 0 kr ?_
    refine Tr.ret ?_
    have H := Option.some.inj H
    subst H
    exact Fin.of _ [(false, [cB (x0.Age == 0)])] kr rfl rfl
  have H := bifT h5 H
  refine LAt.runU tOk 6 kr ?_
  refine LAt.doneM 4 0 kr ?_
  refine Tr.ret ?_
  have H := Option.some.inj H
  subst H
  exact Fin.of _ [(false, [cB true])] kr rfl rfl

def spec_l8AheadF (n : Nat) (x0 : Fent) (x1 : Int) (x2 : Int) : Option (Bool) :=
  (bif (x0.Tag != x1) then (some (decide (x0.Tag < x1))) else (some (decide (x0.Mac < x2))))
/-- loop.example/g00326/spec.l8Ahead -/
theorem spec_l8Ahead (n : Nat) (x0 : Fent) (x1 : Int) (x2 : Int) (r : Bool) (H : spec_l8AheadF n x0 x1 x2 = some r) : LCall Try.prog 183 [.val true (CV.frzRow (Fent.row x0)), .val false [.lit (.int .i64 x1)], .val false [.lit (.int .i64 x2)]] [.val false [.lit (.bool r)]] [] := by
  refine LCall.of_body tOk Try.func183 rfl (c := (.seq (Rg Try.f183 0) (.seq (.seq (Rg Try.f183 1) (.cond (.tmp 10) (.seq (Rg Try.f183 2) .ret) .skip)) (.seq (Rg Try.f183 3) .ret)))) kr (Nat.le_of_ble_eq_true kr) 0 (rs := [.tmp 6]) rfl [] .nil [(false, [.lit (.bool r)])] [] [] fun cx => ?_
  show Tr _ _ _ ⟨19, 0, [sV 0 (Fent.row x0), sI 1 x1, sI 2 x2], []⟩ _
  unfold spec_l8AheadF at H
  refine Tr.rgn tOk 2 78 8 kr kr ?_
  refine Tr.seq ?_
  refine Tr.rgn tOk 4 1102 8 kr kr ?_
  cases h1 : (x0.Tag != x1)
  · have H := bifF h1 H
    refine Tr.cF h1 kr ?_
    refine Tr.skip ?_
    show Tr _ _ _ _ _
    refine Tr.rgn tOk 5 64 0 kr kr ?_
    refine Tr.ret ?_
    have H := Option.some.inj H
    subst H
    exact Fin.of _ [(false, [cB (decide (x0.Mac < x2))])] kr rfl rfl
  have H := bifT h1 H
  refine Tr.cT h1 kr ?_
  refine Tr.rgn tOk 5 76 8 kr kr ?_
  refine Tr.ret ?_
  have H := Option.some.inj H
  subst H
  exact Fin.of _ [(false, [cB (decide (x0.Tag < x1))])] kr rfl rfl

def spec_FdbOk_J1 (n : Nat) (x0 : (List Fent)) : Option (Bool) :=
  (some (decide ((x0.length : Int) ≤ 12)))
def spec_FdbOk_L2 (n : Nat) : Nat → (List Fent) → Int → Option ((Unit) ⊕ (Bool))
  | 0, _, _ => none
  | mo2 + 1, x0, y1 => (bif (decide (y1 < (x0.length : Int))) then ((idx x0 y1).bind fun v3 => ((spec_l8EntF n v3).bind fun r4 => (bif (!r4) then (some (Sum.inr false)) else (bif (decide (y1 > 0)) then ((idx x0 (IntKind.wrap .i64 (y1 - 1))).bind fun v5 => ((idx x0 y1).bind fun v6 => ((idx x0 y1).bind fun v7 => ((spec_l8AheadF n v5 v6.Tag v7.Mac).bind fun r8 => (bif (!r8) then (some (Sum.inr false)) else (spec_FdbOk_L2 n mo2 x0 (IntKind.wrap .i64 (y1 + 1)))))))) else (spec_FdbOk_L2 n mo2 x0 (IntKind.wrap .i64 (y1 + 1))))))) else (some (Sum.inl ())))
def spec_FdbOkF (n : Nat) (x0 : (List Fent)) : Option (Bool) :=
  ((spec_FdbOk_L2 n n x0 0).bind fun o => match o with | .inl _ => (spec_FdbOk_J1 n x0) | .inr r => some r)
/-- loop.example/g00326/spec.FdbOk -/
theorem spec_FdbOk (n : Nat) (x0 : (List Fent)) (r : Bool) (H : spec_FdbOkF n x0 = some r) : LCall Try.prog 166 [.val false [.sl false 5 (CV.frzEs (x0.map Fent.row))]] [.val false [.lit (.bool r)]] [] := by
  refine LCall.of_body tOk Try.func166 rfl (c := (.seq (Rg Try.f166 0) (.seq (.seq (Rg Try.f166 1) (.block 0 (.loop (.seq (.seq (Rg Try.f166 2) (.cond (.tmp 7) .skip (.exit 0))) (.seq (.block 1 (.seq (Rd Try.f166 4) (.cond (.tmp 38) (.seq (Rg Try.f166 5) .ret) .skip))) (Rg Try.f166 3)))))) (.seq (Rg Try.f166 6) .ret)))) kr (Nat.le_of_ble_eq_true kr) 0 (rs := [.tmp 2]) rfl [] .nil [(false, [.lit (.bool r)])] [] [] fun cx => ?_
  show Tr _ _ _ ⟨42, 0, [sC 0 (cF 5 x0 Fent.row)], []⟩ _
  unfold spec_FdbOkF at H
  refine Tr.rgn tOk 1 5 0 kr kr ?_
  refine Tr.seq ?_
  refine Tr.rgn tOk 1 13 0 kr kr ?_
  obtain ⟨o2, eo2, Ho2⟩ := bind_some H
  clear H
  refine Tr.mid (ι := Unit) (fun v => ⟨42, 0, [sB 2 false, sC 0 (cF 5 x0 Fent.row)], []⟩) (fun v => spec_FdbOk_J1 n x0 = some r) ?_ ?_
  · refine Tr.block ?_
    refine Tr.loop (ι := Nat × (Int)) (fun v => ⟨42, 0, [sI 3 v.2, sB 2 false, sC 0 (cF 5 x0 Fent.row)], []⟩) (fun v => spec_FdbOk_L2 n v.1 x0 v.2 = some o2) (fun v => v.1) (n, 0) eo2 (St.sub_of [3, 2, 0] [] kr) ?_
    rintro ⟨mo2, y1⟩ H
    have H : spec_FdbOk_L2 n mo2 x0 y1 = some o2 := H
    obtain _ | mo2 := mo2
    · cases (show (none : Option _) = some o2 from H)
    rw [spec_FdbOk_L2] at H
    refine Tr.seq ?_
    refine Tr.rs ?_
    refine LAt.runU tOk 2 kr ?_
    refine LAt.lenE tOk (t := 56) (ty := 3) (e := 141) (x := (.tmp 5)) (d := 6) (g := none) ⟨(.slot 5), [], 0, false, 5, (CV.frzEs (x0.map Fent.row))⟩ (x0).length _ kr kr kr kr kr (frz_len _ _) rfl ?_
    refine LAt.runU tOk 1 kr ?_
    refine LAt.doneM 253 0 kr ?_
    cases h1 : (decide (y1 < (x0.length : Int)))
    · have H := bifF h1 H
      refine Tr.cF h1 kr ?_
      refine Tr.exit ?_
      refine And.intro (fun _ => ?_) (fun h => absurd rfl h)
      have H := Option.some.inj H
      subst H
      have H := Ho2
      dsimp only at H
      exact Exists.intro () (And.intro H (St.sub_of [2, 0] [] kr))
    have H := bifT h1 H
    refine Tr.cT h1 kr ?_
    refine Tr.skip ?_
    show Tr _ _ _ _ _
    refine Tr.seq ?_
    refine Tr.block ?_
    obtain ⟨v3, ev3, H⟩ := bind_some H
    obtain ⟨r4, er4, H⟩ := bind_some H
    refine Tr.to ⟨42, 0, [sB 7 (decide (y1 < (x0.length : Int))), sI 6 (x0.length : Int), sC 5 (cF 5 x0 Fent.row), sI 4 y1, sI 3 y1, sB 2 false, sC 0 (cF 5 x0 Fent.row)], []⟩ kr ?_
    cases h2 : (!r4)
    · have H := bifF h2 H
      refine Tr.to ⟨42, 0, [sB 7 (decide (y1 < (x0.length : Int))), sI 6 (x0.length : Int), sC 5 (cF 5 x0 Fent.row), sI 4 y1, sI 3 y1, sB 2 false, sC 0 (cF 5 x0 Fent.row)], []⟩ kr ?_
      cases h3 : (decide (y1 > 0))
      · have H := bifF h3 H
        refine Tr.draws mixed 29 kr ⟨42, 0, [sB 38 false, sB 37 false, (36, .tup []), (35, .tup []), (34, .tup []), (33, .tup []), (32, .tup []), (31, .tup []), (30, .tup []), (29, .tup []), (28, .tup []), (27, .tup []), (26, .tup []), (25, .tup []), (24, .tup []), (23, .tup []), (22, .tup []), (21, .tup []), (20, .tup []), sB 19 false, sB 18 false, sI 17 y1, sB 16 false, sB 15 false, sB 14 r4, sV 13 (Fent.row v3), (12, .fad ((Fent.row v3))), sI 11 y1, sC 10 (cF 5 x0 Fent.row), sB 7 (decide (y1 < (x0.length : Int))), sI 6 (x0.length : Int), sC 5 (cF 5 x0 Fent.row), sI 4 y1, sI 3 y1, sB 2 false, sC 0 (cF 5 x0 Fent.row)], []⟩ (fun cx => ?_) ?_
        · refine AT.runU tOk [(0, []), (1, [])] 27 [] [1, 0] rfl kr (fun cx => ?_)
          refine AT.indexF tOk 2 (t := 56) (ty := 0) (x := (.tmp 10)) (y := (.tmp 11)) (d := 12) (g := none) ⟨(.slot 10), [], 0, false, 5, (CV.frzEs (x0.map Fent.row))⟩ y1 (Fent.row v3) _ kr kr kr kr kr kr rfl (idx_isF ev3) rfl (fun cx => ?_)
          refine AT.runU tOk [(3, [])] 25 [] [3, 2, 1, 0] rfl kr (fun cx => ?_)
          refine AT.big1 tOk 4 kr kr ?_
          refine LAt.callV tOk [.rd] [] (spec_l8Ent n v3 r4 er4) kr kr kr kr (.inl rfl) ?_
          refine LAt.fin kr (And.intro (And.intro kr kr) ?_)
          refine AT.runU tOk [(5, []), (6, [])] 22 [] [6, 5, 4, 3, 2, 1, 0] rfl kr (fun cx => ?_)
          refine AT.to ⟨42, 0, [sB 16 (!r4), sB 15 (!r4), sB 14 r4, sV 13 (Fent.row v3), (12, .fad ((Fent.row v3))), sI 11 y1, sC 10 (cF 5 x0 Fent.row), sB 7 (decide (y1 < (x0.length : Int))), sI 6 (x0.length : Int), sC 5 (cF 5 x0 Fent.row), sI 4 y1, sI 3 y1, sB 2 false, sC 0 (cF 5 x0 Fent.row)], []⟩ kr ?_
          rw [h2]
          refine AT.runU tOk [(7, []), (8, []), (9, [])] 19 [] [9, 8, 7, 6, 5, 4, 3, 2, 1, 0] rfl kr (fun cx => ?_)
          refine AT.to ⟨42, 0, [sB 19 (decide (y1 > 0)), sB 18 (decide (y1 > 0)), sI 17 y1, sB 16 false, sB 15 false, sB 14 r4, sV 13 (Fent.row v3), (12, .fad ((Fent.row v3))), sI 11 y1, sC 10 (cF 5 x0 Fent.row), sB 7 (decide (y1 < (x0.length : Int))), sI 6 (x0.length : Int), sC 5 (cF 5 x0 Fent.row), sI 4 y1, sI 3 y1, sB 2 false, sC 0 (cF 5 x0 Fent.row)], []⟩ kr ?_
          rw [h3]
          refine AT.runU tOk [(10, []), (11, []), (12, []), (13, []), (14, []), (15, []), (16, []), (17, []), (18, []), (19, []), (20, []), (21, []), (22, []), (23, []), (24, []), (25, []), (26, []), (27, []), (28, [])] 0 [] [28, 27, 26, 25, 24, 23, 22, 21, 20, 19, 18, 17, 16, 15, 14, 13, 12, 11, 10, 9, 8, 7, 6, 5, 4, 3, 2, 1, 0] rfl kr (fun cx => ?_)
          exact AT.done [38, 37, 36, 35, 34, 33, 32, 31, 30, 29, 28, 27, 26, 25, 24, 23, 22, 21, 20, 19, 18, 17, 16, 15, 14, 13, 12, 11, 10, 7, 6, 5, 4, 3, 2, 0] [] _ kr kr rfl
        refine Tr.cf kr ?_
        refine Tr.skip ?_
        show Tr _ _ _ _ _
        refine Tr.rgE tOk 3 549755813885 0 kr kr ?_
        exact Exists.intro (mo2, (IntKind.wrap .i64 (y1 + 1))) (And.intro H (And.intro (Nat.lt_succ_self mo2) (St.sub_of [3, 2, 0] [] kr)))
      have H := bifT h3 H
      obtain ⟨v5, ev5, H⟩ := bind_some H
      obtain ⟨v6, ev6, H⟩ := bind_some H
      obtain ⟨v7, ev7, H⟩ := bind_some H
      obtain ⟨r8, er8, H⟩ := bind_some H
      refine Tr.draws mixed 29 kr ⟨42, 0, [sB 38 (!r8), sB 37 (!r8), sB 36 (!r8), sB 35 r8, sI 34 v7.Mac, (33, .fad (((Fent.row v7).drop 1))), (32, .fad ((Fent.row v7))), sI 31 y1, sC 30 (cF 5 x0 Fent.row), sI 29 v6.Tag, (28, .fad ((Fent.row v6))), (27, .fad ((Fent.row v6))), sI 26 y1, sC 25 (cF 5 x0 Fent.row), sV 24 (Fent.row v5), (23, .fad ((Fent.row v5))), sI 22 (IntKind.wrap .i64 (y1 - 1)), sI 21 y1, sC 20 (cF 5 x0 Fent.row), sB 19 true, sB 18 true, sI 17 y1, sB 16 false, sB 15 false, sB 14 r4, sV 13 (Fent.row v3), (12, .fad ((Fent.row v3))), sI 11 y1, sC 10 (cF 5 x0 Fent.row), sB 7 (decide (y1 < (x0.length : Int))), sI 6 (x0.length : Int), sC 5 (cF 5 x0 Fent.row), sI 4 y1, sI 3 y1, sB 2 false, sC 0 (cF 5 x0 Fent.row)], []⟩ (fun cx => ?_) ?_
      · refine AT.runU tOk [(0, []), (1, [])] 27 [] [1, 0] rfl kr (fun cx => ?_)
        refine AT.indexF tOk 2 (t := 56) (ty := 0) (x := (.tmp 10)) (y := (.tmp 11)) (d := 12) (g := none) ⟨(.slot 10), [], 0, false, 5, (CV.frzEs (x0.map Fent.row))⟩ y1 (Fent.row v3) _ kr kr kr kr kr kr rfl (idx_isF ev3) rfl (fun cx => ?_)
        refine AT.runU tOk [(3, [])] 25 [] [3, 2, 1, 0] rfl kr (fun cx => ?_)
        refine AT.big1 tOk 4 kr kr ?_
        refine LAt.callV tOk [.rd] [] (spec_l8Ent n v3 r4 er4) kr kr kr kr (.inl rfl) ?_
        refine LAt.fin kr (And.intro (And.intro kr kr) ?_)
        refine AT.runU tOk [(5, []), (6, [])] 22 [] [6, 5, 4, 3, 2, 1, 0] rfl kr (fun cx => ?_)
        refine AT.to ⟨42, 0, [sB 16 (!r4), sB 15 (!r4), sB 14 r4, sV 13 (Fent.row v3), (12, .fad ((Fent.row v3))), sI 11 y1, sC 10 (cF 5 x0 Fent.row), sB 7 (decide (y1 < (x0.length : Int))), sI 6 (x0.length : Int), sC 5 (cF 5 x0 Fent.row), sI 4 y1, sI 3 y1, sB 2 false, sC 0 (cF 5 x0 Fent.row)], []⟩ kr ?_
        rw [h2]
        refine AT.runU tOk [(7, []), (8, []), (9, [])] 19 [] [9, 8, 7, 6, 5, 4, 3, 2, 1, 0] rfl kr (fun cx => ?_)
        refine AT.to ⟨42, 0, [sB 19 (decide (y1 > 0)), sB 18 (decide (y1 > 0)), sI 17 y1, sB 16 false, sB 15 false, sB 14 r4, sV 13 (Fent.row v3), (12, .fad ((Fent.row v3))), sI 11 y1, sC 10 (cF 5 x0 Fent.row), sB 7 (decide (y1 < (x0.length : Int))), sI 6 (x0.length : Int), sC 5 (cF 5 x0 Fent.row), sI 4 y1, sI 3 y1, sB 2 false, sC 0 (cF 5 x0 Fent.row)], []⟩ kr ?_
        rw [h3]
        refine AT.runU tOk [(10, []), (11, []), (12, [])] 16 [] [12, 11, 10, 9, 8, 7, 6, 5, 4, 3, 2, 1, 0] rfl kr (fun cx => ?_)
        refine AT.indexF tOk 13 (t := 56) (ty := 0) (x := (.tmp 20)) (y := (.tmp 22)) (d := 23) (g := (some (9, true))) ⟨(.slot 20), [], 0, false, 5, (CV.frzEs (x0.map Fent.row))⟩ (IntKind.wrap .i64 (y1 - 1)) (Fent.row v5) _ kr kr kr kr kr kr rfl (idx_isF ev5) rfl (fun cx => ?_)
        refine AT.runU tOk [(14, []), (15, []), (16, [])] 12 [] [16, 15, 14, 13, 12, 11, 10, 9, 8, 7, 6, 5, 4, 3, 2, 1, 0] rfl kr (fun cx => ?_)
        refine AT.indexF tOk 17 (t := 56) (ty := 0) (x := (.tmp 25)) (y := (.tmp 26)) (d := 27) (g := (some (9, true))) ⟨(.slot 25), [], 0, false, 5, (CV.frzEs (x0.map Fent.row))⟩ y1 (Fent.row v6) _ kr kr kr kr kr kr rfl (idx_isF ev6) rfl (fun cx => ?_)
        refine AT.runU tOk [(18, []), (19, []), (20, []), (21, [])] 7 [] [21, 20, 19, 18, 17, 16, 15, 14, 13, 12, 11, 10, 9, 8, 7, 6, 5, 4, 3, 2, 1, 0] rfl kr (fun cx => ?_)
        refine AT.indexF tOk 22 (t := 56) (ty := 0) (x := (.tmp 30)) (y := (.tmp 31)) (d := 32) (g := (some (9, true))) ⟨(.slot 30), [], 0, false, 5, (CV.frzEs (x0.map Fent.row))⟩ y1 (Fent.row v7) _ kr kr kr kr kr kr rfl (idx_isF ev7) rfl (fun cx => ?_)
        refine AT.runU tOk [(23, []), (24, [])] 4 [] [24, 23, 22, 21, 20, 19, 18, 17, 16, 15, 14, 13, 12, 11, 10, 9, 8, 7, 6, 5, 4, 3, 2, 1, 0] rfl kr (fun cx => ?_)
        refine AT.big1 tOk 25 kr kr ?_
        refine LAt.callV tOk [.rd, .rd, .rd] [] (spec_l8Ahead n v5 v6.Tag v7.Mac r8 er8) kr kr kr kr (.inl rfl) ?_
        refine LAt.fin kr (And.intro (And.intro kr kr) ?_)
        refine AT.runU tOk [(26, []), (27, []), (28, [])] 0 [] [28, 27, 26, 25, 24, 23, 22, 21, 20, 19, 18, 17, 16, 15, 14, 13, 12, 11, 10, 9, 8, 7, 6, 5, 4, 3, 2, 1, 0] rfl kr (fun cx => ?_)
        exact AT.done [38, 37, 36, 35, 34, 33, 32, 31, 30, 29, 28, 27, 26, 25, 24, 23, 22, 21, 20, 19, 18, 17, 16, 15, 14, 13, 12, 11, 10, 7, 6, 5, 4, 3, 2, 0] [] _ kr kr rfl
      refine Tr.to ⟨42, 0, [sB 38 (!r8), sB 37 (!r8), sB 36 (!r8), sB 35 r8, sI 34 v7.Mac, (33, .fad (((Fent.row v7).drop 1))), (32, .fad ((Fent.row v7))), sI 31 y1, sC 30 (cF 5 x0 Fent.row), sI 29 v6.Tag, (28, .fad ((Fent.row v6))), (27, .fad ((Fent.row v6))), sI 26 y1, sC 25 (cF 5 x0 Fent.row), sV 24 (Fent.row v5), (23, .fad ((Fent.row v5))), sI 22 (IntKind.wrap .i64 (y1 - 1)), sI 21 y1, sC 20 (cF 5 x0 Fent.row), sB 19 true, sB 18 true, sI 17 y1, sB 16 false, sB 15 false, sB 14 r4, sV 13 (Fent.row v3), (12, .fad ((Fent.row v3))), sI 11 y1, sC 10 (cF 5 x0 Fent.row), sB 7 (decide (y1 < (x0.length : Int))), sI 6 (x0.length : Int), sC 5 (cF 5 x0 Fent.row), sI 4 y1, sI 3 y1, sB 2 false, sC 0 (cF 5 x0 Fent.row)], []⟩ kr ?_
      cases h4 : (!r8)
      · have H := bifF h4 H
        refine Tr.cf kr ?_
        refine Tr.skip ?_
        show Tr _ _ _ _ _
        refine Tr.rgE tOk 3 549755813885 0 kr kr ?_
        exact Exists.intro (mo2, (IntKind.wrap .i64 (y1 + 1))) (And.intro H (And.intro (Nat.lt_succ_self mo2) (St.sub_of [3, 2, 0] [] kr)))
      have H := bifT h4 H
      refine Tr.ct kr ?_
      refine Tr.rgn tOk 1 549755813117 0 kr kr ?_
      refine Tr.ret ?_
      have H := Option.some.inj H
      subst H
      have H := Ho2
      dsimp only at H
      have H := Option.some.inj H
      subst H
      exact Fin.of _ [(false, [cB false])] kr rfl rfl
    have H := bifT h2 H
    refine Tr.draws mixed 29 kr ⟨42, 0, [sB 38 true, (37, .tup []), (36, .tup []), (35, .tup []), (34, .tup []), (33, .tup []), (32, .tup []), (31, .tup []), (30, .tup []), (29, .tup []), (28, .tup []), (27, .tup []), (26, .tup []), (25, .tup []), (24, .tup []), (23, .tup []), (22, .tup []), (21, .tup []), (20, .tup []), (19, .tup []), (18, .tup []), (17, .tup []), sB 16 true, sB 15 true, sB 14 r4, sV 13 (Fent.row v3), (12, .fad ((Fent.row v3))), sI 11 y1, sC 10 (cF 5 x0 Fent.row), sB 7 (decide (y1 < (x0.length : Int))), sI 6 (x0.length : Int), sC 5 (cF 5 x0 Fent.row), sI 4 y1, sI 3 y1, sB 2 false, sC 0 (cF 5 x0 Fent.row)], []⟩ (fun cx => ?_) ?_
    · refine AT.runU tOk [(0, []), (1, [])] 27 [] [1, 0] rfl kr (fun cx => ?_)
      refine AT.indexF tOk 2 (t := 56) (ty := 0) (x := (.tmp 10)) (y := (.tmp 11)) (d := 12) (g := none) ⟨(.slot 10), [], 0, false, 5, (CV.frzEs (x0.map Fent.row))⟩ y1 (Fent.row v3) _ kr kr kr kr kr kr rfl (idx_isF ev3) rfl (fun cx => ?_)
      refine AT.runU tOk [(3, [])] 25 [] [3, 2, 1, 0] rfl kr (fun cx => ?_)
      refine AT.big1 tOk 4 kr kr ?_
      refine LAt.callV tOk [.rd] [] (spec_l8Ent n v3 r4 er4) kr kr kr kr (.inl rfl) ?_
      refine LAt.fin kr (And.intro (And.intro kr kr) ?_)
      refine AT.runU tOk [(5, []), (6, [])] 22 [] [6, 5, 4, 3, 2, 1, 0] rfl kr (fun cx => ?_)
      refine AT.to ⟨42, 0, [sB 16 (!r4), sB 15 (!r4), sB 14 r4, sV 13 (Fent.row v3), (12, .fad ((Fent.row v3))), sI 11 y1, sC 10 (cF 5 x0 Fent.row), sB 7 (decide (y1 < (x0.length : Int))), sI 6 (x0.length : Int), sC 5 (cF 5 x0 Fent.row), sI 4 y1, sI 3 y1, sB 2 false, sC 0 (cF 5 x0 Fent.row)], []⟩ kr ?_
      rw [h2]
      refine AT.runU tOk [(7, []), (8, []), (9, []), (10, []), (11, []), (12, []), (13, []), (14, []), (15, []), (16, []), (17, []), (18, []), (19, []), (20, []), (21, []), (22, []), (23, []), (24, []), (25, []), (26, []), (27, []), (28, [])] 0 [] [28, 27, 26, 25, 24, 23, 22, 21, 20, 19, 18, 17, 16, 15, 14, 13, 12, 11, 10, 9, 8, 7, 6, 5, 4, 3, 2, 1, 0] rfl kr (fun cx => ?_)
      exact AT.done [38, 37, 36, 35, 34, 33, 32, 31, 30, 29, 28, 27, 26, 25, 24, 23, 22, 21, 20, 19, 18, 17, 16, 15, 14, 13, 12, 11, 10, 7, 6, 5, 4, 3, 2, 0] [] _ kr kr rfl
    refine Tr.ct kr ?_
    refine Tr.rgn tOk 1 549755813117 0 kr kr ?_
    refine Tr.ret ?_
    have H := Option.some.inj H
    subst H
    have H := Ho2
    dsimp only at H
    have H := Option.some.inj H
    subst H
    exact Fin.of _ [(false, [cB false])] kr rfl rfl
  rintro _ H
  have H : (spec_FdbOk_J1 n x0) = some r := H
  unfold spec_FdbOk_J1 at H
  show Tr _ _ _ _ _
  refine Tr.rs ?_
  refine LAt.runU tOk 1 kr ?_
  refine LAt.lenE tOk (t := 56) (ty := 3) (e := 141) (x := (.tmp 39)) (d := 40) (g := none) ⟨(.slot 39), [], 0, false, 5, (CV.frzEs (x0.map Fent.row))⟩ (x0).length _ kr kr kr kr kr (frz_len _ _) rfl ?_
  refine LAt.runU tOk 2 kr ?_
  refine LAt.doneM 4 0 kr ?_
  refine Tr.ret ?_
  have H := Option.some.inj H
  subst H
  exact Fin.of _ [(false, [cB (decide ((x0.length : Int) ≤ 12))])] kr rfl rfl

def spec_RowAt_J1 (n : Nat) : Option (Int) :=
  (some (-1))
def spec_RowAt_L2 (n : Nat) : Nat → Vtab → Int → Int → Option ((Unit) ⊕ (Int))
  | 0, _, _, _ => none
  | mo2 + 1, x0, x1, y1 => (bif (decide (y1 < (x0.Rows.length : Int))) then ((idx x0.Rows y1).bind fun v3 => (bif (v3.Id == x1) then (some (Sum.inr y1)) else (spec_RowAt_L2 n mo2 x0 x1 (IntKind.wrap .i64 (y1 + 1))))) else (some (Sum.inl ())))
def spec_RowAtF (n : Nat) (x0 : Vtab) (x1 : Int) : Option (Int) :=
  ((spec_RowAt_L2 n n x0 x1 0).bind fun o => match o with | .inl _ => (spec_RowAt_J1 n) | .inr r => some r)
/-- loop.example/g00326/spec.RowAt -/
theorem spec_RowAt (n : Nat) (x0 : Vtab) (x1 : Int) (r : Int) (H : spec_RowAtF n x0 x1 = some r) : LCall Try.prog 184 [.val true (CV.frzRow (Vtab.row x0)), .val false [.lit (.int .i64 x1)]] [.val false [.lit (.int .i64 r)]] [] := by
  refine LCall.of_body tOk Try.func184 rfl (c := (.seq (Rg Try.f184 0) (.seq (.seq (Rg Try.f184 1) (.block 0 (.loop (.seq (.seq (Rg Try.f184 2) (.cond (.tmp 10) .skip (.exit 0))) (.seq (.block 1 (.seq (Rg Try.f184 4) (.cond (.tmp 20) (.seq (Rg Try.f184 5) .ret) .skip))) (Rg Try.f184 3)))))) (.seq (Rg Try.f184 6) .ret)))) kr (Nat.le_of_ble_eq_true kr) 0 (rs := [.tmp 4]) rfl [] .nil [(false, [.lit (.int .i64 r)])] [] [] fun cx => ?_
  show Tr _ _ _ ⟨22, 0, [sV 0 (CV.frzRow (Vtab.row x0)), sI 1 x1], []⟩ _
  unfold spec_RowAtF at H
  refine Tr.rgn tOk 2 22 4 kr kr ?_
  refine Tr.seq ?_
  refine Tr.rgn tOk 1 54 4 kr kr ?_
  obtain ⟨o2, eo2, Ho2⟩ := bind_some H
  clear H
  refine Tr.mid (ι := Unit) (fun v => ⟨22, 0, [sI 4 0], []⟩) (fun v => spec_RowAt_J1 n = some r) ?_ ?_
  · refine Tr.block ?_
    refine Tr.loop (ι := Nat × (Int)) (fun v => ⟨22, 0, [sI 5 v.2, sI 4 0, sA 2 2 2 0, sI 1 x1], [(2, (CV.frzRow (Vtab.row x0)))]⟩) (fun v => spec_RowAt_L2 n v.1 x0 x1 v.2 = some o2) (fun v => v.1) (n, 0) eo2 (St.sub_of [5, 4, 2, 1] [2] kr) ?_
    rintro ⟨mo2, y1⟩ H
    have H : spec_RowAt_L2 n mo2 x0 x1 y1 = some o2 := H
    obtain _ | mo2 := mo2
    · cases (show (none : Option _) = some o2 from H)
    rw [spec_RowAt_L2] at H
    refine Tr.seq ?_
    refine Tr.rs ?_
    refine LAt.runU tOk 3 kr ?_
    refine LAt.lenE tOk (t := 57) (ty := 3) (e := 138) (x := (.tmp 8)) (d := 9) (g := none) ⟨(.slot 8), [], 0, false, 3, (CV.frzEs (x0.Rows.map Vrow.row))⟩ (x0.Rows).length _ kr kr kr kr kr (frz_len _ _) rfl ?_
    refine LAt.runU tOk 1 kr ?_
    refine LAt.doneM 2038 4 kr ?_
    cases h1 : (decide (y1 < (x0.Rows.length : Int)))
    · have H := bifF h1 H
      refine Tr.cF h1 kr ?_
      refine Tr.exit ?_
      refine And.intro (fun _ => ?_) (fun h => absurd rfl h)
      have H := Option.some.inj H
      subst H
      have H := Ho2
      dsimp only at H
      exact Exists.intro () (And.intro H (St.sub_of [4] [] kr))
    have H := bifT h1 H
    refine Tr.cT h1 kr ?_
    refine Tr.skip ?_
    show Tr _ _ _ _ _
    refine Tr.seq ?_
    refine Tr.block ?_
    refine Tr.rs ?_
    refine LAt.runU tOk 3 kr ?_
    obtain ⟨v3, ev3, H⟩ := bind_some H
    refine LAt.indexF tOk (t := 57) (ty := 0) (x := (.tmp 14)) (y := (.tmp 15)) (d := 16) (g := none) ⟨(.slot 14), [], 0, false, 3, (CV.frzEs (x0.Rows.map Vrow.row))⟩ y1 (Vrow.row v3) _ kr kr kr kr rfl (idx_isF ev3) rfl ?_
    refine LAt.runU tOk 4 kr ?_
    refine LAt.doneM 2090998 4 kr ?_
    cases h2 : (v3.Id == x1)
    · have H := bifF h2 H
      refine Tr.cF h2 kr ?_
      refine Tr.skip ?_
      show Tr _ _ _ _ _
      refine Tr.rgE tOk 3 2097142 4 kr kr ?_
      exact Exists.intro (mo2, (IntKind.wrap .i64 (y1 + 1))) (And.intro H (And.intro (Nat.lt_succ_self mo2) (St.sub_of [5, 4, 2, 1] [2] kr)))
    have H := bifT h2 H
    refine Tr.cT h2 kr ?_
    refine Tr.rgn tOk 2 4188150 4 kr kr ?_
    refine Tr.ret ?_
    have H := Option.some.inj H
    subst H
    have H := Ho2
    dsimp only at H
    have H := Option.some.inj H
    subst H
    exact Fin.of _ [(false, [cI y1])] kr rfl rfl
  rintro _ H
  have H : (spec_RowAt_J1 n) = some r := H
  unfold spec_RowAt_J1 at H
  show Tr _ _ _ _ _
  refine Tr.rgn tOk 1 16 0 kr kr ?_
  refine Tr.ret ?_
  have H := Option.some.inj H
  subst H
  exact Fin.of _ [(false, [cI (-1)])] kr rfl rfl

def spec_VtabOk_J2 (n : Nat) : Option (Bool) :=
  (some true)
def spec_VtabOk_L3 (n : Nat) : Nat → Vtab → Int → Option ((Unit) ⊕ (Bool))
  | 0, _, _ => none
  | mo5 + 1, x0, y4 => (bif (decide (y4 < (x0.Pvid.length : Int))) then ((idx x0.Pvid y4).bind fun v6 => ((spec_RowAtF n x0 v6).bind fun r7 => (bif (decide (r7 < 0)) then (some (Sum.inr false)) else (spec_VtabOk_L3 n mo5 x0 (IntKind.wrap .i64 (y4 + 1)))))) else (some (Sum.inl ())))
def spec_VtabOk_J1 (n : Nat) (x0 : Vtab) : Option (Bool) :=
  ((spec_VtabOk_L3 n n x0 0).bind fun o => match o with | .inl _ => (spec_VtabOk_J2 n) | .inr r => some r)
def spec_VtabOk_L4 (n : Nat) : Nat → Vtab → Int → Int → Option ((Unit) ⊕ (Bool))
  | 0, _, _, _ => none
  | mo8 + 1, x0, x1, y3 => (bif (decide (y3 < (x0.Rows.length : Int))) then ((idx x0.Rows y3).bind fun v9 => ((spec_l1InF n v9.Id 1 99).bind fun r10 => (bif (!r10) then (some (Sum.inr false)) else ((spec_l1InF n v9.Members 0 (IntKind.wrap .i64 ((IntKind.wrap .i64 (1 * 2 ^ min (((IntKind.wrap .u64 x1) : Int)).toNat (IntKind.bits .i64))) - 1))).bind fun r11 => (bif (!r11) then (some (Sum.inr false)) else ((spec_l1InF n v9.Bare 0 (IntKind.wrap .i64 ((IntKind.wrap .i64 (1 * 2 ^ min (((IntKind.wrap .u64 x1) : Int)).toNat (IntKind.bits .i64))) - 1))).bind fun r12 => (bif (!r12) then (some (Sum.inr false)) else (bif ((IntKind.wrap .i64 (BitVec.ofInt (IntKind.bits .i64) v9.Bare &&& BitVec.ofInt (IntKind.bits .i64) v9.Members).toNat) != v9.Bare) then (some (Sum.inr false)) else (bif (decide (y3 > 0)) then ((idx x0.Rows (IntKind.wrap .i64 (y3 - 1))).bind fun v13 => (bif (decide (v13.Id ≥ v9.Id)) then (some (Sum.inr false)) else (spec_VtabOk_L4 n mo8 x0 x1 (IntKind.wrap .i64 (y3 + 1))))) else (spec_VtabOk_L4 n mo8 x0 x1 (IntKind.wrap .i64 (y3 + 1)))))))))))) else (some (Sum.inl ())))
def spec_VtabOkF (n : Nat) (x0 : Vtab) (x1 : Int) : Option (Bool) :=
  ((spec_l1InF n x1 1 6).bind fun r1 => (bif (!r1) then (some false) else (bif ((x0.Pvid.length : Int) != x1) then (some false) else (bif (decide ((x0.Rows.length : Int) > 6)) then (some false) else (bif (decide ((0 : Int) ≤ (IntKind.wrap .u64 x1))) then ((spec_VtabOk_L4 n n x0 x1 0).bind fun o => match o with | .inl _ => (spec_VtabOk_J1 n x0) | .inr r => some r) else none)))))
/-- loop.example/g00326/spec.VtabOk -/
theorem spec_VtabOk (n : Nat) (x0 : Vtab) (x1 : Int) (r : Bool) (H : spec_VtabOkF n x0 x1 = some r) : LCall Try.prog 167 [.val true (CV.frzRow (Vtab.row x0)), .val false [.lit (.int .i64 x1)]] [.val false [.lit (.bool r)]] [] := by
  refine LCall.of_body tOk Try.func167 rfl (c := (.seq (Rg Try.f167 0) (.seq (.seq (Rg Try.f167 1) (.cond (.tmp 24) (.seq (Rg Try.f167 2) .ret) .skip)) (.seq (Rg Try.f167 3) (.seq (.seq (Rg Try.f167 4) (.block 0 (.loop (.seq (.seq (Rg Try.f167 5) (.cond (.tmp 33) .skip (.exit 0))) (.seq (.block 1 (.seq (Rg Try.f167 7) (.seq (Rd Try.f167 8) (.cond (.tmp 84) (.seq (Rg Try.f167 9) .ret) .skip)))) (Rg Try.f167 6)))))) (.seq (.seq (Rg Try.f167 10) (.block 2 (.loop (.seq (.seq (Rg Try.f167 11) (.cond (.tmp 89) .skip (.exit 2))) (.seq (.block 3 (.seq (Rd Try.f167 13) (.cond (.tmp 99) (.seq (Rg Try.f167 14) .ret) .skip))) (Rg Try.f167 12)))))) (.seq (Rg Try.f167 15) .ret))))))) kr (Nat.le_of_ble_eq_true kr) 0 (rs := [.tmp 4]) rfl [] .nil [(false, [.lit (.bool r)])] [] [] fun cx => ?_
  show Tr _ _ _ ⟨100, 0, [sV 0 (CV.frzRow (Vtab.row x0)), sI 1 x1], []⟩ _
  unfold spec_VtabOkF at H
  refine Tr.rgn tOk 2 22 4 kr kr ?_
  refine Tr.seq ?_
  refine Tr.rs ?_
  refine LAt.runU tOk 1 kr ?_
  obtain ⟨r1, er1, H⟩ := bind_some H
  refine LAt.callV tOk [.rd, .rd, .rd] [] (spec_l1In n x1 1 6 r1 er1) kr kr kr kr (.inl rfl) ?_
  refine LAt.runU tOk 2 kr ?_
  refine LAt.to ⟨100, 0, [sB 12 (!r1), sB 11 (!r1), sB 10 r1, sI 9 x1, sB 4 false, sA 2 2 2 0, sI 1 x1], [(2, (CV.frzRow (Vtab.row x0)))]⟩ kr ?_
  cases h1 : (!r1)
  · have H := bifF h1 H
    refine LAt.runU tOk 2 kr ?_
    refine LAt.lenE tOk (t := 27) (ty := 3) (e := 3) (x := (.tmp 14)) (d := 15) (g := (some (3, false))) ⟨(.slot 14), [], 0, false, 1, (CV.frzEs (x0.Pvid.map intRow))⟩ (x0.Pvid).length _ kr kr kr kr kr (frz_len _ _) rfl ?_
    refine LAt.runU tOk 4 kr ?_
    refine LAt.to ⟨100, 0, [sB 19 ((x0.Pvid.length : Int) != x1), sB 18 ((x0.Pvid.length : Int) != x1), sB 17 ((x0.Pvid.length : Int) != x1), sI 16 x1, sI 15 (x0.Pvid.length : Int), sC 14 (cF 1 x0.Pvid intRow), sA 13 2 2 1, sB 12 false, sB 11 false, sB 10 r1, sI 9 x1, sB 4 false, sA 2 2 2 0, sI 1 x1], [(2, (CV.frzRow (Vtab.row x0)))]⟩ kr ?_
    cases h2 : ((x0.Pvid.length : Int) != x1)
    · have H := bifF h2 H
      refine LAt.runU tOk 2 kr ?_
      refine LAt.lenE tOk (t := 57) (ty := 3) (e := 138) (x := (.tmp 21)) (d := 22) (g := (some (10, false))) ⟨(.slot 21), [], 0, false, 3, (CV.frzEs (x0.Rows.map Vrow.row))⟩ (x0.Rows).length _ kr kr kr kr kr (frz_len _ _) rfl ?_
      refine LAt.runU tOk 2 kr ?_
      refine LAt.doneM 16777238 4 kr ?_
      cases h3 : (decide ((x0.Rows.length : Int) > 6))
      · have H := bifF h3 H
        refine Tr.cF h3 kr ?_
        refine Tr.skip ?_
        show Tr _ _ _ _ _
        refine Tr.rs ?_
        refine LAt.runU tOk 2 kr ?_
        obtain ⟨hg2, H⟩ := guard_some H
        refine LAt.binC tOk (op := .shl) (t := 3) (ty := 185) (ty' := 3) (x := (.const (.int .i64 1))) (y := (.tmp 26)) (d := 27) (g := none) (.int .i64 1) (.int .u64 (IntKind.wrap .u64 x1)) (.int .i64 (IntKind.wrap .i64 (1 * 2 ^ min (((IntKind.wrap .u64 x1) : Int)).toNat (IntKind.bits .i64)))) _ kr kr kr kr kr (φ := (0 : Int) ≤ (IntKind.wrap .u64 x1)) kr (of_decide_eq_true hg2) rfl ?_
        refine LAt.runU tOk 2 kr ?_
        refine LAt.doneM 52 4 kr ?_
        refine Tr.seq ?_
        refine Tr.rgn tOk 1 116 4 kr kr ?_
        obtain ⟨o8, eo8, Ho8⟩ := bind_some H
        clear H
        refine Tr.mid (ι := Unit) (fun v => ⟨100, 0, [sB 4 false, sA 2 2 2 0], [(2, (CV.frzRow (Vtab.row x0)))]⟩) (fun v => spec_VtabOk_J1 n x0 = some r) ?_ ?_
        · refine Tr.block ?_
          refine Tr.loop (ι := Nat × (Int)) (fun v => ⟨100, 0, [sI 6 v.2, sI 5 (IntKind.wrap .i64 ((IntKind.wrap .i64 (1 * 2 ^ min (((IntKind.wrap .u64 x1) : Int)).toNat (IntKind.bits .i64))) - 1)), sB 4 false, sA 2 2 2 0], [(2, (CV.frzRow (Vtab.row x0)))]⟩) (fun v => spec_VtabOk_L4 n v.1 x0 x1 v.2 = some o8) (fun v => v.1) (n, 0) eo8 (St.sub_of [6, 5, 4, 2] [2] kr) ?_
          rintro ⟨mo8, y3⟩ H
          have H : spec_VtabOk_L4 n mo8 x0 x1 y3 = some o8 := H
          obtain _ | mo8 := mo8
          · cases (show (none : Option _) = some o8 from H)
          rw [spec_VtabOk_L4] at H
          refine Tr.seq ?_
          refine Tr.rs ?_
          refine LAt.runU tOk 3 kr ?_
          refine LAt.lenE tOk (t := 57) (ty := 3) (e := 138) (x := (.tmp 31)) (d := 32) (g := none) ⟨(.slot 31), [], 0, false, 3, (CV.frzEs (x0.Rows.map Vrow.row))⟩ (x0.Rows).length _ kr kr kr kr kr (frz_len _ _) rfl ?_
          refine LAt.runU tOk 1 kr ?_
          refine LAt.doneM 16642998388 4 kr ?_
          cases h6 : (decide (y3 < (x0.Rows.length : Int)))
          · have H := bifF h6 H
            refine Tr.cF h6 kr ?_
            refine Tr.exit ?_
            refine And.intro (fun _ => ?_) (fun h => absurd rfl h)
            have H := Option.some.inj H
            subst H
            have H := Ho8
            dsimp only at H
            exact Exists.intro () (And.intro H (St.sub_of [4, 2] [2] kr))
          have H := bifT h6 H
          refine Tr.cT h6 kr ?_
          refine Tr.skip ?_
          show Tr _ _ _ _ _
          refine Tr.seq ?_
          refine Tr.block ?_
          refine Tr.rs ?_
          refine LAt.runU tOk 3 kr ?_
          obtain ⟨v9, ev9, H⟩ := bind_some H
          refine LAt.indexF tOk (t := 57) (ty := 0) (x := (.tmp 37)) (y := (.tmp 38)) (d := 39) (g := none) ⟨(.slot 37), [], 0, false, 3, (CV.frzEs (x0.Rows.map Vrow.row))⟩ y3 (Vrow.row v9) _ kr kr kr kr rfl (idx_isF ev9) rfl ?_
          refine LAt.runU tOk 3 kr ?_
          refine LAt.doneM 2146946777332 132 kr ?_
          obtain ⟨r10, er10, H⟩ := bind_some H
          refine Tr.to ⟨100, 0, [sA 7 7 3 0, sV 40 (Vrow.row v9), (39, .fad ((Vrow.row v9))), sI 38 y3, sC 37 (cF 3 x0.Rows Vrow.row), sA 36 2 2 0, sB 33 (decide (y3 < (x0.Rows.length : Int))), sI 32 (x0.Rows.length : Int), sC 31 (cF 3 x0.Rows Vrow.row), sA 30 2 2 0, sI 29 y3, sI 6 y3, sI 5 (IntKind.wrap .i64 ((IntKind.wrap .i64 (1 * 2 ^ min (((IntKind.wrap .u64 x1) : Int)).toNat (IntKind.bits .i64))) - 1)), sB 4 false, sA 2 2 2 0], [(7, (Vrow.row v9)), (2, (CV.frzRow (Vtab.row x0)))]⟩ kr ?_
          cases h7 : (!r10)
          · have H := bifF h7 H
            obtain ⟨r11, er11, H⟩ := bind_some H
            refine Tr.to ⟨100, 0, [sA 7 7 3 0, sV 40 (Vrow.row v9), (39, .fad ((Vrow.row v9))), sI 38 y3, sC 37 (cF 3 x0.Rows Vrow.row), sA 36 2 2 0, sB 33 (decide (y3 < (x0.Rows.length : Int))), sI 32 (x0.Rows.length : Int), sC 31 (cF 3 x0.Rows Vrow.row), sA 30 2 2 0, sI 29 y3, sI 6 y3, sI 5 (IntKind.wrap .i64 ((IntKind.wrap .i64 (1 * 2 ^ min (((IntKind.wrap .u64 x1) : Int)).toNat (IntKind.bits .i64))) - 1)), sB 4 false, sA 2 2 2 0], [(7, (Vrow.row v9)), (2, (CV.frzRow (Vtab.row x0)))]⟩ kr ?_
            cases h8 : (!r11)
            · have H := bifF h8 H
              obtain ⟨r12, er12, H⟩ := bind_some H
              refine Tr.to ⟨100, 0, [sA 7 7 3 0, sV 40 (Vrow.row v9), (39, .fad ((Vrow.row v9))), sI 38 y3, sC 37 (cF 3 x0.Rows Vrow.row), sA 36 2 2 0, sB 33 (decide (y3 < (x0.Rows.length : Int))), sI 32 (x0.Rows.length : Int), sC 31 (cF 3 x0.Rows Vrow.row), sA 30 2 2 0, sI 29 y3, sI 6 y3, sI 5 (IntKind.wrap .i64 ((IntKind.wrap .i64 (1 * 2 ^ min (((IntKind.wrap .u64 x1) : Int)).toNat (IntKind.bits .i64))) - 1)), sB 4 false, sA 2 2 2 0], [(7, (Vrow.row v9)), (2, (CV.frzRow (Vtab.row x0)))]⟩ kr ?_
              cases h9 : (!r12)
              · have H := bifF h9 H
                refine Tr.to ⟨100, 0, [sA 7 7 3 0, sV 40 (Vrow.row v9), (39, .fad ((Vrow.row v9))), sI 38 y3, sC 37 (cF 3 x0.Rows Vrow.row), sA 36 2 2 0, sB 33 (decide (y3 < (x0.Rows.length : Int))), sI 32 (x0.Rows.length : Int), sC 31 (cF 3 x0.Rows Vrow.row), sA 30 2 2 0, sI 29 y3, sI 6 y3, sI 5 (IntKind.wrap .i64 ((IntKind.wrap .i64 (1 * 2 ^ min (((IntKind.wrap .u64 x1) : Int)).toNat (IntKind.bits .i64))) - 1)), sB 4 false, sA 2 2 2 0], [(7, (Vrow.row v9)), (2, (CV.frzRow (Vtab.row x0)))]⟩ kr ?_
                cases h10 : ((IntKind.wrap .i64 (BitVec.ofInt (IntKind.bits .i64) v9.Bare &&& BitVec.ofInt (IntKind.bits .i64) v9.Members).toNat) != v9.Bare)
                · have H := bifF h10 H
                  refine Tr.to ⟨100, 0, [sA 7 7 3 0, sV 40 (Vrow.row v9), (39, .fad ((Vrow.row v9))), sI 38 y3, sC 37 (cF 3 x0.Rows Vrow.row), sA 36 2 2 0, sB 33 (decide (y3 < (x0.Rows.length : Int))), sI 32 (x0.Rows.length : Int), sC 31 (cF 3 x0.Rows Vrow.row), sA 30 2 2 0, sI 29 y3, sI 6 y3, sI 5 (IntKind.wrap .i64 ((IntKind.wrap .i64 (1 * 2 ^ min (((IntKind.wrap .u64 x1) : Int)).toNat (IntKind.bits .i64))) - 1)), sB 4 false, sA 2 2 2 0], [(7, (Vrow.row v9)), (2, (CV.frzRow (Vtab.row x0)))]⟩ kr ?_
                  cases h11 : (decide (y3 > 0))
                  · have H := bifF h11 H
                    refine Tr.draws mixed 44 kr ⟨100, 0, [sB 84 false, sB 83 false, (82, .tup []), (81, .tup []), (80, .tup []), (79, .tup []), (78, .tup []), (77, .tup []), (76, .tup []), (75, .tup []), (74, .tup []), (73, .tup []), sB 72 false, sB 71 false, sI 70 y3, sB 69 false, sB 68 false, sB 67 false, sI 66 v9.Bare, sA 65 7 3 2, sI 64 (IntKind.wrap .i64 (BitVec.ofInt (IntKind.bits .i64) v9.Bare &&& BitVec.ofInt (IntKind.bits .i64) v9.Members).toNat), sI 63 v9.Members, sA 62 7 3 1, sI 61 v9.Bare, sA 60 7 3 2, sB 59 false, sB 58 false, sB 57 false, sB 56 r12, sI 55 (IntKind.wrap .i64 ((IntKind.wrap .i64 (1 * 2 ^ min (((IntKind.wrap .u64 x1) : Int)).toNat (IntKind.bits .i64))) - 1)), sI 54 v9.Bare, sA 53 7 3 2, sB 52 false, sB 51 false, sB 50 false, sB 49 r11, sI 48 (IntKind.wrap .i64 ((IntKind.wrap .i64 (1 * 2 ^ min (((IntKind.wrap .u64 x1) : Int)).toNat (IntKind.bits .i64))) - 1)), sI 47 v9.Members, sA 46 7 3 1, sB 45 false, sB 44 false, sB 43 r10, sI 42 v9.Id, sA 41 7 3 0, sA 7 7 3 0, sV 40 (Vrow.row v9), (39, .fad ((Vrow.row v9))), sI 38 y3, sC 37 (cF 3 x0.Rows Vrow.row), sA 36 2 2 0, sB 33 (decide (y3 < (x0.Rows.length : Int))), sI 32 (x0.Rows.length : Int), sC 31 (cF 3 x0.Rows Vrow.row), sA 30 2 2 0, sI 29 y3, sI 6 y3, sI 5 (IntKind.wrap .i64 ((IntKind.wrap .i64 (1 * 2 ^ min (((IntKind.wrap .u64 x1) : Int)).toNat (IntKind.bits .i64))) - 1)), sB 4 false, sA 2 2 2 0], [(7, (Vrow.row v9)), (2, (CV.frzRow (Vtab.row x0)))]⟩ (fun cx => ?_) ?_
                    · refine AT.runU tOk [(0, []), (1, [2, 8, 15])] 42 [⟨[2, 8, 15], 3, 41, 42⟩] [1, 0] rfl kr (fun cx => ?_)
                      refine AT.big1 tOk 2 kr kr ?_
                      refine LAt.callV tOk [.rd, .rd, .rd] [] (spec_l1In n v9.Id 1 99 r10 er10) kr kr kr kr (.inl rfl) ?_
                      refine LAt.fin kr (And.intro (And.intro kr kr) ?_)
                      refine AT.runU tOk [(3, []), (4, [])] 39 [⟨[2, 8, 15], 3, 41, 42⟩] [4, 3, 2, 1, 0] rfl kr (fun cx => ?_)
                      refine AT.to ⟨100, 0, [sB 45 (!r10), sB 44 (!r10), sB 43 r10, sI 42 v9.Id, sA 41 7 3 0, sA 7 7 3 0, sV 40 (Vrow.row v9), (39, .fad ((Vrow.row v9))), sI 38 y3, sC 37 (cF 3 x0.Rows Vrow.row), sA 36 2 2 0, sB 33 (decide (y3 < (x0.Rows.length : Int))), sI 32 (x0.Rows.length : Int), sC 31 (cF 3 x0.Rows Vrow.row), sA 30 2 2 0, sI 29 y3, sI 6 y3, sI 5 (IntKind.wrap .i64 ((IntKind.wrap .i64 (1 * 2 ^ min (((IntKind.wrap .u64 x1) : Int)).toNat (IntKind.bits .i64))) - 1)), sB 4 false, sA 2 2 2 0], [(7, (Vrow.row v9)), (2, (CV.frzRow (Vtab.row x0)))]⟩ kr ?_
                      rw [h7]
                      refine AT.runU tOk [(5, []), (6, [8, 15]), (7, [])] 36 [⟨[8, 15], 3, 46, 47⟩, ⟨[2, 8, 15], 3, 41, 42⟩] [7, 6, 5, 4, 3, 2, 1, 0] rfl kr (fun cx => ?_)
                      refine AT.big1 tOk 8 kr kr ?_
                      refine LAt.callV tOk [.rd, .rd, .rd] [] (spec_l1In n v9.Members 0 (IntKind.wrap .i64 ((IntKind.wrap .i64 (1 * 2 ^ min (((IntKind.wrap .u64 x1) : Int)).toNat (IntKind.bits .i64))) - 1)) r11 er11) kr kr kr kr (.inl rfl) ?_
                      refine LAt.fin kr (And.intro (And.intro kr kr) ?_)
                      refine AT.runU tOk [(9, []), (10, []), (11, [])] 32 [⟨[8, 15], 3, 46, 47⟩, ⟨[2, 8, 15], 3, 41, 42⟩] [11, 10, 9, 8, 7, 6, 5, 4, 3, 2, 1, 0] rfl kr (fun cx => ?_)
                      refine AT.to ⟨100, 0, [sB 52 (!r11), sB 51 (!r11), sB 50 (!r11), sB 49 r11, sI 48 (IntKind.wrap .i64 ((IntKind.wrap .i64 (1 * 2 ^ min (((IntKind.wrap .u64 x1) : Int)).toNat (IntKind.bits .i64))) - 1)), sI 47 v9.Members, sA 46 7 3 1, sB 45 false, sB 44 false, sB 43 r10, sI 42 v9.Id, sA 41 7 3 0, sA 7 7 3 0, sV 40 (Vrow.row v9), (39, .fad ((Vrow.row v9))), sI 38 y3, sC 37 (cF 3 x0.Rows Vrow.row), sA 36 2 2 0, sB 33 (decide (y3 < (x0.Rows.length : Int))), sI 32 (x0.Rows.length : Int), sC 31 (cF 3 x0.Rows Vrow.row), sA 30 2 2 0, sI 29 y3, sI 6 y3, sI 5 (IntKind.wrap .i64 ((IntKind.wrap .i64 (1 * 2 ^ min (((IntKind.wrap .u64 x1) : Int)).toNat (IntKind.bits .i64))) - 1)), sB 4 false, sA 2 2 2 0], [(7, (Vrow.row v9)), (2, (CV.frzRow (Vtab.row x0)))]⟩ kr ?_
                      rw [h8]
                      refine AT.runU tOk [(12, []), (13, [15]), (14, [])] 29 [⟨[15], 3, 53, 54⟩, ⟨[8, 15], 3, 46, 47⟩, ⟨[2, 8, 15], 3, 41, 42⟩] [14, 13, 12, 11, 10, 9, 8, 7, 6, 5, 4, 3, 2, 1, 0] rfl kr (fun cx => ?_)
                      refine AT.big1 tOk 15 kr kr ?_
                      refine LAt.callV tOk [.rd, .rd, .rd] [] (spec_l1In n v9.Bare 0 (IntKind.wrap .i64 ((IntKind.wrap .i64 (1 * 2 ^ min (((IntKind.wrap .u64 x1) : Int)).toNat (IntKind.bits .i64))) - 1)) r12 er12) kr kr kr kr (.inl rfl) ?_
                      refine LAt.fin kr (And.intro (And.intro kr kr) ?_)
                      refine AT.runU tOk [(16, []), (17, []), (18, [])] 25 [⟨[15], 3, 53, 54⟩, ⟨[8, 15], 3, 46, 47⟩, ⟨[2, 8, 15], 3, 41, 42⟩] [18, 17, 16, 15, 14, 13, 12, 11, 10, 9, 8, 7, 6, 5, 4, 3, 2, 1, 0] rfl kr (fun cx => ?_)
                      refine AT.to ⟨100, 0, [sB 59 (!r12), sB 58 (!r12), sB 57 (!r12), sB 56 r12, sI 55 (IntKind.wrap .i64 ((IntKind.wrap .i64 (1 * 2 ^ min (((IntKind.wrap .u64 x1) : Int)).toNat (IntKind.bits .i64))) - 1)), sI 54 v9.Bare, sA 53 7 3 2, sB 52 false, sB 51 false, sB 50 false, sB 49 r11, sI 48 (IntKind.wrap .i64 ((IntKind.wrap .i64 (1 * 2 ^ min (((IntKind.wrap .u64 x1) : Int)).toNat (IntKind.bits .i64))) - 1)), sI 47 v9.Members, sA 46 7 3 1, sB 45 false, sB 44 false, sB 43 r10, sI 42 v9.Id, sA 41 7 3 0, sA 7 7 3 0, sV 40 (Vrow.row v9), (39, .fad ((Vrow.row v9))), sI 38 y3, sC 37 (cF 3 x0.Rows Vrow.row), sA 36 2 2 0, sB 33 (decide (y3 < (x0.Rows.length : Int))), sI 32 (x0.Rows.length : Int), sC 31 (cF 3 x0.Rows Vrow.row), sA 30 2 2 0, sI 29 y3, sI 6 y3, sI 5 (IntKind.wrap .i64 ((IntKind.wrap .i64 (1 * 2 ^ min (((IntKind.wrap .u64 x1) : Int)).toNat (IntKind.bits .i64))) - 1)), sB 4 false, sA 2 2 2 0], [(7, (Vrow.row v9)), (2, (CV.frzRow (Vtab.row x0)))]⟩ kr ?_
                      rw [h9]
                      refine AT.runU tOk [(19, []), (20, []), (21, []), (22, []), (23, []), (24, []), (25, []), (26, []), (27, []), (28, [])] 15 [⟨[], 3, 65, 66⟩, ⟨[], 3, 62, 63⟩, ⟨[], 3, 60, 61⟩, ⟨[15], 3, 53, 54⟩, ⟨[8, 15], 3, 46, 47⟩, ⟨[2, 8, 15], 3, 41, 42⟩] [28, 27, 26, 25, 24, 23, 22, 21, 20, 19, 18, 17, 16, 15, 14, 13, 12, 11, 10, 9, 8, 7, 6, 5, 4, 3, 2, 1, 0] rfl kr (fun cx => ?_)
                      refine AT.to ⟨100, 0, [sB 69 ((IntKind.wrap .i64 (BitVec.ofInt (IntKind.bits .i64) v9.Bare &&& BitVec.ofInt (IntKind.bits .i64) v9.Members).toNat) != v9.Bare), sB 68 ((IntKind.wrap .i64 (BitVec.ofInt (IntKind.bits .i64) v9.Bare &&& BitVec.ofInt (IntKind.bits .i64) v9.Members).toNat) != v9.Bare), sB 67 ((IntKind.wrap .i64 (BitVec.ofInt (IntKind.bits .i64) v9.Bare &&& BitVec.ofInt (IntKind.bits .i64) v9.Members).toNat) != v9.Bare), sI 66 v9.Bare, sA 65 7 3 2, sI 64 (IntKind.wrap .i64 (BitVec.ofInt (IntKind.bits .i64) v9.Bare &&& BitVec.ofInt (IntKind.bits .i64) v9.Members).toNat), sI 63 v9.Members, sA 62 7 3 1, sI 61 v9.Bare, sA 60 7 3 2, sB 59 false, sB 58 false, sB 57 false, sB 56 r12, sI 55 (IntKind.wrap .i64 ((IntKind.wrap .i64 (1 * 2 ^ min (((IntKind.wrap .u64 x1) : Int)).toNat (IntKind.bits .i64))) - 1)), sI 54 v9.Bare, sA 53 7 3 2, sB 52 false, sB 51 false, sB 50 false, sB 49 r11, sI 48 (IntKind.wrap .i64 ((IntKind.wrap .i64 (1 * 2 ^ min (((IntKind.wrap .u64 x1) : Int)).toNat (IntKind.bits .i64))) - 1)), sI 47 v9.Members, sA 46 7 3 1, sB 45 false, sB 44 false, sB 43 r10, sI 42 v9.Id, sA 41 7 3 0, sA 7 7 3 0, sV 40 (Vrow.row v9), (39, .fad ((Vrow.row v9))), sI 38 y3, sC 37 (cF 3 x0.Rows Vrow.row), sA 36 2 2 0, sB 33 (decide (y3 < (x0.Rows.length : Int))), sI 32 (x0.Rows.length : Int), sC 31 (cF 3 x0.Rows Vrow.row), sA 30 2 2 0, sI 29 y3, sI 6 y3, sI 5 (IntKind.wrap .i64 ((IntKind.wrap .i64 (1 * 2 ^ min (((IntKind.wrap .u64 x1) : Int)).toNat (IntKind.bits .i64))) - 1)), sB 4 false, sA 2 2 2 0], [(7, (Vrow.row v9)), (2, (CV.frzRow (Vtab.row x0)))]⟩ kr ?_
                      rw [h10]
                      refine AT.runU tOk [(29, []), (30, []), (31, [])] 12 [⟨[], 3, 65, 66⟩, ⟨[], 3, 62, 63⟩, ⟨[], 3, 60, 61⟩, ⟨[15], 3, 53, 54⟩, ⟨[8, 15], 3, 46, 47⟩, ⟨[2, 8, 15], 3, 41, 42⟩] [31, 30, 29, 28, 27, 26, 25, 24, 23, 22, 21, 20, 19, 18, 17, 16, 15, 14, 13, 12, 11, 10, 9, 8, 7, 6, 5, 4, 3, 2, 1, 0] rfl kr (fun cx => ?_)
                      refine AT.to ⟨100, 0, [sB 72 (decide (y3 > 0)), sB 71 (decide (y3 > 0)), sI 70 y3, sB 69 false, sB 68 false, sB 67 false, sI 66 v9.Bare, sA 65 7 3 2, sI 64 (IntKind.wrap .i64 (BitVec.ofInt (IntKind.bits .i64) v9.Bare &&& BitVec.ofInt (IntKind.bits .i64) v9.Members).toNat), sI 63 v9.Members, sA 62 7 3 1, sI 61 v9.Bare, sA 60 7 3 2, sB 59 false, sB 58 false, sB 57 false, sB 56 r12, sI 55 (IntKind.wrap .i64 ((IntKind.wrap .i64 (1 * 2 ^ min (((IntKind.wrap .u64 x1) : Int)).toNat (IntKind.bits .i64))) - 1)), sI 54 v9.Bare, sA 53 7 3 2, sB 52 false, sB 51 false, sB 50 false, sB 49 r11, sI 48 (IntKind.wrap .i64 ((IntKind.wrap .i64 (1 * 2 ^ min (((IntKind.wrap .u64 x1) : Int)).toNat (IntKind.bits .i64))) - 1)), sI 47 v9.Members, sA 46 7 3 1, sB 45 false, sB 44 false, sB 43 r10, sI 42 v9.Id, sA 41 7 3 0, sA 7 7 3 0, sV 40 (Vrow.row v9), (39, .fad ((Vrow.row v9))), sI 38 y3, sC 37 (cF 3 x0.Rows Vrow.row), sA 36 2 2 0, sB 33 (decide (y3 < (x0.Rows.length : Int))), sI 32 (x0.Rows.length : Int), sC 31 (cF 3 x0.Rows Vrow.row), sA 30 2 2 0, sI 29 y3, sI 6 y3, sI 5 (IntKind.wrap .i64 ((IntKind.wrap .i64 (1 * 2 ^ min (((IntKind.wrap .u64 x1) : Int)).toNat (IntKind.bits .i64))) - 1)), sB 4 false, sA 2 2 2 0], [(7, (Vrow.row v9)), (2, (CV.frzRow (Vtab.row x0)))]⟩ kr ?_
                      rw [h11]
                      refine AT.runU tOk [(32, []), (33, []), (34, []), (35, []), (36, []), (37, []), (38, []), (39, []), (40, []), (41, []), (42, []), (43, [])] 0 [⟨[], 3, 65, 66⟩, ⟨[], 3, 62, 63⟩, ⟨[], 3, 60, 61⟩, ⟨[15], 3, 53, 54⟩, ⟨[8, 15], 3, 46, 47⟩, ⟨[2, 8, 15], 3, 41, 42⟩] [43, 42, 41, 40, 39, 38, 37, 36, 35, 34, 33, 32, 31, 30, 29, 28, 27, 26, 25, 24, 23, 22, 21, 20, 19, 18, 17, 16, 15, 14, 13, 12, 11, 10, 9, 8, 7, 6, 5, 4, 3, 2, 1, 0] rfl kr (fun cx => ?_)
                      exact AT.done [84, 83, 82, 81, 80, 79, 78, 77, 76, 75, 74, 73, 72, 71, 70, 69, 68, 67, 66, 65, 64, 63, 62, 61, 60, 59, 58, 57, 56, 55, 54, 53, 52, 51, 50, 49, 48, 47, 46, 45, 44, 43, 42, 41, 7, 40, 39, 38, 37, 36, 33, 32, 31, 30, 29, 6, 5, 4, 2] [7, 2] _ kr kr rfl
                    refine Tr.cf kr ?_
                    refine Tr.skip ?_
                    show Tr _ _ _ _ _
                    refine Tr.rgE tOk 3 38685626227668133053726964 132 kr kr ?_
                    exact Exists.intro (mo8, (IntKind.wrap .i64 (y3 + 1))) (And.intro H (And.intro (Nat.lt_succ_self mo8) (St.sub_of [6, 5, 4, 2] [2] kr)))
                  have H := bifT h11 H
                  obtain ⟨v13, ev13, H⟩ := bind_some H
                  refine Tr.draws mixed 44 kr ⟨100, 0, [sB 84 (decide (v13.Id ≥ v9.Id)), sB 83 (decide (v13.Id ≥ v9.Id)), sB 82 (decide (v13.Id ≥ v9.Id)), sI 81 v9.Id, sA 80 7 3 0, sI 79 v13.Id, (78, .fad ((Vrow.row v13))), (77, .fad ((Vrow.row v13))), sI 76 (IntKind.wrap .i64 (y3 - 1)), sI 75 y3, sR 74 2 2 0 1 false, sA 73 2 2 0, sB 72 true, sB 71 true, sI 70 y3, sB 69 false, sB 68 false, sB 67 false, sI 66 v9.Bare, sA 65 7 3 2, sI 64 (IntKind.wrap .i64 (BitVec.ofInt (IntKind.bits .i64) v9.Bare &&& BitVec.ofInt (IntKind.bits .i64) v9.Members).toNat), sI 63 v9.Members, sA 62 7 3 1, sI 61 v9.Bare, sA 60 7 3 2, sB 59 false, sB 58 false, sB 57 false, sB 56 r12, sI 55 (IntKind.wrap .i64 ((IntKind.wrap .i64 (1 * 2 ^ min (((IntKind.wrap .u64 x1) : Int)).toNat (IntKind.bits .i64))) - 1)), sI 54 v9.Bare, sA 53 7 3 2, sB 52 false, sB 51 false, sB 50 false, sB 49 r11, sI 48 (IntKind.wrap .i64 ((IntKind.wrap .i64 (1 * 2 ^ min (((IntKind.wrap .u64 x1) : Int)).toNat (IntKind.bits .i64))) - 1)), sI 47 v9.Members, sA 46 7 3 1, sB 45 false, sB 44 false, sB 43 r10, sI 42 v9.Id, sA 41 7 3 0, sA 7 7 3 0, sV 40 (Vrow.row v9), (39, .fad ((Vrow.row v9))), sI 38 y3, sC 37 (cF 3 x0.Rows Vrow.row), sA 36 2 2 0, sB 33 (decide (y3 < (x0.Rows.length : Int))), sI 32 (x0.Rows.length : Int), sC 31 (cF 3 x0.Rows Vrow.row), sA 30 2 2 0, sI 29 y3, sI 6 y3, sI 5 (IntKind.wrap .i64 ((IntKind.wrap .i64 (1 * 2 ^ min (((IntKind.wrap .u64 x1) : Int)).toNat (IntKind.bits .i64))) - 1)), sB 4 false, sA 2 2 2 0], [(7, (Vrow.row v9)), (2, (CV.frzRow (Vtab.row x0)))]⟩ (fun cx => ?_) ?_
                  · refine AT.runU tOk [(0, []), (1, [2, 8, 15])] 42 [⟨[2, 8, 15], 3, 41, 42⟩] [1, 0] rfl kr (fun cx => ?_)
                    refine AT.big1 tOk 2 kr kr ?_
                    refine LAt.callV tOk [.rd, .rd, .rd] [] (spec_l1In n v9.Id 1 99 r10 er10) kr kr kr kr (.inl rfl) ?_
                    refine LAt.fin kr (And.intro (And.intro kr kr) ?_)
                    refine AT.runU tOk [(3, []), (4, [])] 39 [⟨[2, 8, 15], 3, 41, 42⟩] [4, 3, 2, 1, 0] rfl kr (fun cx => ?_)
                    refine AT.to ⟨100, 0, [sB 45 (!r10), sB 44 (!r10), sB 43 r10, sI 42 v9.Id, sA 41 7 3 0, sA 7 7 3 0, sV 40 (Vrow.row v9), (39, .fad ((Vrow.row v9))), sI 38 y3, sC 37 (cF 3 x0.Rows Vrow.row), sA 36 2 2 0, sB 33 (decide (y3 < (x0.Rows.length : Int))), sI 32 (x0.Rows.length : Int), sC 31 (cF 3 x0.Rows Vrow.row), sA 30 2 2 0, sI 29 y3, sI 6 y3, sI 5 (IntKind.wrap .i64 ((IntKind.wrap .i64 (1 * 2 ^ min (((IntKind.wrap .u64 x1) : Int)).toNat (IntKind.bits .i64))) - 1)), sB 4 false, sA 2 2 2 0], [(7, (Vrow.row v9)), (2, (CV.frzRow (Vtab.row x0)))]⟩ kr ?_
                    rw [h7]
                    refine AT.runU tOk [(5, []), (6, [8, 15]), (7, [])] 36 [⟨[8, 15], 3, 46, 47⟩, ⟨[2, 8, 15], 3, 41, 42⟩] [7, 6, 5, 4, 3, 2, 1, 0] rfl kr (fun cx => ?_)
                    refine AT.big1 tOk 8 kr kr ?_
                    refine LAt.callV tOk [.rd, .rd, .rd] [] (spec_l1In n v9.Members 0 (IntKind.wrap .i64 ((IntKind.wrap .i64 (1 * 2 ^ min (((IntKind.wrap .u64 x1) : Int)).toNat (IntKind.bits .i64))) - 1)) r11 er11) kr kr kr kr (.inl rfl) ?_
                    refine LAt.fin kr (And.intro (And.intro kr kr) ?_)
                    refine AT.runU tOk [(9, []), (10, []), (11, [])] 32 [⟨[8, 15], 3, 46, 47⟩, ⟨[2, 8, 15], 3, 41, 42⟩] [11, 10, 9, 8, 7, 6, 5, 4, 3, 2, 1, 0] rfl kr (fun cx => ?_)
                    refine AT.to ⟨100, 0, [sB 52 (!r11), sB 51 (!r11), sB 50 (!r11), sB 49 r11, sI 48 (IntKind.wrap .i64 ((IntKind.wrap .i64 (1 * 2 ^ min (((IntKind.wrap .u64 x1) : Int)).toNat (IntKind.bits .i64))) - 1)), sI 47 v9.Members, sA 46 7 3 1, sB 45 false, sB 44 false, sB 43 r10, sI 42 v9.Id, sA 41 7 3 0, sA 7 7 3 0, sV 40 (Vrow.row v9), (39, .fad ((Vrow.row v9))), sI 38 y3, sC 37 (cF 3 x0.Rows Vrow.row), sA 36 2 2 0, sB 33 (decide (y3 < (x0.Rows.length : Int))), sI 32 (x0.Rows.length : Int), sC 31 (cF 3 x0.Rows Vrow.row), sA 30 2 2 0, sI 29 y3, sI 6 y3, sI 5 (IntKind.wrap .i64 ((IntKind.wrap .i64 (1 * 2 ^ min (((IntKind.wrap .u64 x1) : Int)).toNat (IntKind.bits .i64))) - 1)), sB 4 false, sA 2 2 2 0], [(7, (Vrow.row v9)), (2, (CV.frzRow (Vtab.row x0)))]⟩ kr ?_
                    rw [h8]
                    refine AT.runU tOk [(12, []), (13, [15]), (14, [])] 29 [⟨[15], 3, 53, 54⟩, ⟨[8, 15], 3, 46, 47⟩, ⟨[2, 8, 15], 3, 41, 42⟩] [14, 13, 12, 11, 10, 9, 8, 7, 6, 5, 4, 3, 2, 1, 0] rfl kr (fun cx => ?_)
                    refine AT.big1 tOk 15 kr kr ?_
                    refine LAt.callV tOk [.rd, .rd, .rd] [] (spec_l1In n v9.Bare 0 (IntKind.wrap .i64 ((IntKind.wrap .i64 (1 * 2 ^ min (((IntKind.wrap .u64 x1) : Int)).toNat (IntKind.bits .i64))) - 1)) r12 er12) kr kr kr kr (.inl rfl) ?_
                    refine LAt.fin kr (And.intro (And.intro kr kr) ?_)
                    refine AT.runU tOk [(16, []), (17, []), (18, [])] 25 [⟨[15], 3, 53, 54⟩, ⟨[8, 15], 3, 46, 47⟩, ⟨[2, 8, 15], 3, 41, 42⟩] [18, 17, 16, 15, 14, 13, 12, 11, 10, 9, 8, 7, 6, 5, 4, 3, 2, 1, 0] rfl kr (fun cx => ?_)
                    refine AT.to ⟨100, 0, [sB 59 (!r12), sB 58 (!r12), sB 57 (!r12), sB 56 r12, sI 55 (IntKind.wrap .i64 ((IntKind.wrap .i64 (1 * 2 ^ min (((IntKind.wrap .u64 x1) : Int)).toNat (IntKind.bits .i64))) - 1)), sI 54 v9.Bare, sA 53 7 3 2, sB 52 false, sB 51 false, sB 50 false, sB 49 r11, sI 48 (IntKind.wrap .i64 ((IntKind.wrap .i64 (1 * 2 ^ min (((IntKind.wrap .u64 x1) : Int)).toNat (IntKind.bits .i64))) - 1)), sI 47 v9.Members, sA 46 7 3 1, sB 45 false, sB 44 false, sB 43 r10, sI 42 v9.Id, sA 41 7 3 0, sA 7 7 3 0, sV 40 (Vrow.row v9), (39, .fad ((Vrow.row v9))), sI 38 y3, sC 37 (cF 3 x0.Rows Vrow.row), sA 36 2 2 0, sB 33 (decide (y3 < (x0.Rows.length : Int))), sI 32 (x0.Rows.length : Int), sC 31 (cF 3 x0.Rows Vrow.row), sA 30 2 2 0, sI 29 y3, sI 6 y3, sI 5 (IntKind.wrap .i64 ((IntKind.wrap .i64 (1 * 2 ^ min (((IntKind.wrap .u64 x1) : Int)).toNat (IntKind.bits .i64))) - 1)), sB 4 false, sA 2 2 2 0], [(7, (Vrow.row v9)), (2, (CV.frzRow (Vtab.row x0)))]⟩ kr ?_
                    rw [h9]
                    refine AT.runU tOk [(19, []), (20, []), (21, []), (22, []), (23, []), (24, []), (25, []), (26, []), (27, []), (28, [])] 15 [⟨[], 3, 65, 66⟩, ⟨[], 3, 62, 63⟩, ⟨[], 3, 60, 61⟩, ⟨[15], 3, 53, 54⟩, ⟨[8, 15], 3, 46, 47⟩, ⟨[2, 8, 15], 3, 41, 42⟩] [28, 27, 26, 25, 24, 23, 22, 21, 20, 19, 18, 17, 16, 15, 14, 13, 12, 11, 10, 9, 8, 7, 6, 5, 4, 3, 2, 1, 0] rfl kr (fun cx => ?_)
                    refine AT.to ⟨100, 0, [sB 69 ((IntKind.wrap .i64 (BitVec.ofInt (IntKind.bits .i64) v9.Bare &&& BitVec.ofInt (IntKind.bits .i64) v9.Members).toNat) != v9.Bare), sB 68 ((IntKind.wrap .i64 (BitVec.ofInt (IntKind.bits .i64) v9.Bare &&& BitVec.ofInt (IntKind.bits .i64) v9.Members).toNat) != v9.Bare), sB 67 ((IntKind.wrap .i64 (BitVec.ofInt (IntKind.bits .i64) v9.Bare &&& BitVec.ofInt (IntKind.bits .i64) v9.Members).toNat) != v9.Bare), sI 66 v9.Bare, sA 65 7 3 2, sI 64 (IntKind.wrap .i64 (BitVec.ofInt (IntKind.bits .i64) v9.Bare &&& BitVec.ofInt (IntKind.bits .i64) v9.Members).toNat), sI 63 v9.Members, sA 62 7 3 1, sI 61 v9.Bare, sA 60 7 3 2, sB 59 false, sB 58 false, sB 57 false, sB 56 r12, sI 55 (IntKind.wrap .i64 ((IntKind.wrap .i64 (1 * 2 ^ min (((IntKind.wrap .u64 x1) : Int)).toNat (IntKind.bits .i64))) - 1)), sI 54 v9.Bare, sA 53 7 3 2, sB 52 false, sB 51 false, sB 50 false, sB 49 r11, sI 48 (IntKind.wrap .i64 ((IntKind.wrap .i64 (1 * 2 ^ min (((IntKind.wrap .u64 x1) : Int)).toNat (IntKind.bits .i64))) - 1)), sI 47 v9.Members, sA 46 7 3 1, sB 45 false, sB 44 false, sB 43 r10, sI 42 v9.Id, sA 41 7 3 0, sA 7 7 3 0, sV 40 (Vrow.row v9), (39, .fad ((Vrow.row v9))), sI 38 y3, sC 37 (cF 3 x0.Rows Vrow.row), sA 36 2 2 0, sB 33 (decide (y3 < (x0.Rows.length : Int))), sI 32 (x0.Rows.length : Int), sC 31 (cF 3 x0.Rows Vrow.row), sA 30 2 2 0, sI 29 y3, sI 6 y3, sI 5 (IntKind.wrap .i64 ((IntKind.wrap .i64 (1 * 2 ^ min (((IntKind.wrap .u64 x1) : Int)).toNat (IntKind.bits .i64))) - 1)), sB 4 false, sA 2 2 2 0], [(7, (Vrow.row v9)), (2, (CV.frzRow (Vtab.row x0)))]⟩ kr ?_
                    rw [h10]
                    refine AT.runU tOk [(29, []), (30, []), (31, [])] 12 [⟨[], 3, 65, 66⟩, ⟨[], 3, 62, 63⟩, ⟨[], 3, 60, 61⟩, ⟨[15], 3, 53, 54⟩, ⟨[8, 15], 3, 46, 47⟩, ⟨[2, 8, 15], 3, 41, 42⟩] [31, 30, 29, 28, 27, 26, 25, 24, 23, 22, 21, 20, 19, 18, 17, 16, 15, 14, 13, 12, 11, 10, 9, 8, 7, 6, 5, 4, 3, 2, 1, 0] rfl kr (fun cx => ?_)
                    refine AT.to ⟨100, 0, [sB 72 (decide (y3 > 0)), sB 71 (decide (y3 > 0)), sI 70 y3, sB 69 false, sB 68 false, sB 67 false, sI 66 v9.Bare, sA 65 7 3 2, sI 64 (IntKind.wrap .i64 (BitVec.ofInt (IntKind.bits .i64) v9.Bare &&& BitVec.ofInt (IntKind.bits .i64) v9.Members).toNat), sI 63 v9.Members, sA 62 7 3 1, sI 61 v9.Bare, sA 60 7 3 2, sB 59 false, sB 58 false, sB 57 false, sB 56 r12, sI 55 (IntKind.wrap .i64 ((IntKind.wrap .i64 (1 * 2 ^ min (((IntKind.wrap .u64 x1) : Int)).toNat (IntKind.bits .i64))) - 1)), sI 54 v9.Bare, sA 53 7 3 2, sB 52 false, sB 51 false, sB 50 false, sB 49 r11, sI 48 (IntKind.wrap .i64 ((IntKind.wrap .i64 (1 * 2 ^ min (((IntKind.wrap .u64 x1) : Int)).toNat (IntKind.bits .i64))) - 1)), sI 47 v9.Members, sA 46 7 3 1, sB 45 false, sB 44 false, sB 43 r10, sI 42 v9.Id, sA 41 7 3 0, sA 7 7 3 0, sV 40 (Vrow.row v9), (39, .fad ((Vrow.row v9))), sI 38 y3, sC 37 (cF 3 x0.Rows Vrow.row), sA 36 2 2 0, sB 33 (decide (y3 < (x0.Rows.length : Int))), sI 32 (x0.Rows.length : Int), sC 31 (cF 3 x0.Rows Vrow.row), sA 30 2 2 0, sI 29 y3, sI 6 y3, sI 5 (IntKind.wrap .i64 ((IntKind.wrap .i64 (1 * 2 ^ min (((IntKind.wrap .u64 x1) : Int)).toNat (IntKind.bits .i64))) - 1)), sB 4 false, sA 2 2 2 0], [(7, (Vrow.row v9)), (2, (CV.frzRow (Vtab.row x0)))]⟩ kr ?_
                    rw [h11]
                    refine AT.runU tOk [(32, []), (33, []), (34, []), (35, [])] 8 [⟨[], 57, 73, 74⟩, ⟨[], 3, 65, 66⟩, ⟨[], 3, 62, 63⟩, ⟨[], 3, 60, 61⟩, ⟨[15], 3, 53, 54⟩, ⟨[8, 15], 3, 46, 47⟩, ⟨[2, 8, 15], 3, 41, 42⟩] [35, 34, 33, 32, 31, 30, 29, 28, 27, 26, 25, 24, 23, 22, 21, 20, 19, 18, 17, 16, 15, 14, 13, 12, 11, 10, 9, 8, 7, 6, 5, 4, 3, 2, 1, 0] rfl kr (fun cx => ?_)
                    refine AT.indexF tOk 36 (t := 57) (ty := 0) (x := (.tmp 74)) (y := (.tmp 76)) (d := 77) (g := (some (31, true))) ⟨(.box 2), [(0, 0)], 0, false, 3, (CV.frzEs (x0.Rows.map Vrow.row))⟩ (IntKind.wrap .i64 (y3 - 1)) (Vrow.row v13) _ kr kr kr kr kr kr rfl (idx_isF ev13) rfl (fun cx => ?_)
                    refine AT.runU tOk [(37, []), (38, []), (39, []), (40, []), (41, []), (42, []), (43, [])] 0 [⟨[], 3, 80, 81⟩, ⟨[], 57, 73, 74⟩, ⟨[], 3, 65, 66⟩, ⟨[], 3, 62, 63⟩, ⟨[], 3, 60, 61⟩, ⟨[15], 3, 53, 54⟩, ⟨[8, 15], 3, 46, 47⟩, ⟨[2, 8, 15], 3, 41, 42⟩] [43, 42, 41, 40, 39, 38, 37, 36, 35, 34, 33, 32, 31, 30, 29, 28, 27, 26, 25, 24, 23, 22, 21, 20, 19, 18, 17, 16, 15, 14, 13, 12, 11, 10, 9, 8, 7, 6, 5, 4, 3, 2, 1, 0] rfl kr (fun cx => ?_)
                    exact AT.done [84, 83, 82, 81, 80, 79, 78, 77, 76, 75, 74, 73, 72, 71, 70, 69, 68, 67, 66, 65, 64, 63, 62, 61, 60, 59, 58, 57, 56, 55, 54, 53, 52, 51, 50, 49, 48, 47, 46, 45, 44, 43, 42, 41, 7, 40, 39, 38, 37, 36, 33, 32, 31, 30, 29, 6, 5, 4, 2] [7, 2] _ kr kr rfl
                  refine Tr.to ⟨100, 0, [sB 84 (decide (v13.Id ≥ v9.Id)), sB 83 (decide (v13.Id ≥ v9.Id)), sB 82 (decide (v13.Id ≥ v9.Id)), sI 81 v9.Id, sA 80 7 3 0, sI 79 v13.Id, (78, .fad ((Vrow.row v13))), (77, .fad ((Vrow.row v13))), sI 76 (IntKind.wrap .i64 (y3 - 1)), sI 75 y3, sR 74 2 2 0 1 false, sA 73 2 2 0, sB 72 true, sB 71 true, sI 70 y3, sB 69 false, sB 68 false, sB 67 false, sI 66 v9.Bare, sA 65 7 3 2, sI 64 (IntKind.wrap .i64 (BitVec.ofInt (IntKind.bits .i64) v9.Bare &&& BitVec.ofInt (IntKind.bits .i64) v9.Members).toNat), sI 63 v9.Members, sA 62 7 3 1, sI 61 v9.Bare, sA 60 7 3 2, sB 59 false, sB 58 false, sB 57 false, sB 56 r12, sI 55 (IntKind.wrap .i64 ((IntKind.wrap .i64 (1 * 2 ^ min (((IntKind.wrap .u64 x1) : Int)).toNat (IntKind.bits .i64))) - 1)), sI 54 v9.Bare, sA 53 7 3 2, sB 52 false, sB 51 false, sB 50 false, sB 49 r11, sI 48 (IntKind.wrap .i64 ((IntKind.wrap .i64 (1 * 2 ^ min (((IntKind.wrap .u64 x1) : Int)).toNat (IntKind.bits .i64))) - 1)), sI 47 v9.Members, sA 46 7 3 1, sB 45 false, sB 44 false, sB 43 r10, sI 42 v9.Id, sA 41 7 3 0, sA 7 7 3 0, sV 40 (Vrow.row v9), (39, .fad ((Vrow.row v9))), sI 38 y3, sC 37 (cF 3 x0.Rows Vrow.row), sA 36 2 2 0, sB 33 (decide (y3 < (x0.Rows.length : Int))), sI 32 (x0.Rows.length : Int), sC 31 (cF 3 x0.Rows Vrow.row), sA 30 2 2 0, sI 29 y3, sI 6 y3, sI 5 (IntKind.wrap .i64 ((IntKind.wrap .i64 (1 * 2 ^ min (((IntKind.wrap .u64 x1) : Int)).toNat (IntKind.bits .i64))) - 1)), sB 4 false, sA 2 2 2 0], [(7, (Vrow.row v9)), (2, (CV.frzRow (Vtab.row x0)))]⟩ kr ?_
                  cases h12 : (decide (v13.Id ≥ v9.Id))
                  · have H := bifF h12 H
                    refine Tr.cf kr ?_
                    refine Tr.skip ?_
                    show Tr _ _ _ _ _
                    refine Tr.rgE tOk 3 38685626227668133053726964 132 kr kr ?_
                    exact Exists.intro (mo8, (IntKind.wrap .i64 (y3 + 1))) (And.intro H (And.intro (Nat.lt_succ_self mo8) (St.sub_of [6, 5, 4, 2] [2] kr)))
                  have H := bifT h12 H
                  refine Tr.ct kr ?_
                  refine Tr.rgn tOk 1 38685626227668081514119412 132 kr kr ?_
                  refine Tr.ret ?_
                  have H := Option.some.inj H
                  subst H
                  have H := Ho8
                  dsimp only at H
                  have H := Option.some.inj H
                  subst H
                  exact Fin.of _ [(false, [cB false])] kr rfl rfl
                have H := bifT h10 H
                refine Tr.draws mixed 44 kr ⟨100, 0, [sB 84 true, (83, .tup []), (82, .tup []), (81, .tup []), (80, .tup []), (79, .tup []), (78, .tup []), (77, .tup []), (76, .tup []), (75, .tup []), (74, .tup []), (73, .tup []), (72, .tup []), (71, .tup []), (70, .tup []), sB 69 true, sB 68 true, sB 67 true, sI 66 v9.Bare, sA 65 7 3 2, sI 64 (IntKind.wrap .i64 (BitVec.ofInt (IntKind.bits .i64) v9.Bare &&& BitVec.ofInt (IntKind.bits .i64) v9.Members).toNat), sI 63 v9.Members, sA 62 7 3 1, sI 61 v9.Bare, sA 60 7 3 2, sB 59 false, sB 58 false, sB 57 false, sB 56 r12, sI 55 (IntKind.wrap .i64 ((IntKind.wrap .i64 (1 * 2 ^ min (((IntKind.wrap .u64 x1) : Int)).toNat (IntKind.bits .i64))) - 1)), sI 54 v9.Bare, sA 53 7 3 2, sB 52 false, sB 51 false, sB 50 false, sB 49 r11, sI 48 (IntKind.wrap .i64 ((IntKind.wrap .i64 (1 * 2 ^ min (((IntKind.wrap .u64 x1) : Int)).toNat (IntKind.bits .i64))) - 1)), sI 47 v9.Members, sA 46 7 3 1, sB 45 false, sB 44 false, sB 43 r10, sI 42 v9.Id, sA 41 7 3 0, sA 7 7 3 0, sV 40 (Vrow.row v9), (39, .fad ((Vrow.row v9))), sI 38 y3, sC 37 (cF 3 x0.Rows Vrow.row), sA 36 2 2 0, sB 33 (decide (y3 < (x0.Rows.length : Int))), sI 32 (x0.Rows.length : Int), sC 31 (cF 3 x0.Rows Vrow.row), sA 30 2 2 0, sI 29 y3, sI 6 y3, sI 5 (IntKind.wrap .i64 ((IntKind.wrap .i64 (1 * 2 ^ min (((IntKind.wrap .u64 x1) : Int)).toNat (IntKind.bits .i64))) - 1)), sB 4 false, sA 2 2 2 0], [(7, (Vrow.row v9)), (2, (CV.frzRow (Vtab.row x0)))]⟩ (fun cx => ?_) ?_
                · refine AT.runU tOk [(0, []), (1, [2, 8, 15])] 42 [⟨[2, 8, 15], 3, 41, 42⟩] [1, 0] rfl kr (fun cx => ?_)
                  refine AT.big1 tOk 2 kr kr ?_
                  refine LAt.callV tOk [.rd, .rd, .rd] [] (spec_l1In n v9.Id 1 99 r10 er10) kr kr kr kr (.inl rfl) ?_
                  refine LAt.fin kr (And.intro (And.intro kr kr) ?_)
                  refine AT.runU tOk [(3, []), (4, [])] 39 [⟨[2, 8, 15], 3, 41, 42⟩] [4, 3, 2, 1, 0] rfl kr (fun cx => ?_)
                  refine AT.to ⟨100, 0, [sB 45 (!r10), sB 44 (!r10), sB 43 r10, sI 42 v9.Id, sA 41 7 3 0, sA 7 7 3 0, sV 40 (Vrow.row v9), (39, .fad ((Vrow.row v9))), sI 38 y3, sC 37 (cF 3 x0.Rows Vrow.row), sA 36 2 2 0, sB 33 (decide (y3 < (x0.Rows.length : Int))), sI 32 (x0.Rows.length : Int), sC 31 (cF 3 x0.Rows Vrow.row), sA 30 2 2 0, sI 29 y3, sI 6 y3, sI 5 (IntKind.wrap .i64 ((IntKind.wrap .i64 (1 * 2 ^ min (((IntKind.wrap .u64 x1) : Int)).toNat (IntKind.bits .i64))) - 1)), sB 4 false, sA 2 2 2 0], [(7, (Vrow.row v9)), (2, (CV.frzRow (Vtab.row x0)))]⟩ kr ?_
                  rw [h7]
                  refine AT.runU tOk [(5, []), (6, [8, 15]), (7, [])] 36 [⟨[8, 15], 3, 46, 47⟩, ⟨[2, 8, 15], 3, 41, 42⟩] [7, 6, 5, 4, 3, 2, 1, 0] rfl kr (fun cx => ?_)
                  refine AT.big1 tOk 8 kr kr ?_
                  refine LAt.callV tOk [.rd, .rd, .rd] [] (spec_l1In n v9.Members 0 (IntKind.wrap .i64 ((IntKind.wrap .i64 (1 * 2 ^ min (((IntKind.wrap .u64 x1) : Int)).toNat (IntKind.bits .i64))) - 1)) r11 er11) kr kr kr kr (.inl rfl) ?_
                  refine LAt.fin kr (And.intro (And.intro kr kr) ?_)
                  refine AT.runU tOk [(9, []), (10, []), (11, [])] 32 [⟨[8, 15], 3, 46, 47⟩, ⟨[2, 8, 15], 3, 41, 42⟩] [11, 10, 9, 8, 7, 6, 5, 4, 3, 2, 1, 0] rfl kr (fun cx => ?_)
                  refine AT.to ⟨100, 0, [sB 52 (!r11), sB 51 (!r11), sB 50 (!r11), sB 49 r11, sI 48 (IntKind.wrap .i64 ((IntKind.wrap .i64 (1 * 2 ^ min (((IntKind.wrap .u64 x1) : Int)).toNat (IntKind.bits .i64))) - 1)), sI 47 v9.Members, sA 46 7 3 1, sB 45 false, sB 44 false, sB 43 r10, sI 42 v9.Id, sA 41 7 3 0, sA 7 7 3 0, sV 40 (Vrow.row v9), (39, .fad ((Vrow.row v9))), sI 38 y3, sC 37 (cF 3 x0.Rows Vrow.row), sA 36 2 2 0, sB 33 (decide (y3 < (x0.Rows.length : Int))), sI 32 (x0.Rows.length : Int), sC 31 (cF 3 x0.Rows Vrow.row), sA 30 2 2 0, sI 29 y3, sI 6 y3, sI 5 (IntKind.wrap .i64 ((IntKind.wrap .i64 (1 * 2 ^ min (((IntKind.wrap .u64 x1) : Int)).toNat (IntKind.bits .i64))) - 1)), sB 4 false, sA 2 2 2 0], [(7, (Vrow.row v9)), (2, (CV.frzRow (Vtab.row x0)))]⟩ kr ?_
                  rw [h8]
                  refine AT.runU tOk [(12, []), (13, [15]), (14, [])] 29 [⟨[15], 3, 53, 54⟩, ⟨[8, 15], 3, 46, 47⟩, ⟨[2, 8, 15], 3, 41, 42⟩] [14, 13, 12, 11, 10, 9, 8, 7, 6, 5, 4, 3, 2, 1, 0] rfl kr (fun cx => ?_)
                  refine AT.big1 tOk 15 kr kr ?_
                  refine LAt.callV tOk [.rd, .rd, .rd] [] (spec_l1In n v9.Bare 0 (IntKind.wrap .i64 ((IntKind.wrap .i64 (1 * 2 ^ min (((IntKind.wrap .u64 x1) : Int)).toNat (IntKind.bits .i64))) - 1)) r12 er12) kr kr kr kr (.inl rfl) ?_
                  refine LAt.fin kr (And.intro (And.intro kr kr) ?_)
                  refine AT.runU tOk [(16, []), (17, []), (18, [])] 25 [⟨[15], 3, 53, 54⟩, ⟨[8, 15], 3, 46, 47⟩, ⟨[2, 8, 15], 3, 41, 42⟩] [18, 17, 16, 15, 14, 13, 12, 11, 10, 9, 8, 7, 6, 5, 4, 3, 2, 1, 0] rfl kr (fun cx => ?_)
                  refine AT.to ⟨100, 0, [sB 59 (!r12), sB 58 (!r12), sB 57 (!r12), sB 56 r12, sI 55 (IntKind.wrap .i64 ((IntKind.wrap .i64 (1 * 2 ^ min (((IntKind.wrap .u64 x1) : Int)).toNat (IntKind.bits .i64))) - 1)), sI 54 v9.Bare, sA 53 7 3 2, sB 52 false, sB 51 false, sB 50 false, sB 49 r11, sI 48 (IntKind.wrap .i64 ((IntKind.wrap .i64 (1 * 2 ^ min (((IntKind.wrap .u64 x1) : Int)).toNat (IntKind.bits .i64))) - 1)), sI 47 v9.Members, sA 46 7 3 1, sB 45 false, sB 44 false, sB 43 r10, sI 42 v9.Id, sA 41 7 3 0, sA 7 7 3 0, sV 40 (Vrow.row v9), (39, .fad ((Vrow.row v9))), sI 38 y3, sC 37 (cF 3 x0.Rows Vrow.row), sA 36 2 2 0, sB 33 (decide (y3 < (x0.Rows.length : Int))), sI 32 (x0.Rows.length : Int), sC 31 (cF 3 x0.Rows Vrow.row), sA 30 2 2 0, sI 29 y3, sI 6 y3, sI 5 (IntKind.wrap .i64 ((IntKind.wrap .i64 (1 * 2 ^ min (((IntKind.wrap .u64 x1) : Int)).toNat (IntKind.bits .i64))) - 1)), sB 4 false, sA 2 2 2 0], [(7, (Vrow.row v9)), (2, (CV.frzRow (Vtab.row x0)))]⟩ kr ?_
                  rw [h9]
                  refine AT.runU tOk [(19, []), (20, []), (21, []), (22, []), (23, []), (24, []), (25, []), (26, []), (27, []), (28, [])] 15 [⟨[], 3, 65, 66⟩, ⟨[], 3, 62, 63⟩, ⟨[], 3, 60, 61⟩, ⟨[15], 3, 53, 54⟩, ⟨[8, 15], 3, 46, 47⟩, ⟨[2, 8, 15], 3, 41, 42⟩] [28, 27, 26, 25, 24, 23, 22, 21, 20, 19, 18, 17, 16, 15, 14, 13, 12, 11, 10, 9, 8, 7, 6, 5, 4, 3, 2, 1, 0] rfl kr (fun cx => ?_)
                  refine AT.to ⟨100, 0, [sB 69 ((IntKind.wrap .i64 (BitVec.ofInt (IntKind.bits .i64) v9.Bare &&& BitVec.ofInt (IntKind.bits .i64) v9.Members).toNat) != v9.Bare), sB 68 ((IntKind.wrap .i64 (BitVec.ofInt (IntKind.bits .i64) v9.Bare &&& BitVec.ofInt (IntKind.bits .i64) v9.Members).toNat) != v9.Bare), sB 67 ((IntKind.wrap .i64 (BitVec.ofInt (IntKind.bits .i64) v9.Bare &&& BitVec.ofInt (IntKind.bits .i64) v9.Members).toNat) != v9.Bare), sI 66 v9.Bare, sA 65 7 3 2, sI 64 (IntKind.wrap .i64 (BitVec.ofInt (IntKind.bits .i64) v9.Bare &&& BitVec.ofInt (IntKind.bits .i64) v9.Members).toNat), sI 63 v9.Members, sA 62 7 3 1, sI 61 v9.Bare, sA 60 7 3 2, sB 59 false, sB 58 false, sB 57 false, sB 56 r12, sI 55 (IntKind.wrap .i64 ((IntKind.wrap .i64 (1 * 2 ^ min (((IntKind.wrap .u64 x1) : Int)).toNat (IntKind.bits .i64))) - 1)), sI 54 v9.Bare, sA 53 7 3 2, sB 52 false, sB 51 false, sB 50 false, sB 49 r11, sI 48 (IntKind.wrap .i64 ((IntKind.wrap .i64 (1 * 2 ^ min (((IntKind.wrap .u64 x1) : Int)).toNat (IntKind.bits .i64))) - 1)), sI 47 v9.Members, sA 46 7 3 1, sB 45 false, sB 44 false, sB 43 r10, sI 42 v9.Id, sA 41 7 3 0, sA 7 7 3 0, sV 40 (Vrow.row v9), (39, .fad ((Vrow.row v9))), sI 38 y3, sC 37 (cF 3 x0.Rows Vrow.row), sA 36 2 2 0, sB 33 (decide (y3 < (x0.Rows.length : Int))), sI 32 (x0.Rows.length : Int), sC 31 (cF 3 x0.Rows Vrow.row), sA 30 2 2 0, sI 29 y3, sI 6 y3, sI 5 (IntKind.wrap .i64 ((IntKind.wrap .i64 (1 * 2 ^ min (((IntKind.wrap .u64 x1) : Int)).toNat (IntKind.bits .i64))) - 1)), sB 4 false, sA 2 2 2 0], [(7, (Vrow.row v9)), (2, (CV.frzRow (Vtab.row x0)))]⟩ kr ?_
                  rw [h10]
                  refine AT.runU tOk [(29, []), (30, []), (31, []), (32, []), (33, []), (34, []), (35, []), (36, []), (37, []), (38, []), (39, []), (40, []), (41, []), (42, []), (43, [])] 0 [⟨[], 3, 65, 66⟩, ⟨[], 3, 62, 63⟩, ⟨[], 3, 60, 61⟩, ⟨[15], 3, 53, 54⟩, ⟨[8, 15], 3, 46, 47⟩, ⟨[2, 8, 15], 3, 41, 42⟩] [43, 42, 41, 40, 39, 38, 37, 36, 35, 34, 33, 32, 31, 30, 29, 28, 27, 26, 25, 24, 23, 22, 21, 20, 19, 18, 17, 16, 15, 14, 13, 12, 11, 10, 9, 8, 7, 6, 5, 4, 3, 2, 1, 0] rfl kr (fun cx => ?_)
                  exact AT.done [84, 83, 82, 81, 80, 79, 78, 77, 76, 75, 74, 73, 72, 71, 70, 69, 68, 67, 66, 65, 64, 63, 62, 61, 60, 59, 58, 57, 56, 55, 54, 53, 52, 51, 50, 49, 48, 47, 46, 45, 44, 43, 42, 41, 7, 40, 39, 38, 37, 36, 33, 32, 31, 30, 29, 6, 5, 4, 2] [7, 2] _ kr kr rfl
                refine Tr.ct kr ?_
                refine Tr.rgn tOk 1 38685626227668081514119412 132 kr kr ?_
                refine Tr.ret ?_
                have H := Option.some.inj H
                subst H
                have H := Ho8
                dsimp only at H
                have H := Option.some.inj H
                subst H
                exact Fin.of _ [(false, [cB false])] kr rfl rfl
              have H := bifT h9 H
              refine Tr.draws mixed 44 kr ⟨100, 0, [sB 84 true, (83, .tup []), (82, .tup []), (81, .tup []), (80, .tup []), (79, .tup []), (78, .tup []), (77, .tup []), (76, .tup []), (75, .tup []), (74, .tup []), (73, .tup []), (72, .tup []), (71, .tup []), (70, .tup []), sB 69 true, sB 68 true, (67, .tup []), (66, .tup []), (65, .tup []), (64, .tup []), (63, .tup []), (62, .tup []), (61, .tup []), (60, .tup []), sB 59 true, sB 58 true, sB 57 true, sB 56 r12, sI 55 (IntKind.wrap .i64 ((IntKind.wrap .i64 (1 * 2 ^ min (((IntKind.wrap .u64 x1) : Int)).toNat (IntKind.bits .i64))) - 1)), sI 54 v9.Bare, sA 53 7 3 2, sB 52 false, sB 51 false, sB 50 false, sB 49 r11, sI 48 (IntKind.wrap .i64 ((IntKind.wrap .i64 (1 * 2 ^ min (((IntKind.wrap .u64 x1) : Int)).toNat (IntKind.bits .i64))) - 1)), sI 47 v9.Members, sA 46 7 3 1, sB 45 false, sB 44 false, sB 43 r10, sI 42 v9.Id, sA 41 7 3 0, sA 7 7 3 0, sV 40 (Vrow.row v9), (39, .fad ((Vrow.row v9))), sI 38 y3, sC 37 (cF 3 x0.Rows Vrow.row), sA 36 2 2 0, sB 33 (decide (y3 < (x0.Rows.length : Int))), sI 32 (x0.Rows.length : Int), sC 31 (cF 3 x0.Rows Vrow.row), sA 30 2 2 0, sI 29 y3, sI 6 y3, sI 5 (IntKind.wrap .i64 ((IntKind.wrap .i64 (1 * 2 ^ min (((IntKind.wrap .u64 x1) : Int)).toNat (IntKind.bits .i64))) - 1)), sB 4 false, sA 2 2 2 0], [(7, (Vrow.row v9)), (2, (CV.frzRow (Vtab.row x0)))]⟩ (fun cx => ?_) ?_
              · refine AT.runU tOk [(0, []), (1, [2, 8, 15])] 42 [⟨[2, 8, 15], 3, 41, 42⟩] [1, 0] rfl kr (fun cx => ?_)
                refine AT.big1 tOk 2 kr kr ?_
                refine LAt.callV tOk [.rd, .rd, .rd] [] (spec_l1In n v9.Id 1 99 r10 er10) kr kr kr kr (.inl rfl) ?_
                refine LAt.fin kr (And.intro (And.intro kr kr) ?_)
                refine AT.runU tOk [(3, []), (4, [])] 39 [⟨[2, 8, 15], 3, 41, 42⟩] [4, 3, 2, 1, 0] rfl kr (fun cx => ?_)
                refine AT.to ⟨100, 0, [sB 45 (!r10), sB 44 (!r10), sB 43 r10, sI 42 v9.Id, sA 41 7 3 0, sA 7 7 3 0, sV 40 (Vrow.row v9), (39, .fad ((Vrow.row v9))), sI 38 y3, sC 37 (cF 3 x0.Rows Vrow.row), sA 36 2 2 0, sB 33 (decide (y3 < (x0.Rows.length : Int))), sI 32 (x0.Rows.length : Int), sC 31 (cF 3 x0.Rows Vrow.row), sA 30 2 2 0, sI 29 y3, sI 6 y3, sI 5 (IntKind.wrap .i64 ((IntKind.wrap .i64 (1 * 2 ^ min (((IntKind.wrap .u64 x1) : Int)).toNat (IntKind.bits .i64))) - 1)), sB 4 false, sA 2 2 2 0], [(7, (Vrow.row v9)), (2, (CV.frzRow (Vtab.row x0)))]⟩ kr ?_
                rw [h7]
                refine AT.runU tOk [(5, []), (6, [8, 15]), (7, [])] 36 [⟨[8, 15], 3, 46, 47⟩, ⟨[2, 8, 15], 3, 41, 42⟩] [7, 6, 5, 4, 3, 2, 1, 0] rfl kr (fun cx => ?_)
                refine AT.big1 tOk 8 kr kr ?_
                refine LAt.callV tOk [.rd, .rd, .rd] [] (spec_l1In n v9.Members 0 (IntKind.wrap .i64 ((IntKind.wrap .i64 (1 * 2 ^ min (((IntKind.wrap .u64 x1) : Int)).toNat (IntKind.bits .i64))) - 1)) r11 er11) kr kr kr kr (.inl rfl) ?_
                refine LAt.fin kr (And.intro (And.intro kr kr) ?_)
                refine AT.runU tOk [(9, []), (10, []), (11, [])] 32 [⟨[8, 15], 3, 46, 47⟩, ⟨[2, 8, 15], 3, 41, 42⟩] [11, 10, 9, 8, 7, 6, 5, 4, 3, 2, 1, 0] rfl kr (fun cx => ?_)
                refine AT.to ⟨100, 0, [sB 52 (!r11), sB 51 (!r11), sB 50 (!r11), sB 49 r11, sI 48 (IntKind.wrap .i64 ((IntKind.wrap .i64 (1 * 2 ^ min (((IntKind.wrap .u64 x1) : Int)).toNat (IntKind.bits .i64))) - 1)), sI 47 v9.Members, sA 46 7 3 1, sB 45 false, sB 44 false, sB 43 r10, sI 42 v9.Id, sA 41 7 3 0, sA 7 7 3 0, sV 40 (Vrow.row v9), (39, .fad ((Vrow.row v9))), sI 38 y3, sC 37 (cF 3 x0.Rows Vrow.row), sA 36 2 2 0, sB 33 (decide (y3 < (x0.Rows.length : Int))), sI 32 (x0.Rows.length : Int), sC 31 (cF 3 x0.Rows Vrow.row), sA 30 2 2 0, sI 29 y3, sI 6 y3, sI 5 (IntKind.wrap .i64 ((IntKind.wrap .i64 (1 * 2 ^ min (((IntKind.wrap .u64 x1) : Int)).toNat (IntKind.bits .i64))) - 1)), sB 4 false, sA 2 2 2 0], [(7, (Vrow.row v9)), (2, (CV.frzRow (Vtab.row x0)))]⟩ kr ?_
                rw [h8]
                refine AT.runU tOk [(12, []), (13, [15]), (14, [])] 29 [⟨[15], 3, 53, 54⟩, ⟨[8, 15], 3, 46, 47⟩, ⟨[2, 8, 15], 3, 41, 42⟩] [14, 13, 12, 11, 10, 9, 8, 7, 6, 5, 4, 3, 2, 1, 0] rfl kr (fun cx => ?_)
                refine AT.big1 tOk 15 kr kr ?_
                refine LAt.callV tOk [.rd, .rd, .rd] [] (spec_l1In n v9.Bare 0 (IntKind.wrap .i64 ((IntKind.wrap .i64 (1 * 2 ^ min (((IntKind.wrap .u64 x1) : Int)).toNat (IntKind.bits .i64))) - 1)) r12 er12) kr kr kr kr (.inl rfl) ?_
                refine LAt.fin kr (And.intro (And.intro kr kr) ?_)
                refine AT.runU tOk [(16, []), (17, []), (18, [])] 25 [⟨[15], 3, 53, 54⟩, ⟨[8, 15], 3, 46, 47⟩, ⟨[2, 8, 15], 3, 41, 42⟩] [18, 17, 16, 15, 14, 13, 12, 11, 10, 9, 8, 7, 6, 5, 4, 3, 2, 1, 0] rfl kr (fun cx => ?_)
                refine AT.to ⟨100, 0, [sB 59 (!r12), sB 58 (!r12), sB 57 (!r12), sB 56 r12, sI 55 (IntKind.wrap .i64 ((IntKind.wrap .i64 (1 * 2 ^ min (((IntKind.wrap .u64 x1) : Int)).toNat (IntKind.bits .i64))) - 1)), sI 54 v9.Bare, sA 53 7 3 2, sB 52 false, sB 51 false, sB 50 false, sB 49 r11, sI 48 (IntKind.wrap .i64 ((IntKind.wrap .i64 (1 * 2 ^ min (((IntKind.wrap .u64 x1) : Int)).toNat (IntKind.bits .i64))) - 1)), sI 47 v9.Members, sA 46 7 3 1, sB 45 false, sB 44 false, sB 43 r10, sI 42 v9.Id, sA 41 7 3 0, sA 7 7 3 0, sV 40 (Vrow.row v9), (39, .fad ((Vrow.row v9))), sI 38 y3, sC 37 (cF 3 x0.Rows Vrow.row), sA 36 2 2 0, sB 33 (decide (y3 < (x0.Rows.length : Int))), sI 32 (x0.Rows.length : Int), sC 31 (cF 3 x0.Rows Vrow.row), sA 30 2 2 0, sI 29 y3, sI 6 y3, sI 5 (IntKind.wrap .i64 ((IntKind.wrap .i64 (1 * 2 ^ min (((IntKind.wrap .u64 x1) : Int)).toNat (IntKind.bits .i64))) - 1)), sB 4 false, sA 2 2 2 0], [(7, (Vrow.row v9)), (2, (CV.frzRow (Vtab.row x0)))]⟩ kr ?_
                rw [h9]
                refine AT.runU tOk [(19, []), (20, []), (21, []), (22, []), (23, []), (24, []), (25, []), (26, []), (27, []), (28, []), (29, []), (30, []), (31, []), (32, []), (33, []), (34, []), (35, []), (36, []), (37, []), (38, []), (39, []), (40, []), (41, []), (42, []), (43, [])] 0 [⟨[15], 3, 53, 54⟩, ⟨[8, 15], 3, 46, 47⟩, ⟨[2, 8, 15], 3, 41, 42⟩] [43, 42, 41, 40, 39, 38, 37, 36, 35, 34, 33, 32, 31, 30, 29, 28, 27, 26, 25, 24, 23, 22, 21, 20, 19, 18, 17, 16, 15, 14, 13, 12, 11, 10, 9, 8, 7, 6, 5, 4, 3, 2, 1, 0] rfl kr (fun cx => ?_)
                exact AT.done [84, 83, 82, 81, 80, 79, 78, 77, 76, 75, 74, 73, 72, 71, 70, 69, 68, 67, 66, 65, 64, 63, 62, 61, 60, 59, 58, 57, 56, 55, 54, 53, 52, 51, 50, 49, 48, 47, 46, 45, 44, 43, 42, 41, 7, 40, 39, 38, 37, 36, 33, 32, 31, 30, 29, 6, 5, 4, 2] [7, 2] _ kr kr rfl
              refine Tr.ct kr ?_
              refine Tr.rgn tOk 1 38685626227668081514119412 132 kr kr ?_
              refine Tr.ret ?_
              have H := Option.some.inj H
              subst H
              have H := Ho8
              dsimp only at H
              have H := Option.some.inj H
              subst H
              exact Fin.of _ [(false, [cB false])] kr rfl rfl
            have H := bifT h8 H
            refine Tr.draws mixed 44 kr ⟨100, 0, [sB 84 true, (83, .tup []), (82, .tup []), (81, .tup []), (80, .tup []), (79, .tup []), (78, .tup []), (77, .tup []), (76, .tup []), (75, .tup []), (74, .tup []), (73, .tup []), (72, .tup []), (71, .tup []), (70, .tup []), sB 69 true, sB 68 true, (67, .tup []), (66, .tup []), (65, .tup []), (64, .tup []), (63, .tup []), (62, .tup []), (61, .tup []), (60, .tup []), sB 59 true, sB 58 true, (57, .tup []), (56, .tup []), (55, .tup []), (54, .tup []), (53, .tup []), sB 52 true, sB 51 true, sB 50 true, sB 49 r11, sI 48 (IntKind.wrap .i64 ((IntKind.wrap .i64 (1 * 2 ^ min (((IntKind.wrap .u64 x1) : Int)).toNat (IntKind.bits .i64))) - 1)), sI 47 v9.Members, sA 46 7 3 1, sB 45 false, sB 44 false, sB 43 r10, sI 42 v9.Id, sA 41 7 3 0, sA 7 7 3 0, sV 40 (Vrow.row v9), (39, .fad ((Vrow.row v9))), sI 38 y3, sC 37 (cF 3 x0.Rows Vrow.row), sA 36 2 2 0, sB 33 (decide (y3 < (x0.Rows.length : Int))), sI 32 (x0.Rows.length : Int), sC 31 (cF 3 x0.Rows Vrow.row), sA 30 2 2 0, sI 29 y3, sI 6 y3, sI 5 (IntKind.wrap .i64 ((IntKind.wrap .i64 (1 * 2 ^ min (((IntKind.wrap .u64 x1) : Int)).toNat (IntKind.bits .i64))) - 1)), sB 4 false, sA 2 2 2 0], [(7, (Vrow.row v9)), (2, (CV.frzRow (Vtab.row x0)))]⟩ (fun cx => ?_) ?_
            · refine AT.runU tOk [(0, []), (1, [2, 8])] 42 [⟨[2, 8], 3, 41, 42⟩] [1, 0] rfl kr (fun cx => ?_)
              refine AT.big1 tOk 2 kr kr ?_
              refine LAt.callV tOk [.rd, .rd, .rd] [] (spec_l1In n v9.Id 1 99 r10 er10) kr kr kr kr (.inl rfl) ?_
              refine LAt.fin kr (And.intro (And.intro kr kr) ?_)
              refine AT.runU tOk [(3, []), (4, [])] 39 [⟨[2, 8], 3, 41, 42⟩] [4, 3, 2, 1, 0] rfl kr (fun cx => ?_)
              refine AT.to ⟨100, 0, [sB 45 (!r10), sB 44 (!r10), sB 43 r10, sI 42 v9.Id, sA 41 7 3 0, sA 7 7 3 0, sV 40 (Vrow.row v9), (39, .fad ((Vrow.row v9))), sI 38 y3, sC 37 (cF 3 x0.Rows Vrow.row), sA 36 2 2 0, sB 33 (decide (y3 < (x0.Rows.length : Int))), sI 32 (x0.Rows.length : Int), sC 31 (cF 3 x0.Rows Vrow.row), sA 30 2 2 0, sI 29 y3, sI 6 y3, sI 5 (IntKind.wrap .i64 ((IntKind.wrap .i64 (1 * 2 ^ min (((IntKind.wrap .u64 x1) : Int)).toNat (IntKind.bits .i64))) - 1)), sB 4 false, sA 2 2 2 0], [(7, (Vrow.row v9)), (2, (CV.frzRow (Vtab.row x0)))]⟩ kr ?_
              rw [h7]
              refine AT.runU tOk [(5, []), (6, [8]), (7, [])] 36 [⟨[8], 3, 46, 47⟩, ⟨[2, 8], 3, 41, 42⟩] [7, 6, 5, 4, 3, 2, 1, 0] rfl kr (fun cx => ?_)
              refine AT.big1 tOk 8 kr kr ?_
              refine LAt.callV tOk [.rd, .rd, .rd] [] (spec_l1In n v9.Members 0 (IntKind.wrap .i64 ((IntKind.wrap .i64 (1 * 2 ^ min (((IntKind.wrap .u64 x1) : Int)).toNat (IntKind.bits .i64))) - 1)) r11 er11) kr kr kr kr (.inl rfl) ?_
              refine LAt.fin kr (And.intro (And.intro kr kr) ?_)
              refine AT.runU tOk [(9, []), (10, []), (11, [])] 32 [⟨[8], 3, 46, 47⟩, ⟨[2, 8], 3, 41, 42⟩] [11, 10, 9, 8, 7, 6, 5, 4, 3, 2, 1, 0] rfl kr (fun cx => ?_)
              refine AT.to ⟨100, 0, [sB 52 (!r11), sB 51 (!r11), sB 50 (!r11), sB 49 r11, sI 48 (IntKind.wrap .i64 ((IntKind.wrap .i64 (1 * 2 ^ min (((IntKind.wrap .u64 x1) : Int)).toNat (IntKind.bits .i64))) - 1)), sI 47 v9.Members, sA 46 7 3 1, sB 45 false, sB 44 false, sB 43 r10, sI 42 v9.Id, sA 41 7 3 0, sA 7 7 3 0, sV 40 (Vrow.row v9), (39, .fad ((Vrow.row v9))), sI 38 y3, sC 37 (cF 3 x0.Rows Vrow.row), sA 36 2 2 0, sB 33 (decide (y3 < (x0.Rows.length : Int))), sI 32 (x0.Rows.length : Int), sC 31 (cF 3 x0.Rows Vrow.row), sA 30 2 2 0, sI 29 y3, sI 6 y3, sI 5 (IntKind.wrap .i64 ((IntKind.wrap .i64 (1 * 2 ^ min (((IntKind.wrap .u64 x1) : Int)).toNat (IntKind.bits .i64))) - 1)), sB 4 false, sA 2 2 2 0], [(7, (Vrow.row v9)), (2, (CV.frzRow (Vtab.row x0)))]⟩ kr ?_
              rw [h8]
              refine AT.runU tOk [(12, []), (13, []), (14, []), (15, []), (16, []), (17, []), (18, []), (19, []), (20, []), (21, []), (22, []), (23, []), (24, []), (25, []), (26, []), (27, []), (28, []), (29, []), (30, []), (31, []), (32, []), (33, []), (34, []), (35, []), (36, []), (37, []), (38, []), (39, []), (40, []), (41, []), (42, []), (43, [])] 0 [⟨[8], 3, 46, 47⟩, ⟨[2, 8], 3, 41, 42⟩] [43, 42, 41, 40, 39, 38, 37, 36, 35, 34, 33, 32, 31, 30, 29, 28, 27, 26, 25, 24, 23, 22, 21, 20, 19, 18, 17, 16, 15, 14, 13, 12, 11, 10, 9, 8, 7, 6, 5, 4, 3, 2, 1, 0] rfl kr (fun cx => ?_)
              exact AT.done [84, 83, 82, 81, 80, 79, 78, 77, 76, 75, 74, 73, 72, 71, 70, 69, 68, 67, 66, 65, 64, 63, 62, 61, 60, 59, 58, 57, 56, 55, 54, 53, 52, 51, 50, 49, 48, 47, 46, 45, 44, 43, 42, 41, 7, 40, 39, 38, 37, 36, 33, 32, 31, 30, 29, 6, 5, 4, 2] [7, 2] _ kr kr rfl
            refine Tr.ct kr ?_
            refine Tr.rgn tOk 1 38685626227668081514119412 132 kr kr ?_
            refine Tr.ret ?_
            have H := Option.some.inj H
            subst H
            have H := Ho8
            dsimp only at H
            have H := Option.some.inj H
            subst H
            exact Fin.of _ [(false, [cB false])] kr rfl rfl
          have H := bifT h7 H
          refine Tr.draws mixed 44 kr ⟨100, 0, [sB 84 true, (83, .tup []), (82, .tup []), (81, .tup []), (80, .tup []), (79, .tup []), (78, .tup []), (77, .tup []), (76, .tup []), (75, .tup []), (74, .tup []), (73, .tup []), (72, .tup []), (71, .tup []), (70, .tup []), sB 69 true, sB 68 true, (67, .tup []), (66, .tup []), (65, .tup []), (64, .tup []), (63, .tup []), (62, .tup []), (61, .tup []), (60, .tup []), sB 59 true, sB 58 true, (57, .tup []), (56, .tup []), (55, .tup []), (54, .tup []), (53, .tup []), sB 52 true, sB 51 true, (50, .tup []), (49, .tup []), (48, .tup []), (47, .tup []), (46, .tup []), sB 45 true, sB 44 true, sB 43 r10, sI 42 v9.Id, sA 41 7 3 0, sA 7 7 3 0, sV 40 (Vrow.row v9), (39, .fad ((Vrow.row v9))), sI 38 y3, sC 37 (cF 3 x0.Rows Vrow.row), sA 36 2 2 0, sB 33 (decide (y3 < (x0.Rows.length : Int))), sI 32 (x0.Rows.length : Int), sC 31 (cF 3 x0.Rows Vrow.row), sA 30 2 2 0, sI 29 y3, sI 6 y3, sI 5 (IntKind.wrap .i64 ((IntKind.wrap .i64 (1 * 2 ^ min (((IntKind.wrap .u64 x1) : Int)).toNat (IntKind.bits .i64))) - 1)), sB 4 false, sA 2 2 2 0], [(7, (Vrow.row v9)), (2, (CV.frzRow (Vtab.row x0)))]⟩ (fun cx => ?_) ?_
          · refine AT.runU tOk [(0, []), (1, [2])] 42 [⟨[2], 3, 41, 42⟩] [1, 0] rfl kr (fun cx => ?_)
            refine AT.big1 tOk 2 kr kr ?_
            refine LAt.callV tOk [.rd, .rd, .rd] [] (spec_l1In n v9.Id 1 99 r10 er10) kr kr kr kr (.inl rfl) ?_
            refine LAt.fin kr (And.intro (And.intro kr kr) ?_)
            refine AT.runU tOk [(3, []), (4, [])] 39 [⟨[2], 3, 41, 42⟩] [4, 3, 2, 1, 0] rfl kr (fun cx => ?_)
            refine AT.to ⟨100, 0, [sB 45 (!r10), sB 44 (!r10), sB 43 r10, sI 42 v9.Id, sA 41 7 3 0, sA 7 7 3 0, sV 40 (Vrow.row v9), (39, .fad ((Vrow.row v9))), sI 38 y3, sC 37 (cF 3 x0.Rows Vrow.row), sA 36 2 2 0, sB 33 (decide (y3 < (x0.Rows.length : Int))), sI 32 (x0.Rows.length : Int), sC 31 (cF 3 x0.Rows Vrow.row), sA 30 2 2 0, sI 29 y3, sI 6 y3, sI 5 (IntKind.wrap .i64 ((IntKind.wrap .i64 (1 * 2 ^ min (((IntKind.wrap .u64 x1) : Int)).toNat (IntKind.bits .i64))) - 1)), sB 4 false, sA 2 2 2 0], [(7, (Vrow.row v9)), (2, (CV.frzRow (Vtab.row x0)))]⟩ kr ?_
            rw [h7]
            refine AT.runU tOk [(5, []), (6, []), (7, []), (8, []), (9, []), (10, []), (11, []), (12, []), (13, []), (14, []), (15, []), (16, []), (17, []), (18, []), (19, []), (20, []), (21, []), (22, []), (23, []), (24, []), (25, []), (26, []), (27, []), (28, []), (29, []), (30, []), (31, []), (32, []), (33, []), (34, []), (35, []), (36, []), (37, []), (38, []), (39, []), (40, []), (41, []), (42, []), (43, [])] 0 [⟨[2], 3, 41, 42⟩] [43, 42, 41, 40, 39, 38, 37, 36, 35, 34, 33, 32, 31, 30, 29, 28, 27, 26, 25, 24, 23, 22, 21, 20, 19, 18, 17, 16, 15, 14, 13, 12, 11, 10, 9, 8, 7, 6, 5, 4, 3, 2, 1, 0] rfl kr (fun cx => ?_)
            exact AT.done [84, 83, 82, 81, 80, 79, 78, 77, 76, 75, 74, 73, 72, 71, 70, 69, 68, 67, 66, 65, 64, 63, 62, 61, 60, 59, 58, 57, 56, 55, 54, 53, 52, 51, 50, 49, 48, 47, 46, 45, 44, 43, 42, 41, 7, 40, 39, 38, 37, 36, 33, 32, 31, 30, 29, 6, 5, 4, 2] [7, 2] _ kr kr rfl
          refine Tr.ct kr ?_
          refine Tr.rgn tOk 1 38685626227668081514119412 132 kr kr ?_
          refine Tr.ret ?_
          have H := Option.some.inj H
          subst H
          have H := Ho8
          dsimp only at H
          have H := Option.some.inj H
          subst H
          exact Fin.of _ [(false, [cB false])] kr rfl rfl
        rintro _ H
        have H : (spec_VtabOk_J1 n x0) = some r := H
        unfold spec_VtabOk_J1 at H
        show Tr _ _ _ _ _
        refine Tr.seq ?_
        refine Tr.rgn tOk 1 276 4 kr kr ?_
        obtain ⟨o5, eo5, Ho5⟩ := bind_some H
        clear H
        refine Tr.mid (ι := Unit) (fun v => ⟨100, 0, [sB 4 false], []⟩) (fun v => spec_VtabOk_J2 n = some r) ?_ ?_
        · refine Tr.block ?_
          refine Tr.loop (ι := Nat × (Int)) (fun v => ⟨100, 0, [sI 8 v.2, sB 4 false, sA 2 2 2 0], [(2, (CV.frzRow (Vtab.row x0)))]⟩) (fun v => spec_VtabOk_L3 n v.1 x0 v.2 = some o5) (fun v => v.1) (n, 0) eo5 (St.sub_of [8, 4, 2] [2] kr) ?_
          rintro ⟨mo5, y4⟩ H
          have H : spec_VtabOk_L3 n mo5 x0 y4 = some o5 := H
          obtain _ | mo5 := mo5
          · cases (show (none : Option _) = some o5 from H)
          rw [spec_VtabOk_L3] at H
          refine Tr.seq ?_
          refine Tr.rs ?_
          refine LAt.runU tOk 3 kr ?_
          refine LAt.lenE tOk (t := 27) (ty := 3) (e := 3) (x := (.tmp 87)) (d := 88) (g := none) ⟨(.slot 87), [], 0, false, 1, (CV.frzEs (x0.Pvid.map intRow))⟩ (x0.Pvid).length _ kr kr kr kr kr (frz_len _ _) rfl ?_
          refine LAt.runU tOk 1 kr ?_
          refine LAt.doneM 1199254413057712141308526868 4 kr ?_
          cases h4 : (decide (y4 < (x0.Pvid.length : Int)))
          · have H := bifF h4 H
            refine Tr.cF h4 kr ?_
            refine Tr.exit ?_
            refine And.intro (fun _ => ?_) (fun h => absurd rfl h)
            have H := Option.some.inj H
            subst H
            have H := Ho5
            dsimp only at H
            exact Exists.intro () (And.intro H (St.sub_of [4] [] kr))
          have H := bifT h4 H
          refine Tr.cT h4 kr ?_
          refine Tr.skip ?_
          show Tr _ _ _ _ _
          refine Tr.seq ?_
          refine Tr.block ?_
          obtain ⟨v6, ev6, H⟩ := bind_some H
          obtain ⟨r7, er7, H⟩ := bind_some H
          refine Tr.draws mixed 8 kr ⟨100, 0, [sB 99 (decide (r7 < 0)), sI 98 r7, sI 97 v6, (96, .fad ([cI v6])), sI 95 y4, sR 94 2 2 1 1 false, sA 93 2 2 1, sR 92 2 2 0 2 true, sB 89 (decide (y4 < (x0.Pvid.length : Int))), sI 88 (x0.Pvid.length : Int), sC 87 (cF 1 x0.Pvid intRow), sA 86 2 2 1, sI 85 y4, sI 8 y4, sB 4 false, sA 2 2 2 0], [(2, (CV.frzRow (Vtab.row x0)))]⟩ (fun cx => ?_) ?_
          · refine AT.runU tOk [(0, [6]), (1, []), (2, [6]), (3, [])] 4 [⟨[6], 27, 93, 94⟩, ⟨[6], 59, 2, 92⟩] [3, 2, 1, 0] rfl kr (fun cx => ?_)
            refine AT.indexF tOk 4 (t := 27) (ty := 0) (x := (.tmp 94)) (y := (.tmp 95)) (d := 96) (g := none) ⟨(.box 2), [(0, 0)], 1, false, 1, (CV.frzEs (x0.Pvid.map intRow))⟩ y4 [cI v6] _ kr kr kr kr kr kr rfl (idx_isF ev6) rfl (fun cx => ?_)
            refine AT.runU tOk [(5, [])] 2 [⟨[6], 27, 93, 94⟩, ⟨[6], 59, 2, 92⟩] [5, 4, 3, 2, 1, 0] rfl kr (fun cx => ?_)
            refine AT.big1 tOk 6 kr kr ?_
            refine LAt.callV tOk [.rd, .rd] [] (spec_RowAt n x0 v6 r7 er7) kr kr kr kr (.inl rfl) ?_
            refine LAt.fin kr (And.intro (And.intro kr kr) ?_)
            refine AT.runU tOk [(7, [])] 0 [⟨[6], 27, 93, 94⟩, ⟨[6], 59, 2, 92⟩] [7, 6, 5, 4, 3, 2, 1, 0] rfl kr (fun cx => ?_)
            exact AT.done [99, 98, 97, 96, 95, 94, 93, 92, 89, 88, 87, 86, 85, 8, 4, 2] [2] _ kr kr rfl
          refine Tr.to ⟨100, 0, [sB 99 (decide (r7 < 0)), sI 98 r7, sI 97 v6, (96, .fad ([cI v6])), sI 95 y4, sR 94 2 2 1 1 false, sA 93 2 2 1, sR 92 2 2 0 2 true, sB 89 (decide (y4 < (x0.Pvid.length : Int))), sI 88 (x0.Pvid.length : Int), sC 87 (cF 1 x0.Pvid intRow), sA 86 2 2 1, sI 85 y4, sI 8 y4, sB 4 false, sA 2 2 2 0], [(2, (CV.frzRow (Vtab.row x0)))]⟩ kr ?_
          cases h5 : (decide (r7 < 0))
          · have H := bifF h5 H
            refine Tr.cf kr ?_
            refine Tr.skip ?_
            show Tr _ _ _ _ _
            refine Tr.rgE tOk 3 1267611914602001733363112608020 4 kr kr ?_
            exact Exists.intro (mo5, (IntKind.wrap .i64 (y4 + 1))) (And.intro H (And.intro (Nat.lt_succ_self mo5) (St.sub_of [8, 4, 2] [2] kr)))
          have H := bifT h5 H
          refine Tr.ct kr ?_
          refine Tr.rgn tOk 1 1263898094484145592538415235348 4 kr kr ?_
          refine Tr.ret ?_
          have H := Option.some.inj H
          subst H
          have H := Ho5
          dsimp only at H
          have H := Option.some.inj H
          subst H
          exact Fin.of _ [(false, [cB false])] kr rfl rfl
        rintro _ H
        have H : (spec_VtabOk_J2 n) = some r := H
        unfold spec_VtabOk_J2 at H
        show Tr _ _ _ _ _
        refine Tr.rgn tOk 1 16 0 kr kr ?_
        refine Tr.ret ?_
        have H := Option.some.inj H
        subst H
        exact Fin.of _ [(false, [cB true])] kr rfl rfl
      have H := bifT h3 H
      refine Tr.cT h3 kr ?_
      refine Tr.rgn tOk 1 22 4 kr kr ?_
      refine Tr.ret ?_
      have H := Option.some.inj H
      subst H
      exact Fin.of _ [(false, [cB false])] kr rfl rfl
    have H := bifT h2 H
    refine LAt.runU tOk 5 kr ?_
    refine LAt.doneM 16777238 4 kr ?_
    refine Tr.ct kr ?_
    refine Tr.rgn tOk 1 22 4 kr kr ?_
    refine Tr.ret ?_
    have H := Option.some.inj H
    subst H
    exact Fin.of _ [(false, [cB false])] kr rfl rfl
  have H := bifT h1 H
  refine LAt.runU tOk 12 kr ?_
  refine LAt.doneM 16777238 4 kr ?_
  refine Tr.ct kr ?_
  refine Tr.rgn tOk 1 22 4 kr kr ?_
  refine Tr.ret ?_
  have H := Option.some.inj H
  subst H
  exact Fin.of _ [(false, [cB false])] kr rfl rfl

def spec_l11CountsF (n : Nat) (x0 : Bridge) : Option (Bool) :=
  ((spec_l1InF n x0.Ticks 0 1000000).bind fun r1 => (bif r1 then ((spec_l1InF n x0.Parse 0 1000000).bind fun r2 => (bif r2 then ((spec_l1InF n x0.Word 0 1000000).bind fun r3 => (bif r3 then ((spec_l1InF n x0.Drops 0 1000000).bind fun r4 => (bif r4 then ((spec_l1InF n x0.Vers 0 1000000).bind fun r5 => (some r5)) else (some false))) else (some false))) else (some false))) else (some false)))
/-- loop.example/g00326/spec.l11Counts -/
theorem spec_l11Counts (n : Nat) (x0 : Bridge) (r : Bool) (H : spec_l11CountsF n x0 = some r) : LCall Try.prog 168 [.val true (CV.frzRow (Bridge.row x0))] [.val false [.lit (.bool r)]] [] := by
  refine LCall.of_body tOk Try.func168 rfl (c := (.seq (Rg Try.f168 0) (.seq (Rg Try.f168 1) .ret))) kr (Nat.le_of_ble_eq_true kr) 0 (rs := [.tmp 2]) rfl [] .nil [(false, [.lit (.bool r)])] [] [] fun cx => ?_
  show Tr _ _ _ ⟨26, 0, [sV 0 (CV.frzRow (Bridge.row x0))], []⟩ _
  unfold spec_l11CountsF at H
  refine Tr.rgn tOk 2 6 2 kr kr ?_
  refine Tr.rs ?_
  refine LAt.runU tOk 2 kr ?_
  obtain ⟨r1, er1, H⟩ := bind_some H
  refine LAt.callV tOk [.rd, .rd, .rd] [] (spec_l1In n x0.Ticks 0 1000000 r1 er1) kr kr kr kr (.inl rfl) ?_
  refine LAt.runU tOk 1 kr ?_
  refine LAt.to ⟨26, 0, [sB 6 r1, sB 5 r1, sI 4 x0.Ticks, sA 3 1 11 6, sB 2 false, sA 1 1 11 0], [(1, (CV.frzRow (Bridge.row x0)))]⟩ kr ?_
  cases h1 : r1
  · have H := bifF h1 H
    refine LAt.runU tOk 20 kr ?_
    refine LAt.doneM 4 0 kr ?_
    refine Tr.ret ?_
    have H := Option.some.inj H
    subst H
    exact Fin.of _ [(false, [cB false])] kr rfl rfl
  have H := bifT h1 H
  refine LAt.runU tOk 2 kr ?_
  obtain ⟨r2, er2, H⟩ := bind_some H
  refine LAt.callV tOk [.rd, .rd, .rd] [] (spec_l1In n x0.Parse 0 1000000 r2 er2) kr kr kr kr (.inl rfl) ?_
  refine LAt.runU tOk 2 kr ?_
  refine LAt.to ⟨26, 0, [sB 11 r2, sB 10 r2, sB 9 r2, sI 8 x0.Parse, sA 7 1 11 7, sB 6 true, sB 5 true, sI 4 x0.Ticks, sA 3 1 11 6, sB 2 false, sA 1 1 11 0], [(1, (CV.frzRow (Bridge.row x0)))]⟩ kr ?_
  cases h2 : r2
  · have H := bifF h2 H
    refine LAt.runU tOk 15 kr ?_
    refine LAt.doneM 4 0 kr ?_
    refine Tr.ret ?_
    have H := Option.some.inj H
    subst H
    exact Fin.of _ [(false, [cB false])] kr rfl rfl
  have H := bifT h2 H
  refine LAt.runU tOk 2 kr ?_
  obtain ⟨r3, er3, H⟩ := bind_some H
  refine LAt.callV tOk [.rd, .rd, .rd] [] (spec_l1In n x0.Word 0 1000000 r3 er3) kr kr kr kr (.inl rfl) ?_
  refine LAt.runU tOk 2 kr ?_
  refine LAt.to ⟨26, 0, [sB 16 r3, sB 15 r3, sB 14 r3, sI 13 x0.Word, sA 12 1 11 8, sB 11 true, sB 10 true, sB 9 true, sI 8 x0.Parse, sA 7 1 11 7, sB 6 true, sB 5 true, sI 4 x0.Ticks, sA 3 1 11 6, sB 2 false, sA 1 1 11 0], [(1, (CV.frzRow (Bridge.row x0)))]⟩ kr ?_
  cases h3 : r3
  · have H := bifF h3 H
    refine LAt.runU tOk 10 kr ?_
    refine LAt.doneM 4 0 kr ?_
    refine Tr.ret ?_
    have H := Option.some.inj H
    subst H
    exact Fin.of _ [(false, [cB false])] kr rfl rfl
  have H := bifT h3 H
  refine LAt.runU tOk 2 kr ?_
  obtain ⟨r4, er4, H⟩ := bind_some H
  refine LAt.callV tOk [.rd, .rd, .rd] [] (spec_l1In n x0.Drops 0 1000000 r4 er4) kr kr kr kr (.inl rfl) ?_
  refine LAt.runU tOk 2 kr ?_
  refine LAt.to ⟨26, 0, [sB 21 r4, sB 20 r4, sB 19 r4, sI 18 x0.Drops, sA 17 1 11 9, sB 16 true, sB 15 true, sB 14 true, sI 13 x0.Word, sA 12 1 11 8, sB 11 true, sB 10 true, sB 9 true, sI 8 x0.Parse, sA 7 1 11 7, sB 6 true, sB 5 true, sI 4 x0.Ticks, sA 3 1 11 6, sB 2 false, sA 1 1 11 0], [(1, (CV.frzRow (Bridge.row x0)))]⟩ kr ?_
  cases h4 : r4
  · have H := bifF h4 H
    refine LAt.runU tOk 5 kr ?_
    refine LAt.doneM 4 0 kr ?_
    refine Tr.ret ?_
    have H := Option.some.inj H
    subst H
    exact Fin.of _ [(false, [cB false])] kr rfl rfl
  have H := bifT h4 H
  refine LAt.runU tOk 2 kr ?_
  obtain ⟨r5, er5, H⟩ := bind_some H
  refine LAt.callV tOk [.rd, .rd, .rd] [] (spec_l1In n x0.Vers 0 1000000 r5 er5) kr kr kr kr (.inl rfl) ?_
  refine LAt.runU tOk 2 kr ?_
  refine LAt.doneM 4 0 kr ?_
  refine Tr.ret ?_
  have H := Option.some.inj H
  subst H
  exact Fin.of _ [(false, [cB r5])] kr rfl rfl

def spec_BridgeOk_J1 (n : Nat) (x0 : Bridge) : Option (Bool) :=
  ((spec_l1InF n x0.Id 1 99).bind fun r2 => (bif r2 then (bif (decide ((x0.Name.size : Int) ≤ 10)) then ((spec_l1InF n (x0.Ports.length : Int) 1 6).bind fun r3 => (bif r3 then ((spec_FdbOkF n x0.F).bind fun r4 => (bif r4 then ((spec_VtabOkF n x0.V (x0.Ports.length : Int)).bind fun r5 => (bif r5 then ((spec_l11CountsF n x0).bind fun r6 => (some r6)) else (some false))) else (some false))) else (some false))) else (some false)) else (some false)))
def spec_BridgeOk_L2 (n : Nat) : Nat → Bridge → Int → Option ((Unit) ⊕ (Bool))
  | 0, _, _ => none
  | mo7 + 1, x0, y1 => (bif (decide (y1 < (x0.Ports.length : Int))) then ((idx x0.Ports y1).bind fun v8 => ((spec_PtOkF n v8).bind fun r9 => (bif (!r9) then (some (Sum.inr false)) else (spec_BridgeOk_L2 n mo7 x0 (IntKind.wrap .i64 (y1 + 1)))))) else (some (Sum.inl ())))
def spec_BridgeOkF (n : Nat) (x0 : Bridge) : Option (Bool) :=
  ((spec_BridgeOk_L2 n n x0 0).bind fun o => match o with | .inl _ => (spec_BridgeOk_J1 n x0) | .inr r => some r)
/-- loop.example/g00326/spec.BridgeOk -/
theorem spec_BridgeOk (n : Nat) (x0 : Bridge) (r : Bool) (H : spec_BridgeOkF n x0 = some r) : LCall Try.prog 115 [.val true (CV.frzRow (Bridge.row x0))] [.val false [.lit (.bool r)]] [] := by
  refine LCall.of_body tOk Try.func115 rfl (c := (.seq (Rg Try.f115 0) (.seq (.seq (Rg Try.f115 1) (.block 0 (.loop (.seq (.seq (Rg Try.f115 2) (.cond (.tmp 8) .skip (.exit 0))) (.seq (.block 1 (.seq (Rg Try.f115 4) (.cond (.tmp 17) (.seq (Rg Try.f115 5) .ret) .skip))) (Rg Try.f115 3)))))) (.seq (Rg Try.f115 6) .ret)))) kr (Nat.le_of_ble_eq_true kr) 0 (rs := [.tmp 2]) rfl [] .nil [(false, [.lit (.bool r)])] [] [] fun cx => ?_
  show Tr _ _ _ ⟨50, 0, [sV 0 (CV.frzRow (Bridge.row x0))], []⟩ _
  unfold spec_BridgeOkF at H
  refine Tr.rgn tOk 2 6 2 kr kr ?_
  refine Tr.seq ?_
  refine Tr.rgn tOk 1 14 2 kr kr ?_
  obtain ⟨o7, eo7, Ho7⟩ := bind_some H
  clear H
  refine Tr.mid (ι := Unit) (fun v => ⟨50, 0, [sB 2 false, sA 1 1 11 0], [(1, (CV.frzRow (Bridge.row x0)))]⟩) (fun v => spec_BridgeOk_J1 n x0 = some r) ?_ ?_
  · refine Tr.block ?_
    refine Tr.loop (ι := Nat × (Int)) (fun v => ⟨50, 0, [sI 3 v.2, sB 2 false, sA 1 1 11 0], [(1, (CV.frzRow (Bridge.row x0)))]⟩) (fun v => spec_BridgeOk_L2 n v.1 x0 v.2 = some o7) (fun v => v.1) (n, 0) eo7 (St.sub_of [3, 2, 1] [1] kr) ?_
    rintro ⟨mo7, y1⟩ H
    have H : spec_BridgeOk_L2 n mo7 x0 y1 = some o7 := H
    obtain _ | mo7 := mo7
    · cases (show (none : Option _) = some o7 from H)
    rw [spec_BridgeOk_L2] at H
    refine Tr.seq ?_
    refine Tr.rs ?_
    refine LAt.runU tOk 3 kr ?_
    refine LAt.lenE tOk (t := 55) (ty := 3) (e := 114) (x := (.tmp 6)) (d := 7) (g := none) ⟨(.slot 6), [], 0, false, 8, (CV.frzEs (x0.Ports.map Pt.row))⟩ (x0.Ports).length _ kr kr kr kr kr (frz_len _ _) rfl ?_
    refine LAt.runU tOk 1 kr ?_
    refine LAt.doneM 510 2 kr ?_
    cases h6 : (decide (y1 < (x0.Ports.length : Int)))
    · have H := bifF h6 H
      refine Tr.cF h6 kr ?_
      refine Tr.exit ?_
      refine And.intro (fun _ => ?_) (fun h => absurd rfl h)
      have H := Option.some.inj H
      subst H
      have H := Ho7
      dsimp only at H
      exact Exists.intro () (And.intro H (St.sub_of [2, 1] [1] kr))
    have H := bifT h6 H
    refine Tr.cT h6 kr ?_
    refine Tr.skip ?_
    show Tr _ _ _ _ _
    refine Tr.seq ?_
    refine Tr.block ?_
    refine Tr.rs ?_
    refine LAt.runU tOk 3 kr ?_
    obtain ⟨v8, ev8, H⟩ := bind_some H
    refine LAt.indexF tOk (t := 55) (ty := 0) (x := (.tmp 12)) (y := (.tmp 13)) (d := 14) (g := none) ⟨(.slot 12), [], 0, false, 8, (CV.frzEs (x0.Ports.map Pt.row))⟩ y1 (Pt.row v8) _ kr kr kr kr rfl (idx_isF ev8) rfl ?_
    refine LAt.runU tOk 1 kr ?_
    obtain ⟨r9, er9, H⟩ := bind_some H
    refine LAt.callV tOk [.rd] [] (spec_PtOk n v8 r9 er9) kr kr kr kr (.inl rfl) ?_
    refine LAt.runU tOk 1 kr ?_
    refine LAt.doneM 260606 2 kr ?_
    cases h7 : (!r9)
    · have H := bifF h7 H
      refine Tr.cF h7 kr ?_
      refine Tr.skip ?_
      show Tr _ _ _ _ _
      refine Tr.rgE tOk 3 262142 2 kr kr ?_
      exact Exists.intro (mo7, (IntKind.wrap .i64 (y1 + 1))) (And.intro H (And.intro (Nat.lt_succ_self mo7) (St.sub_of [3, 2, 1] [1] kr)))
    have H := bifT h7 H
    refine Tr.cT h7 kr ?_
    refine Tr.rgn tOk 1 260606 2 kr kr ?_
    refine Tr.ret ?_
    have H := Option.some.inj H
    subst H
    have H := Ho7
    dsimp only at H
    have H := Option.some.inj H
    subst H
    exact Fin.of _ [(false, [cB false])] kr rfl rfl
  rintro _ H
  have H : (spec_BridgeOk_J1 n x0) = some r := H
  unfold spec_BridgeOk_J1 at H
  show Tr _ _ _ _ _
  refine Tr.rs ?_
  refine LAt.runU tOk 2 kr ?_
  obtain ⟨r2, er2, H⟩ := bind_some H
  refine LAt.callV tOk [.rd, .rd, .rd] [] (spec_l1In n x0.Id 1 99 r2 er2) kr kr kr kr (.inl rfl) ?_
  refine LAt.runU tOk 1 kr ?_
  refine LAt.to ⟨50, 0, [sB 21 r2, sB 20 r2, sI 19 x0.Id, sA 18 1 11 0, sB 2 false, sA 1 1 11 0], [(1, (CV.frzRow (Bridge.row x0)))]⟩ kr ?_
  cases h1 : r2
  · have H := bifF h1 H
    refine LAt.runU tOk 29 kr ?_
    refine LAt.doneM 4 0 kr ?_
    refine Tr.ret ?_
    have H := Option.some.inj H
    subst H
    exact Fin.of _ [(false, [cB false])] kr rfl rfl
  have H := bifT h1 H
  refine LAt.runU tOk 6 kr ?_
  refine LAt.to ⟨50, 0, [sB 27 (decide ((x0.Name.size : Int) ≤ 10)), sB 26 (decide ((x0.Name.size : Int) ≤ 10)), sB 25 (decide ((x0.Name.size : Int) ≤ 10)), sI 24 (x0.Name.size : Int), sC 23 (cS x0.Name), sA 22 1 11 1, sB 21 true, sB 20 true, sI 19 x0.Id, sA 18 1 11 0, sB 2 false, sA 1 1 11 0], [(1, (CV.frzRow (Bridge.row x0)))]⟩ kr ?_
  cases h2 : (decide ((x0.Name.size : Int) ≤ 10))
  · have H := bifF h2 H
    refine LAt.runU tOk 23 kr ?_
    refine LAt.doneM 4 0 kr ?_
    refine Tr.ret ?_
    have H := Option.some.inj H
    subst H
    exact Fin.of _ [(false, [cB false])] kr rfl rfl
  have H := bifT h2 H
  refine LAt.runU tOk 2 kr ?_
  refine LAt.lenE tOk (t := 55) (ty := 3) (e := 114) (x := (.tmp 29)) (d := 30) (g := (some (9, true))) ⟨(.slot 29), [], 0, false, 8, (CV.frzEs (x0.Ports.map Pt.row))⟩ (x0.Ports).length _ kr kr kr kr kr (frz_len _ _) rfl ?_
  obtain ⟨r3, er3, H⟩ := bind_some H
  refine LAt.callV tOk [.rd, .rd, .rd] [] (spec_l1In n (x0.Ports.length : Int) 1 6 r3 er3) kr kr kr kr (.inl rfl) ?_
  refine LAt.runU tOk 2 kr ?_
  refine LAt.to ⟨50, 0, [sB 33 r3, sB 32 r3, sB 31 r3, sI 30 (x0.Ports.length : Int), sC 29 (cF 8 x0.Ports Pt.row), sA 28 1 11 2, sB 27 true, sB 26 true, sB 25 true, sI 24 (x0.Name.size : Int), sC 23 (cS x0.Name), sA 22 1 11 1, sB 21 true, sB 20 true, sI 19 x0.Id, sA 18 1 11 0, sB 2 false, sA 1 1 11 0], [(1, (CV.frzRow (Bridge.row x0)))]⟩ kr ?_
  cases h3 : r3
  · have H := bifF h3 H
    refine LAt.runU tOk 17 kr ?_
    refine LAt.doneM 4 0 kr ?_
    refine Tr.ret ?_
    have H := Option.some.inj H
    subst H
    exact Fin.of _ [(false, [cB false])] kr rfl rfl
  have H := bifT h3 H
  refine LAt.runU tOk 2 kr ?_
  obtain ⟨r4, er4, H⟩ := bind_some H
  refine LAt.callV tOk [.rd] [] (spec_FdbOk n x0.F r4 er4) kr kr kr kr (.inl rfl) ?_
  refine LAt.runU tOk 2 kr ?_
  refine LAt.to ⟨50, 0, [sB 38 r4, sB 37 r4, sB 36 r4, sC 35 (cF 5 x0.F Fent.row), sA 34 1 11 3, sB 33 true, sB 32 true, sB 31 true, sI 30 (x0.Ports.length : Int), sC 29 (cF 8 x0.Ports Pt.row), sA 28 1 11 2, sB 27 true, sB 26 true, sB 25 true, sI 24 (x0.Name.size : Int), sC 23 (cS x0.Name), sA 22 1 11 1, sB 21 true, sB 20 true, sI 19 x0.Id, sA 18 1 11 0, sB 2 false, sA 1 1 11 0], [(1, (CV.frzRow (Bridge.row x0)))]⟩ kr ?_
  cases h4 : r4
  · have H := bifF h4 H
    refine LAt.runU tOk 12 kr ?_
    refine LAt.doneM 4 0 kr ?_
    refine Tr.ret ?_
    have H := Option.some.inj H
    subst H
    exact Fin.of _ [(false, [cB false])] kr rfl rfl
  have H := bifT h4 H
  refine LAt.runU tOk 4 kr ?_
  refine LAt.lenE tOk (t := 55) (ty := 3) (e := 114) (x := (.tmp 42)) (d := 43) (g := (some (20, true))) ⟨(.slot 42), [], 0, false, 8, (CV.frzEs (x0.Ports.map Pt.row))⟩ (x0.Ports).length _ kr kr kr kr kr (frz_len _ _) rfl ?_
  obtain ⟨r5, er5, H⟩ := bind_some H
  refine LAt.callV tOk [.rd, .rd] [] (spec_VtabOk n x0.V (x0.Ports.length : Int) r5 er5) kr kr kr kr (.inl rfl) ?_
  refine LAt.runU tOk 2 kr ?_
  refine LAt.to ⟨50, 0, [sB 46 r5, sB 45 r5, sB 44 r5, sI 43 (x0.Ports.length : Int), sC 42 (cF 8 x0.Ports Pt.row), sA 41 1 11 2, sV 40 (((CV.frzRow (Bridge.row x0)).drop 4).take 2), sA 39 1 11 4, sB 38 true, sB 37 true, sB 36 true, sC 35 (cF 5 x0.F Fent.row), sA 34 1 11 3, sB 33 true, sB 32 true, sB 31 true, sI 30 (x0.Ports.length : Int), sC 29 (cF 8 x0.Ports Pt.row), sA 28 1 11 2, sB 27 true, sB 26 true, sB 25 true, sI 24 (x0.Name.size : Int), sC 23 (cS x0.Name), sA 22 1 11 1, sB 21 true, sB 20 true, sI 19 x0.Id, sA 18 1 11 0, sB 2 false, sA 1 1 11 0], [(1, (CV.frzRow (Bridge.row x0)))]⟩ kr ?_
  cases h5 : r5
  · have H := bifF h5 H
    refine LAt.runU tOk 4 kr ?_
    refine LAt.doneM 4 0 kr ?_
    refine Tr.ret ?_
    have H := Option.some.inj H
    subst H
    exact Fin.of _ [(false, [cB false])] kr rfl rfl
  have H := bifT h5 H
  refine LAt.runU tOk 1 kr ?_
  obtain ⟨r6, er6, H⟩ := bind_some H
  refine LAt.callV tOk [.rd] [] (spec_l11Counts n x0 r6 er6) kr kr kr kr (.inl rfl) ?_
  refine LAt.runU tOk 2 kr ?_
  refine LAt.doneM 4 0 kr ?_
  refine Tr.ret ?_
  have H := Option.some.inj H
  subst H
  exact Fin.of _ [(false, [cB r6])] kr rfl rfl

def spec_l17NameF (n : Nat) (x0 : (List Int)) : Option ((List Int)) :=
  (bif (decide ([1, 3, 1].length + x0.length ≤ 268435456)) then (some ([1, 3, 1] ++ x0)) else none)
/-- loop.example/g00326/spec.l17Name -/
theorem spec_l17Name (n : Nat) (x0 : (List Int)) (r : (List Int)) (H : spec_l17NameF n x0 = some r) : LCall Try.prog 122 [.val false [.sl false 1 (CV.frzEs (x0.map intRow))]] [.val false [.sl true 1 (r.map intRow)]] [] := by
  refine LCall.of_body tOk Try.func122 rfl (c := (.seq (Rg Try.f122 0) (.seq (Rg Try.f122 1) .ret))) kr (Nat.le_of_ble_eq_true kr) 0 (rs := [.tmp 2]) rfl [] .nil [(false, [.sl true 1 (r.map intRow)])] [] [] fun cx => ?_
  show Tr _ _ _ ⟨6, 0, [sC 0 (cF 1 x0 intRow)], []⟩ _
  unfold spec_l17NameF at H
  refine Tr.rgn tOk 1 5 0 kr kr ?_
  refine Tr.rs ?_
  refine LAt.runU tOk 2 kr ?_
  obtain ⟨hg1, H⟩ := guard_some H
  refine LAt.appCU tOk (t := 27) (ty := 27) (e := 3) (x := (.tmp 3)) (y := (.tmp 4)) (d := 5) (g := none) ⟨.int .i64, 1, 8, [.lit (.int .i64 0)]⟩ intRow [1, 3, 1] x0 ⟨(.slot 4), [], 0, false, 1, (CV.frzEs (x0.map intRow))⟩ kr kr kr kr kr kr kr kr kr kr kr (.inr rfl) (fun _ => rfl) (fun _ => rfl) hg1 ?_
  refine LAt.moveU (T := lk tab) (ty := 27) (x := (.tmp 5)) (d := 2) (g := none) false [cL 1 ([1, 3, 1] ++ x0) intRow] kr kr kr kr kr ?_
  refine LAt.doneM 4 0 kr ?_
  refine Tr.ret ?_
  have H := Option.some.inj H
  subst H
  exact Fin.of _ [(false, [cL 1 ([1, 3, 1] ++ x0) intRow])] kr rfl rfl

def spec_l3IntF (n : Nat) (x0 : Int) : Option (Val) :=
  (some (⟨2, x0, (⟨#[]⟩ : ByteArray), ([] : List Int)⟩ : Val))
/-- loop.example/g00326/spec.l3Int -/
theorem spec_l3Int (n : Nat) (x0 : Int) (r : Val) (H : spec_l3IntF n x0 = some r) : LCall Try.prog 169 [.val false [.lit (.int .i64 x0)]] [.val true (Val.row r)] [] := by
  refine LCall.of_body tOk Try.func169 rfl (c := (.seq (Rg Try.f169 0) (.seq (Rg Try.f169 1) .ret))) kr (Nat.le_of_ble_eq_true kr) 0 (rs := [.cell 2 76]) rfl [] .nil [(true, (Val.row r))] [] [] fun cx => ?_
  show Tr _ _ _ ⟨5, 0, [sI 0 x0], []⟩ _
  unfold spec_l3IntF at H
  refine Tr.rgn tOk 1 5 4 kr kr ?_
  refine Tr.rgn tOk 3 4 4 kr kr ?_
  refine Tr.ret ?_
  have H := Option.some.inj H
  subst H
  exact Fin.of _ [(true, [cI 2, cI x0, cS (⟨#[]⟩ : ByteArray), cL 1 ([] : List Int) intRow])] kr rfl rfl

def spec_l17AddF (n : Nat) (x0 : (List Bind)) (x1 : (List Int)) (x2 : Int) : Option ((List Bind)) :=
  ((spec_l17NameF n x1).bind fun r1 => ((spec_l3IntF n x2).bind fun r2 => (bif (decide (x0.length + [(⟨r1, r2⟩ : Bind)].length ≤ 268435456)) then (some (x0 ++ [(⟨r1, r2⟩ : Bind)])) else none)))
/-- loop.example/g00326/spec.l17Add -/
theorem spec_l17Add (n : Nat) (x0 : (List Bind)) (x1 : (List Int)) (x2 : Int) (r : (List Bind)) (H : spec_l17AddF n x0 x1 x2 = some r) : LCall Try.prog 123 [.own false [.sl true 5 (x0.map Bind.row)], .val false [.sl false 1 (CV.frzEs (x1.map intRow))], .val false [.lit (.int .i64 x2)]] [.val false [.sl true 5 (r.map Bind.row)]] [] := by
  refine LCall.of_body tOk Try.func123 rfl (c := (.seq (Rg Try.f123 0) (.seq (Rg Try.f123 1) .ret))) kr (Nat.le_of_ble_eq_true kr) 0 (rs := [.tmp 6]) rfl [] .nil [(false, [.sl true 5 (r.map Bind.row)])] [] [] fun cx => ?_
  show Tr _ _ _ ⟨15, 0, [sC 0 (cL 5 x0 Bind.row), sC 1 (cF 1 x1 intRow), sI 2 x2], []⟩ _
  unfold spec_l17AddF at H
  refine Tr.rgn tOk 1 71 0 kr kr ?_
  refine Tr.rs ?_
  refine LAt.runU tOk 2 kr ?_
  obtain ⟨r1, er1, H⟩ := bind_some H
  refine LAt.callV tOk [.rd] [] (spec_l17Name n x1 r1 er1) kr kr kr kr (.inl rfl) ?_
  refine LAt.runU tOk 1 kr ?_
  obtain ⟨r2, er2, H⟩ := bind_some H
  refine LAt.callV tOk [.rd] [] (spec_l3Int n x2 r2 er2) kr kr kr kr (.inl rfl) ?_
  refine LAt.runU tOk 2 kr ?_
  obtain ⟨hg3, H⟩ := guard_some H
  refine LAt.appMU tOk (t := 81) (ty := 81) (e := 86) (x := (.tmp 7)) (y := (.tmp 13)) (d := 14) (g := none) ⟨.st [(0, 1, 27), (1, 4, 76)], 5, 80, [.sl true 1 [], .lit (.int .i64 0), .lit (.int .i64 0), .lit (.string ⟨#[]⟩), .sl true 1 []]⟩ Bind.row x0 [(⟨r1, r2⟩ : Bind)] kr kr kr kr kr kr kr kr kr kr hg3 ?_
  refine LAt.moveU (T := lk tab) (ty := 81) (x := (.tmp 14)) (d := 6) (g := none) false [cL 5 (x0 ++ [(⟨r1, r2⟩ : Bind)]) Bind.row] kr kr kr kr kr ?_
  refine LAt.doneM 64 0 kr ?_
  refine Tr.ret ?_
  have H := Option.some.inj H
  subst H
  exact Fin.of _ [(false, [cL 5 (x0 ++ [(⟨r1, r2⟩ : Bind)]) Bind.row])] kr rfl rfl

def spec_StepVecF (n : Nat) (x0 : Vec) (x1 : Int) : Option (Vec × Bool) :=
  ((spec_VecOkF n x0).bind fun r1 => (bif (!r1) then (some (x0, false)) else ((spec_l1InF n x1 1 1000).bind fun r2 => (bif (!r2) then (some (x0, false)) else ((spec_VecOkF n (⟨x0.Root, (IntKind.wrap .i64 (x0.Cost + x1)), (IntKind.wrap .i64 (x0.Hops + 1)), x0.Bridge, x0.Port⟩ : Vec)).bind fun r3 => (bif (!r3) then (some (x0, false)) else (some ((⟨x0.Root, (IntKind.wrap .i64 (x0.Cost + x1)), (IntKind.wrap .i64 (x0.Hops + 1)), x0.Bridge, x0.Port⟩ : Vec), true))))))))
/-- loop.example/g00326/spec.StepVec -/
theorem spec_StepVec (n : Nat) (x0 : Vec) (x1 : Int) (r : Vec × Bool) (H : spec_StepVecF n x0 x1 = some r) : LCall Try.prog 189 [.val true (CV.frzRow (Vec.row x0)), .val false [.lit (.int .i64 x1)]] [.val true (Vec.row r.1), .val false [.lit (.bool r.2)]] [] := by
  refine LCall.of_body tOk Try.func189 rfl (c := (.seq (Rg Try.f189 0) (.seq (.seq (Rg Try.f189 1) (.cond (.tmp 14) (.seq (Rg Try.f189 2) .ret) .skip)) (.seq (Rg Try.f189 3) (.seq (Rg Try.f189 4) (.seq (Rg Try.f189 5) (.seq (.seq (Rg Try.f189 6) (.cond (.tmp 28) (.seq (Rg Try.f189 7) .ret) .skip)) (.seq (Rg Try.f189 8) .ret)))))))) kr (Nat.le_of_ble_eq_true kr) 0 (rs := [.cell 4 70, .tmp 5]) rfl [] .nil [(true, (Vec.row r.1)), (false, [.lit (.bool r.2)])] [] [] fun cx => ?_
  show Tr _ _ _ ⟨31, 0, [sV 0 (Vec.row x0), sI 1 x1], []⟩ _
  unfold spec_StepVecF at H
  refine Tr.rgn tOk 3 54 20 kr kr ?_
  refine Tr.seq ?_
  refine Tr.rs ?_
  refine LAt.runU tOk 1 kr ?_
  obtain ⟨r1, er1, H⟩ := bind_some H
  refine LAt.callV tOk [.rd] [] (spec_VecOk n x0 r1 er1) kr kr kr kr (.inl rfl) ?_
  refine LAt.runU tOk 2 kr ?_
  refine LAt.to ⟨31, 0, [sB 10 (!r1), sB 9 (!r1), sB 8 r1, sV 7 (Vec.row x0), sB 5 false, sA 4 4 5 0, sA 2 2 5 0, sI 1 x1], [(4, [cI 0, cI 0, cI 0, cI 0, cI 0]), (2, (Vec.row x0))]⟩ kr ?_
  cases h1 : (!r1)
  · have H := bifF h1 H
    refine LAt.runU tOk 1 kr ?_
    obtain ⟨r2, er2, H⟩ := bind_some H
    refine LAt.callV tOk [.rd, .rd, .rd] [] (spec_l1In n x1 1 1000 r2 er2) kr kr kr kr (.inl rfl) ?_
    refine LAt.runU tOk 2 kr ?_
    refine LAt.doneM 16438 20 kr ?_
    cases h2 : (!r2)
    · have H := bifF h2 H
      refine Tr.cF h2 kr ?_
      refine Tr.skip ?_
      show Tr _ _ _ _ _
      refine Tr.rgn tOk 3 118 84 kr kr ?_
      refine Tr.rgn tOk 6 116 84 kr kr ?_
      refine Tr.rgn tOk 5 116 84 kr kr ?_
      refine Tr.seq ?_
      refine Tr.rs ?_
      refine LAt.runU tOk 1 kr ?_
      obtain ⟨r3, er3, H⟩ := bind_some H
      refine LAt.callV tOk [.rd] [] (spec_VecOk n (⟨x0.Root, (IntKind.wrap .i64 (x0.Cost + x1)), (IntKind.wrap .i64 (x0.Hops + 1)), x0.Bridge, x0.Port⟩ : Vec) r3 er3) kr kr kr kr (.inl rfl) ?_
      refine LAt.runU tOk 1 kr ?_
      refine LAt.doneM 268435572 84 kr ?_
      cases h3 : (!r3)
      · have H := bifF h3 H
        refine Tr.cF h3 kr ?_
        refine Tr.skip ?_
        show Tr _ _ _ _ _
        refine Tr.rgn tOk 3 48 16 kr kr ?_
        refine Tr.ret ?_
        have H := Option.some.inj H
        subst H
        exact Fin.of _ [(true, [cI x0.Root, cI (IntKind.wrap .i64 (x0.Cost + x1)), cI (IntKind.wrap .i64 (x0.Hops + 1)), cI x0.Bridge, cI x0.Port]), (false, [cB true])] kr rfl rfl
      have H := bifT h3 H
      refine Tr.cT h3 kr ?_
      refine Tr.rgn tOk 3 112 80 kr kr ?_
      refine Tr.ret ?_
      have H := Option.some.inj H
      subst H
      exact Fin.of _ [(true, (Vec.row x0)), (false, [cB false])] kr rfl rfl
    have H := bifT h2 H
    refine Tr.cT h2 kr ?_
    refine Tr.rgn tOk 3 54 20 kr kr ?_
    refine Tr.ret ?_
    have H := Option.some.inj H
    subst H
    exact Fin.of _ [(true, (Vec.row x0)), (false, [cB false])] kr rfl rfl
  have H := bifT h1 H
  refine LAt.runU tOk 4 kr ?_
  refine LAt.doneM 16438 20 kr ?_
  refine Tr.ct kr ?_
  refine Tr.rgn tOk 3 54 20 kr kr ?_
  refine Tr.ret ?_
  have H := Option.some.inj H
  subst H
  exact Fin.of _ [(true, (Vec.row x0)), (false, [cB false])] kr rfl rfl

def spec_LessVecF (n : Nat) (x0 : Vec) (x1 : Vec) : Option (Bool) :=
  (bif (x0.Root != x1.Root) then (some (decide (x0.Root < x1.Root))) else (bif (x0.Cost != x1.Cost) then (some (decide (x0.Cost < x1.Cost))) else (bif (x0.Bridge != x1.Bridge) then (some (decide (x0.Bridge < x1.Bridge))) else (some (decide (x0.Port < x1.Port))))))
/-- loop.example/g00326/spec.LessVec -/
theorem spec_LessVec (n : Nat) (x0 : Vec) (x1 : Vec) (r : Bool) (H : spec_LessVecF n x0 x1 = some r) : LCall Try.prog 186 [.val true (CV.frzRow (Vec.row x0)), .val true (CV.frzRow (Vec.row x1))] [.val false [.lit (.bool r)]] [] := by
  refine LCall.of_body tOk Try.func186 rfl (c := (.seq (Rg Try.f186 0) (.seq (.block 0 (.seq (Rg Try.f186 1) (.cond (.tmp 5) (.seq (Rg Try.f186 2) .ret) (.seq (Rg Try.f186 3) (.cond (.tmp 16) (.seq (Rg Try.f186 4) .ret) (.seq (Rg Try.f186 5) (.cond (.tmp 27) (.seq (Rg Try.f186 6) .ret) .skip))))))) (.seq (Rg Try.f186 7) .ret)))) kr (Nat.le_of_ble_eq_true kr) 0 (rs := [.tmp 4]) rfl [] .nil [(false, [.lit (.bool r)])] [] [] fun cx => ?_
  show Tr _ _ _ ⟨43, 0, [sV 0 (Vec.row x0), sV 1 (Vec.row x1)], []⟩ _
  unfold spec_LessVecF at H
  refine Tr.rgn tOk 3 28 12 kr kr ?_
  refine Tr.seq ?_
  refine Tr.block ?_
  refine Tr.rgn tOk 6 60 12 kr kr ?_
  cases h1 : (x0.Root != x1.Root)
  · have H := bifF h1 H
    refine Tr.cF h1 kr ?_
    refine Tr.rgn tOk 6 65564 12 kr kr ?_
    cases h2 : (x0.Cost != x1.Cost)
    · have H := bifF h2 H
      refine Tr.cF h2 kr ?_
      refine Tr.rgn tOk 6 134217756 12 kr kr ?_
      cases h3 : (x0.Bridge != x1.Bridge)
      · have H := bifF h3 H
        refine Tr.cF h3 kr ?_
        refine Tr.skip ?_
        show Tr _ _ _ _ _
        refine Tr.rgn tOk 6 16 0 kr kr ?_
        refine Tr.ret ?_
        have H := Option.some.inj H
        subst H
        exact Fin.of _ [(false, [cB (decide (x0.Port < x1.Port))])] kr rfl rfl
      have H := bifT h3 H
      refine Tr.cT h3 kr ?_
      refine Tr.rgn tOk 6 28 12 kr kr ?_
      refine Tr.ret ?_
      have H := Option.some.inj H
      subst H
      exact Fin.of _ [(false, [cB (decide (x0.Bridge < x1.Bridge))])] kr rfl rfl
    have H := bifT h2 H
    refine Tr.cT h2 kr ?_
    refine Tr.rgn tOk 6 28 12 kr kr ?_
    refine Tr.ret ?_
    have H := Option.some.inj H
    subst H
    exact Fin.of _ [(false, [cB (decide (x0.Cost < x1.Cost))])] kr rfl rfl
  have H := bifT h1 H
  refine Tr.cT h1 kr ?_
  refine Tr.rgn tOk 6 28 12 kr kr ?_
  refine Tr.ret ?_
  have H := Option.some.inj H
  subst H
  exact Fin.of _ [(false, [cB (decide (x0.Root < x1.Root))])] kr rfl rfl

def spec_BestVec_J1 (n : Nat) (x0 : Int) (y11 : Int) (y12 : Int) (y13 : Int) (y14 : Int) : Option (Vec × Int) :=
  (some ((⟨y12, y13, y14, x0, 0⟩ : Vec), y11))
def spec_BestVec_J3 (n : Nat) (k : (Int × Int × Int × Int × Int × Int × Int × Int × Int × Int → Option ((Int × Int × Int × Int) ⊕ (Vec × Int)))) (r20 : Vec × Bool) (y1 : Int) (y10 : Int) (y2 : Int) (y3 : Int) (y4 : Int) (y5 : Int) (y6 : Int) (y7 : Int) (y8 : Int) (y9 : Int) (y21 : Bool) (y22 : Bool) (y23 : Bool) (y24 : Bool) (y25 : Bool) (y26 : Bool) (y27 : Bool) : Option ((Int × Int × Int × Int) ⊕ (Vec × Int)) :=
  (bif y21 then (k ((IntKind.wrap .i64 (y1 + 1)), y1, r20.1.Root, r20.1.Cost, r20.1.Hops, r20.1.Bridge, r20.1.Port, r20.1.Root, r20.1.Cost, r20.1.Hops)) else (k ((IntKind.wrap .i64 (y1 + 1)), y2, y3, y4, y5, y6, y7, y8, y9, y10)))
def spec_BestVec_L2 (n : Nat) : Nat → Int → (List Pt) → Int → Int → Int → Int → Int → Int → Int → Int → Int → Int → Option ((Int × Int × Int × Int) ⊕ (Vec × Int))
  | 0, _, _, _, _, _, _, _, _, _, _, _, _ => none
  | mo15 + 1, x0, x1, y1, y2, y3, y4, y5, y6, y7, y8, y9, y10 => (bif (decide (y1 < (x1.length : Int))) then ((idx x1 y1).bind fun v16 => (bif (!v16.Up) then (spec_BestVec_L2 n mo15 x0 x1 (IntKind.wrap .i64 (y1 + 1)) y2 y3 y4 y5 y6 y7 y8 y9 y10) else ((idx x1 y1).bind fun v17 => (bif (!v17.Has) then (spec_BestVec_L2 n mo15 x0 x1 (IntKind.wrap .i64 (y1 + 1)) y2 y3 y4 y5 y6 y7 y8 y9 y10) else ((idx x1 y1).bind fun v18 => ((idx x1 y1).bind fun v19 => ((spec_StepVecF n v18.Heard v19.Cost).bind fun r20 => (bif r20.2 then (bif (decide (r20.1.Root < x0)) then (bif (decide (y2 < 0)) then (spec_BestVec_J3 n (fun v => spec_BestVec_L2 n mo15 x0 x1 v.1 v.2.1 v.2.2.1 v.2.2.2.1 v.2.2.2.2.1 v.2.2.2.2.2.1 v.2.2.2.2.2.2.1 v.2.2.2.2.2.2.2.1 v.2.2.2.2.2.2.2.2.1 v.2.2.2.2.2.2.2.2.2) r20 y1 y10 y2 y3 y4 y5 y6 y7 y8 y9 true true true true true true true) else ((spec_LessVecF n r20.1 (⟨y3, y4, y5, y6, y7⟩ : Vec)).bind fun r28 => (spec_BestVec_J3 n (fun v => spec_BestVec_L2 n mo15 x0 x1 v.1 v.2.1 v.2.2.1 v.2.2.2.1 v.2.2.2.2.1 v.2.2.2.2.2.1 v.2.2.2.2.2.2.1 v.2.2.2.2.2.2.2.1 v.2.2.2.2.2.2.2.2.1 v.2.2.2.2.2.2.2.2.2) r20 y1 y10 y2 y3 y4 y5 y6 y7 y8 y9 r28 true true true true true true))) else (spec_BestVec_J3 n (fun v => spec_BestVec_L2 n mo15 x0 x1 v.1 v.2.1 v.2.2.1 v.2.2.2.1 v.2.2.2.2.1 v.2.2.2.2.2.1 v.2.2.2.2.2.2.1 v.2.2.2.2.2.2.2.1 v.2.2.2.2.2.2.2.2.1 v.2.2.2.2.2.2.2.2.2) r20 y1 y10 y2 y3 y4 y5 y6 y7 y8 y9 false false false true true true true)) else (spec_BestVec_J3 n (fun v => spec_BestVec_L2 n mo15 x0 x1 v.1 v.2.1 v.2.2.1 v.2.2.2.1 v.2.2.2.2.1 v.2.2.2.2.2.1 v.2.2.2.2.2.2.1 v.2.2.2.2.2.2.2.1 v.2.2.2.2.2.2.2.2.1 v.2.2.2.2.2.2.2.2.2) r20 y1 y10 y2 y3 y4 y5 y6 y7 y8 y9 false false false false false false false))))))))) else (some (Sum.inl (y2, y8, y9, y10))))
def spec_BestVecF (n : Nat) (x0 : Int) (x1 : (List Pt)) : Option (Vec × Int) :=
  ((spec_BestVec_L2 n n x0 x1 0 (-1) 0 0 0 0 0 x0 0 0).bind fun o => match o with | .inl (y11, y12, y13, y14) => (spec_BestVec_J1 n x0 y11 y12 y13 y14) | .inr r => some r)
/-- loop.example/g00326/spec.BestVec -/
theorem spec_BestVec (n : Nat) (x0 : Int) (x1 : (List Pt)) (r : Vec × Int) (H : spec_BestVecF n x0 x1 = some r) : LCall Try.prog 185 [.val false [.lit (.int .i64 x0)], .val false [.sl false 8 (CV.frzEs (x1.map Pt.row))]] [.val true (Vec.row r.1), .val false [.lit (.int .i64 r.2)]] [] := by
  refine LCall.of_body tOk Try.func185 rfl (c := (.seq (Rg Try.f185 0) (.seq (Rg Try.f185 1) (.seq (Rg Try.f185 2) (.seq (Rg Try.f185 3) (.seq (.seq (Rg Try.f185 4) (.block 0 (.loop (.seq (.seq (Rg Try.f185 5) (.cond (.tmp 19) .skip (.exit 0))) (.seq (.block 1 (.seq (.seq (Rg Try.f185 7) (.cond (.tmp 35) (.exit 1) .skip)) (.seq (Rd Try.f185 8) (.seq (Rg Try.f185 9) (.cond (.tmp 65) (.seq (Rg Try.f185 10) (.seq (Rg Try.f185 11) (Rg Try.f185 12))) .skip))))) (Rg Try.f185 6)))))) (.seq (Rg Try.f185 13) .ret))))))) kr (Nat.le_of_ble_eq_true kr) 0 (rs := [.cell 4 70, .tmp 5]) rfl [] .nil [(true, (Vec.row r.1)), (false, [.lit (.int .i64 r.2)])] [] [] fun cx => ?_
  show Tr _ _ _ ⟨78, 0, [sI 0 x0, sC 1 (cF 8 x1 Pt.row)], []⟩ _
  unfold spec_BestVecF at H
  refine Tr.rgn tOk 2 51 16 kr kr ?_
  refine Tr.rgn tOk 5 115 80 kr kr ?_
  refine Tr.rgn tOk 3 243 208 kr kr ?_
  refine Tr.rgn tOk 1 499 208 kr kr ?_
  refine Tr.seq ?_
  refine Tr.rgn tOk 1 1011 208 kr kr ?_
  obtain ⟨o15, eo15, Ho15⟩ := bind_some H
  clear H
  refine Tr.mid (ι := Int × Int × Int × Int) (fun v => ⟨78, 0, [sI 8 v.1, sA 6 6 5 0, sI 5 0, sA 4 4 5 0], [(6, [cI v.2.1, cI v.2.2.1, cI v.2.2.2, cI x0, cI 0]), (4, [cI 0, cI 0, cI 0, cI 0, cI 0])]⟩) (fun v => spec_BestVec_J1 n x0 v.1 v.2.1 v.2.2.1 v.2.2.2 = some r) ?_ ?_
  · refine Tr.block ?_
    refine Tr.loop (ι := Nat × (Int × Int × Int × Int × Int × Int × Int × Int × Int × Int)) (fun v => ⟨78, 0, [sI 9 v.2.1, sI 8 v.2.2.1, sA 7 7 5 0, sA 6 6 5 0, sI 5 0, sA 4 4 5 0, sI 0 x0, sC 1 (cF 8 x1 Pt.row)], [(7, [cI v.2.2.2.1, cI v.2.2.2.2.1, cI v.2.2.2.2.2.1, cI v.2.2.2.2.2.2.1, cI v.2.2.2.2.2.2.2.1]), (6, [cI v.2.2.2.2.2.2.2.2.1, cI v.2.2.2.2.2.2.2.2.2.1, cI v.2.2.2.2.2.2.2.2.2.2, cI x0, cI 0]), (4, [cI 0, cI 0, cI 0, cI 0, cI 0])]⟩) (fun v => spec_BestVec_L2 n v.1 x0 x1 v.2.1 v.2.2.1 v.2.2.2.1 v.2.2.2.2.1 v.2.2.2.2.2.1 v.2.2.2.2.2.2.1 v.2.2.2.2.2.2.2.1 v.2.2.2.2.2.2.2.2.1 v.2.2.2.2.2.2.2.2.2.1 v.2.2.2.2.2.2.2.2.2.2 = some o15) (fun v => v.1) (n, (0, (-1), 0, 0, 0, 0, 0, x0, 0, 0)) eo15 (St.sub_of [9, 8, 7, 6, 5, 4, 0, 1] [7, 6, 4] kr) ?_
    rintro ⟨mo15, y1, y2, y3, y4, y5, y6, y7, y8, y9, y10⟩ H
    have H : spec_BestVec_L2 n mo15 x0 x1 y1 y2 y3 y4 y5 y6 y7 y8 y9 y10 = some o15 := H
    obtain _ | mo15 := mo15
    · cases (show (none : Option _) = some o15 from H)
    rw [spec_BestVec_L2] at H
    refine Tr.seq ?_
    refine Tr.rs ?_
    refine LAt.runU tOk 2 kr ?_
    refine LAt.lenE tOk (t := 55) (ty := 3) (e := 114) (x := (.tmp 17)) (d := 18) (g := none) ⟨(.slot 17), [], 0, false, 8, (CV.frzEs (x1.map Pt.row))⟩ (x1).length _ kr kr kr kr kr (frz_len _ _) rfl ?_
    refine LAt.runU tOk 1 kr ?_
    refine LAt.doneM 984051 208 kr ?_
    cases h1 : (decide (y1 < (x1.length : Int)))
    · have H := bifF h1 H
      refine Tr.cF h1 kr ?_
      refine Tr.exit ?_
      refine And.intro (fun _ => ?_) (fun h => absurd rfl h)
      have H := Option.some.inj H
      subst H
      have H := Ho15
      dsimp only at H
      exact Exists.intro (y2, y8, y9, y10) (And.intro H (St.sub_of [8, 6, 5, 4] [6, 4] kr))
    have H := bifT h1 H
    refine Tr.cT h1 kr ?_
    refine Tr.skip ?_
    show Tr _ _ _ _ _
    refine Tr.seq ?_
    refine Tr.block ?_
    refine Tr.seq ?_
    refine Tr.rs ?_
    refine LAt.runU tOk 2 kr ?_
    obtain ⟨v16, ev16, H⟩ := bind_some H
    refine LAt.indexF tOk (t := 55) (ty := 0) (x := (.tmp 22)) (y := (.tmp 23)) (d := 24) (g := none) ⟨(.slot 22), [], 0, false, 8, (CV.frzEs (x1.map Pt.row))⟩ y1 (Pt.row v16) _ kr kr kr kr rfl (idx_isF ev16) rfl ?_
    refine LAt.runU tOk 4 kr ?_
    refine LAt.to ⟨78, 0, [sB 28 (!v16.Up), sB 27 (!v16.Up), sB 26 v16.Up, (25, .fad ((Pt.row v16))), (24, .fad ((Pt.row v16))), sI 23 y1, sC 22 (cF 8 x1 Pt.row), sB 19 (decide (y1 < (x1.length : Int))), sI 18 (x1.length : Int), sC 17 (cF 8 x1 Pt.row), sI 16 y1, sI 9 y1, sI 8 y2, sA 7 7 5 0, sA 6 6 5 0, sI 5 0, sA 4 4 5 0, sI 0 x0, sC 1 (cF 8 x1 Pt.row)], [(7, [cI y3, cI y4, cI y5, cI y6, cI y7]), (6, [cI y8, cI y9, cI y10, cI x0, cI 0]), (4, [cI 0, cI 0, cI 0, cI 0, cI 0])]⟩ kr ?_
    cases h2 : (!v16.Up)
    · have H := bifF h2 H
      refine LAt.runU tOk 2 kr ?_
      obtain ⟨v17, ev17, H⟩ := bind_some H
      refine LAt.indexF tOk (t := 55) (ty := 0) (x := (.tmp 29)) (y := (.tmp 30)) (d := 31) (g := (some (6, false))) ⟨(.slot 29), [], 0, false, 8, (CV.frzEs (x1.map Pt.row))⟩ y1 (Pt.row v17) _ kr kr kr kr rfl (idx_isF ev17) rfl ?_
      refine LAt.runU tOk 4 kr ?_
      refine LAt.doneM 68716266483 208 kr ?_
      refine Tr.to ⟨78, 0, [sB 35 (!v17.Has), sB 34 (!v17.Has), sB 33 v17.Has, (32, .fad (((Pt.row v17).drop 2))), (31, .fad ((Pt.row v17))), sI 30 y1, sC 29 (cF 8 x1 Pt.row), sB 28 false, sB 27 false, sB 26 v16.Up, (25, .fad ((Pt.row v16))), (24, .fad ((Pt.row v16))), sI 23 y1, sC 22 (cF 8 x1 Pt.row), sB 19 (decide (y1 < (x1.length : Int))), sI 18 (x1.length : Int), sC 17 (cF 8 x1 Pt.row), sI 16 y1, sI 9 y1, sI 8 y2, sA 7 7 5 0, sA 6 6 5 0, sI 5 0, sA 4 4 5 0, sI 0 x0, sC 1 (cF 8 x1 Pt.row)], [(7, [cI y3, cI y4, cI y5, cI y6, cI y7]), (6, [cI y8, cI y9, cI y10, cI x0, cI 0]), (4, [cI 0, cI 0, cI 0, cI 0, cI 0])]⟩ kr ?_
      cases h3 : (!v17.Has)
      · have H := bifF h3 H
        refine Tr.cf kr ?_
        refine Tr.skip ?_
        show Tr _ _ _ _ _
        obtain ⟨v18, ev18, H⟩ := bind_some H
        obtain ⟨v19, ev19, H⟩ := bind_some H
        obtain ⟨r20, er20, H⟩ := bind_some H
        refine Tr.draws mixed 17 kr ⟨78, 0, [sB 11 r20.2, sA 10 10 5 0, sB 49 r20.2, (36, .tup [(true, [.dead, .dead, .dead, .dead, .dead]), (false, [.dead])]), sV 48 (Vec.row r20.1), sI 46 v19.Cost, (45, .fad (((Pt.row v19).drop 1))), (44, .fad ((Pt.row v19))), sI 43 y1, sC 42 (cF 8 x1 Pt.row), sV 41 ((Pt.row v18).drop 3), (40, .fad (((Pt.row v18).drop 3))), (39, .fad ((Pt.row v18))), sI 38 y1, sC 37 (cF 8 x1 Pt.row), sB 35 false, sB 34 false, sB 33 v17.Has, (32, .fad (((Pt.row v17).drop 2))), (31, .fad ((Pt.row v17))), sI 30 y1, sC 29 (cF 8 x1 Pt.row), sB 28 false, sB 27 false, sB 26 v16.Up, (25, .fad ((Pt.row v16))), (24, .fad ((Pt.row v16))), sI 23 y1, sC 22 (cF 8 x1 Pt.row), sB 19 (decide (y1 < (x1.length : Int))), sI 18 (x1.length : Int), sC 17 (cF 8 x1 Pt.row), sI 16 y1, sI 9 y1, sI 8 y2, sA 7 7 5 0, sA 6 6 5 0, sI 5 0, sA 4 4 5 0, sI 0 x0, sC 1 (cF 8 x1 Pt.row)], [(10, (Vec.row r20.1)), (7, [cI y3, cI y4, cI y5, cI y6, cI y7]), (6, [cI y8, cI y9, cI y10, cI x0, cI 0]), (4, [cI 0, cI 0, cI 0, cI 0, cI 0])]⟩ (fun cx => ?_) ?_
        · refine AT.runU tOk [(0, []), (1, [])] 15 [] [1, 0] rfl kr (fun cx => ?_)
          refine AT.indexF tOk 2 (t := 55) (ty := 0) (x := (.tmp 37)) (y := (.tmp 38)) (d := 39) (g := none) ⟨(.slot 37), [], 0, false, 8, (CV.frzEs (x1.map Pt.row))⟩ y1 (Pt.row v18) _ kr kr kr kr kr kr rfl (idx_isF ev18) rfl (fun cx => ?_)
          refine AT.runU tOk [(3, []), (4, []), (5, []), (6, [])] 10 [] [6, 5, 4, 3, 2, 1, 0] rfl kr (fun cx => ?_)
          refine AT.indexF tOk 7 (t := 55) (ty := 0) (x := (.tmp 42)) (y := (.tmp 43)) (d := 44) (g := none) ⟨(.slot 42), [], 0, false, 8, (CV.frzEs (x1.map Pt.row))⟩ y1 (Pt.row v19) _ kr kr kr kr kr kr rfl (idx_isF ev19) rfl (fun cx => ?_)
          refine AT.runU tOk [(8, []), (9, [])] 7 [] [9, 8, 7, 6, 5, 4, 3, 2, 1, 0] rfl kr (fun cx => ?_)
          refine AT.big2 tOk 10 14 kr (And.intro kr ?_) (And.intro kr ?_)
          · refine LAt.callV tOk [.rd, .rd] [] (spec_StepVec n v18.Heard v19.Cost r20 er20) kr kr kr kr (.inl rfl) ?_
            refine LAt.fin kr (And.intro (And.intro kr kr) ?_)
            refine AT.movT tOk 11 (ty := 189) (t := 47) (d := 36) (g := none) [(true, (Vec.row r20.1)), (false, [cB r20.2])] _ kr kr kr (.inl rfl) kr kr kr kr rfl (fun cx => ?_)
            refine AT.runU tOk [(12, []), (13, [])] 3 [] [13, 12, 11, 10, 9, 8, 7, 6, 5, 4, 3, 2, 1, 0] rfl kr (fun cx => ?_)
            refine AT.big1 tOk 14 kr kr ?_
            refine LAt.runU tOk 1 kr ?_
            refine LAt.fin kr (And.intro (And.intro kr kr) ?_)
            refine AT.big1 tOk 15 kr kr ?_
            refine LAt.runU tOk 1 kr ?_
            refine LAt.fin kr (And.intro (And.intro kr kr) ?_)
            refine AT.runU tOk [(16, [])] 0 [] [16, 15, 14, 13, 12, 11, 10, 9, 8, 7, 6, 5, 4, 3, 2, 1, 0] rfl kr (fun cx => ?_)
            exact AT.done [11, 10, 49, 36, 48, 46, 45, 44, 43, 42, 41, 40, 39, 38, 37, 35, 34, 33, 32, 31, 30, 29, 28, 27, 26, 25, 24, 23, 22, 19, 18, 17, 16, 9, 8, 7, 6, 5, 4, 0, 1] [10, 7, 6, 4] _ kr kr rfl
          · refine LAt.runU tOk 1 kr ?_
            refine LAt.fin kr (And.intro (And.intro kr kr) ?_)
            refine AT.big1 tOk 10 kr kr ?_
            refine LAt.callV tOk [.rd, .rd] [] (spec_StepVec n v18.Heard v19.Cost r20 er20) kr kr kr kr (.inl rfl) ?_
            refine LAt.fin kr (And.intro (And.intro kr kr) ?_)
            refine AT.movT tOk 11 (ty := 189) (t := 47) (d := 36) (g := none) [(true, (Vec.row r20.1)), (false, [cB r20.2])] _ kr kr kr (.inl rfl) kr kr kr kr rfl (fun cx => ?_)
            refine AT.runU tOk [(12, []), (13, [])] 2 [] [13, 12, 11, 10, 14, 9, 8, 7, 6, 5, 4, 3, 2, 1, 0] rfl kr (fun cx => ?_)
            refine AT.big1 tOk 15 kr kr ?_
            refine LAt.runU tOk 1 kr ?_
            refine LAt.fin kr (And.intro (And.intro kr kr) ?_)
            refine AT.runU tOk [(16, [])] 0 [] [16, 15, 13, 12, 11, 10, 14, 9, 8, 7, 6, 5, 4, 3, 2, 1, 0] rfl kr (fun cx => ?_)
            exact AT.done [11, 10, 49, 36, 48, 46, 45, 44, 43, 42, 41, 40, 39, 38, 37, 35, 34, 33, 32, 31, 30, 29, 28, 27, 26, 25, 24, 23, 22, 19, 18, 17, 16, 9, 8, 7, 6, 5, 4, 0, 1] [10, 7, 6, 4] _ kr kr rfl
        refine Tr.seq ?_
        refine Tr.mid (ι := Bool × Bool × Bool × Bool × Bool × Bool × Bool) (fun v => ⟨78, 0, [sB 65 v.1, sB 57 v.2.1, sB 56 v.2.2.1, sB 51 v.2.2.2.1, sB 50 v.2.2.2.2.1, sB 11 v.2.2.2.2.2.1, sA 10 10 5 0, sB 49 v.2.2.2.2.2.2, (36, .tup [(true, [.dead, .dead, .dead, .dead, .dead]), (false, [.dead])]), sV 48 (Vec.row r20.1), sI 46 v19.Cost, (45, .fad (((Pt.row v19).drop 1))), (44, .fad ((Pt.row v19))), sI 43 y1, sC 42 (cF 8 x1 Pt.row), sV 41 ((Pt.row v18).drop 3), (40, .fad (((Pt.row v18).drop 3))), (39, .fad ((Pt.row v18))), sI 38 y1, sC 37 (cF 8 x1 Pt.row), sB 35 false, sB 34 false, sB 33 v17.Has, (32, .fad (((Pt.row v17).drop 2))), (31, .fad ((Pt.row v17))), sI 30 y1, sC 29 (cF 8 x1 Pt.row), sB 28 false, sB 27 false, sB 26 v16.Up, (25, .fad ((Pt.row v16))), (24, .fad ((Pt.row v16))), sI 23 y1, sC 22 (cF 8 x1 Pt.row), sB 19 true, sI 18 (x1.length : Int), sC 17 (cF 8 x1 Pt.row), sI 16 y1, sI 9 y1, sI 8 y2, sA 7 7 5 0, sA 6 6 5 0, sI 5 0, sA 4 4 5 0, sI 0 x0, sC 1 (cF 8 x1 Pt.row)], [(10, (Vec.row r20.1)), (7, [cI y3, cI y4, cI y5, cI y6, cI y7]), (6, [cI y8, cI y9, cI y10, cI x0, cI 0]), (4, [cI 0, cI 0, cI 0, cI 0, cI 0])]⟩) (fun v => spec_BestVec_J3 n (fun v => spec_BestVec_L2 n mo15 x0 x1 v.1 v.2.1 v.2.2.1 v.2.2.2.1 v.2.2.2.2.1 v.2.2.2.2.2.1 v.2.2.2.2.2.2.1 v.2.2.2.2.2.2.2.1 v.2.2.2.2.2.2.2.2.1 v.2.2.2.2.2.2.2.2.2) r20 y1 y10 y2 y3 y4 y5 y6 y7 y8 y9 v.1 v.2.1 v.2.2.1 v.2.2.2.1 v.2.2.2.2.1 v.2.2.2.2.2.1 v.2.2.2.2.2.2 = some o15) ?_ ?_
        · refine Tr.at ?_
          refine LAt.runU tOk 2 kr ?_
          refine LAt.to ⟨78, 0, [sB 51 r20.2, sB 50 r20.2, sB 11 r20.2, sA 10 10 5 0, sB 49 r20.2, (36, .tup [(true, [.dead, .dead, .dead, .dead, .dead]), (false, [.dead])]), sV 48 (Vec.row r20.1), sI 46 v19.Cost, (45, .fad (((Pt.row v19).drop 1))), (44, .fad ((Pt.row v19))), sI 43 y1, sC 42 (cF 8 x1 Pt.row), sV 41 ((Pt.row v18).drop 3), (40, .fad (((Pt.row v18).drop 3))), (39, .fad ((Pt.row v18))), sI 38 y1, sC 37 (cF 8 x1 Pt.row), sB 35 false, sB 34 false, sB 33 v17.Has, (32, .fad (((Pt.row v17).drop 2))), (31, .fad ((Pt.row v17))), sI 30 y1, sC 29 (cF 8 x1 Pt.row), sB 28 false, sB 27 false, sB 26 v16.Up, (25, .fad ((Pt.row v16))), (24, .fad ((Pt.row v16))), sI 23 y1, sC 22 (cF 8 x1 Pt.row), sB 19 (decide (y1 < (x1.length : Int))), sI 18 (x1.length : Int), sC 17 (cF 8 x1 Pt.row), sI 16 y1, sI 9 y1, sI 8 y2, sA 7 7 5 0, sA 6 6 5 0, sI 5 0, sA 4 4 5 0, sI 0 x0, sC 1 (cF 8 x1 Pt.row)], [(10, (Vec.row r20.1)), (7, [cI y3, cI y4, cI y5, cI y6, cI y7]), (6, [cI y8, cI y9, cI y10, cI x0, cI 0]), (4, [cI 0, cI 0, cI 0, cI 0, cI 0])]⟩ kr ?_
          cases h5 : r20.2
          · have H := bifF h5 H
            refine LAt.runU tOk 14 kr ?_
            refine LAt.doneM 73786835557346643955 1232 kr ?_
            refine Sb.to ⟨78, 0, [sB 65 false, (64, .tup []), (63, .tup []), (62, .tup []), (61, .tup []), (60, .tup []), (59, .tup []), (58, .tup []), sB 57 false, sB 56 false, (55, .tup []), (54, .tup []), (53, .tup []), (52, .tup []), sB 51 false, sB 50 false, sB 11 false, sA 10 10 5 0, sB 49 false, (36, .tup [(true, [.dead, .dead, .dead, .dead, .dead]), (false, [.dead])]), sV 48 (Vec.row r20.1), sI 46 v19.Cost, (45, .fad (((Pt.row v19).drop 1))), (44, .fad ((Pt.row v19))), sI 43 y1, sC 42 (cF 8 x1 Pt.row), sV 41 ((Pt.row v18).drop 3), (40, .fad (((Pt.row v18).drop 3))), (39, .fad ((Pt.row v18))), sI 38 y1, sC 37 (cF 8 x1 Pt.row), sB 35 false, sB 34 false, sB 33 v17.Has, (32, .fad (((Pt.row v17).drop 2))), (31, .fad ((Pt.row v17))), sI 30 y1, sC 29 (cF 8 x1 Pt.row), sB 28 false, sB 27 false, sB 26 v16.Up, (25, .fad ((Pt.row v16))), (24, .fad ((Pt.row v16))), sI 23 y1, sC 22 (cF 8 x1 Pt.row), sB 19 (decide (y1 < (x1.length : Int))), sI 18 (x1.length : Int), sC 17 (cF 8 x1 Pt.row), sI 16 y1, sI 9 y1, sI 8 y2, sA 7 7 5 0, sA 6 6 5 0, sI 5 0, sA 4 4 5 0, sI 0 x0, sC 1 (cF 8 x1 Pt.row)], [(10, (Vec.row r20.1)), (7, [cI y3, cI y4, cI y5, cI y6, cI y7]), (6, [cI y8, cI y9, cI y10, cI x0, cI 0]), (4, [cI 0, cI 0, cI 0, cI 0, cI 0])]⟩ kr ?_
            rw [h1]
            exact Exists.intro (false, false, false, false, false, false, false) (And.intro H (St.sub_of [65, 57, 56, 51, 50, 11, 10, 49, 36, 48, 46, 45, 44, 43, 42, 41, 40, 39, 38, 37, 35, 34, 33, 32, 31, 30, 29, 28, 27, 26, 25, 24, 23, 22, 19, 18, 17, 16, 9, 8, 7, 6, 5, 4, 0, 1] [10, 7, 6, 4] kr))
          have H := bifT h5 H
          refine LAt.runU tOk 6 kr ?_
          refine LAt.to ⟨78, 0, [sB 57 (decide (r20.1.Root < x0)), sB 56 (decide (r20.1.Root < x0)), sB 55 (decide (r20.1.Root < x0)), sI 54 x0, sI 53 r20.1.Root, sA 52 10 5 0, sB 51 true, sB 50 true, sB 11 true, sA 10 10 5 0, sB 49 true, (36, .tup [(true, [.dead, .dead, .dead, .dead, .dead]), (false, [.dead])]), sV 48 (Vec.row r20.1), sI 46 v19.Cost, (45, .fad (((Pt.row v19).drop 1))), (44, .fad ((Pt.row v19))), sI 43 y1, sC 42 (cF 8 x1 Pt.row), sV 41 ((Pt.row v18).drop 3), (40, .fad (((Pt.row v18).drop 3))), (39, .fad ((Pt.row v18))), sI 38 y1, sC 37 (cF 8 x1 Pt.row), sB 35 false, sB 34 false, sB 33 v17.Has, (32, .fad (((Pt.row v17).drop 2))), (31, .fad ((Pt.row v17))), sI 30 y1, sC 29 (cF 8 x1 Pt.row), sB 28 false, sB 27 false, sB 26 v16.Up, (25, .fad ((Pt.row v16))), (24, .fad ((Pt.row v16))), sI 23 y1, sC 22 (cF 8 x1 Pt.row), sB 19 (decide (y1 < (x1.length : Int))), sI 18 (x1.length : Int), sC 17 (cF 8 x1 Pt.row), sI 16 y1, sI 9 y1, sI 8 y2, sA 7 7 5 0, sA 6 6 5 0, sI 5 0, sA 4 4 5 0, sI 0 x0, sC 1 (cF 8 x1 Pt.row)], [(10, (Vec.row r20.1)), (7, [cI y3, cI y4, cI y5, cI y6, cI y7]), (6, [cI y8, cI y9, cI y10, cI x0, cI 0]), (4, [cI 0, cI 0, cI 0, cI 0, cI 0])]⟩ kr ?_
          cases h6 : (decide (r20.1.Root < x0))
          · have H := bifF h6 H
            refine LAt.runU tOk 8 kr ?_
            refine LAt.doneM 73786835557346643955 1232 kr ?_
            refine Sb.to ⟨78, 0, [sB 65 false, (64, .tup []), (63, .tup []), (62, .tup []), (61, .tup []), (60, .tup []), (59, .tup []), (58, .tup []), sB 57 false, sB 56 false, sB 55 false, sI 54 x0, sI 53 r20.1.Root, sA 52 10 5 0, sB 51 true, sB 50 true, sB 11 true, sA 10 10 5 0, sB 49 true, (36, .tup [(true, [.dead, .dead, .dead, .dead, .dead]), (false, [.dead])]), sV 48 (Vec.row r20.1), sI 46 v19.Cost, (45, .fad (((Pt.row v19).drop 1))), (44, .fad ((Pt.row v19))), sI 43 y1, sC 42 (cF 8 x1 Pt.row), sV 41 ((Pt.row v18).drop 3), (40, .fad (((Pt.row v18).drop 3))), (39, .fad ((Pt.row v18))), sI 38 y1, sC 37 (cF 8 x1 Pt.row), sB 35 false, sB 34 false, sB 33 v17.Has, (32, .fad (((Pt.row v17).drop 2))), (31, .fad ((Pt.row v17))), sI 30 y1, sC 29 (cF 8 x1 Pt.row), sB 28 false, sB 27 false, sB 26 v16.Up, (25, .fad ((Pt.row v16))), (24, .fad ((Pt.row v16))), sI 23 y1, sC 22 (cF 8 x1 Pt.row), sB 19 (decide (y1 < (x1.length : Int))), sI 18 (x1.length : Int), sC 17 (cF 8 x1 Pt.row), sI 16 y1, sI 9 y1, sI 8 y2, sA 7 7 5 0, sA 6 6 5 0, sI 5 0, sA 4 4 5 0, sI 0 x0, sC 1 (cF 8 x1 Pt.row)], [(10, (Vec.row r20.1)), (7, [cI y3, cI y4, cI y5, cI y6, cI y7]), (6, [cI y8, cI y9, cI y10, cI x0, cI 0]), (4, [cI 0, cI 0, cI 0, cI 0, cI 0])]⟩ kr ?_
            rw [h1]
            exact Exists.intro (false, false, false, true, true, true, true) (And.intro H (St.sub_of [65, 57, 56, 51, 50, 11, 10, 49, 36, 48, 46, 45, 44, 43, 42, 41, 40, 39, 38, 37, 35, 34, 33, 32, 31, 30, 29, 28, 27, 26, 25, 24, 23, 22, 19, 18, 17, 16, 9, 8, 7, 6, 5, 4, 0, 1] [10, 7, 6, 4] kr))
          have H := bifT h6 H
          refine LAt.runU tOk 3 kr ?_
          refine LAt.to ⟨78, 0, [sB 60 (decide (y2 < 0)), sB 59 (decide (y2 < 0)), sI 58 y2, sB 57 true, sB 56 true, sB 55 true, sI 54 x0, sI 53 r20.1.Root, sA 52 10 5 0, sB 51 true, sB 50 true, sB 11 true, sA 10 10 5 0, sB 49 true, (36, .tup [(true, [.dead, .dead, .dead, .dead, .dead]), (false, [.dead])]), sV 48 (Vec.row r20.1), sI 46 v19.Cost, (45, .fad (((Pt.row v19).drop 1))), (44, .fad ((Pt.row v19))), sI 43 y1, sC 42 (cF 8 x1 Pt.row), sV 41 ((Pt.row v18).drop 3), (40, .fad (((Pt.row v18).drop 3))), (39, .fad ((Pt.row v18))), sI 38 y1, sC 37 (cF 8 x1 Pt.row), sB 35 false, sB 34 false, sB 33 v17.Has, (32, .fad (((Pt.row v17).drop 2))), (31, .fad ((Pt.row v17))), sI 30 y1, sC 29 (cF 8 x1 Pt.row), sB 28 false, sB 27 false, sB 26 v16.Up, (25, .fad ((Pt.row v16))), (24, .fad ((Pt.row v16))), sI 23 y1, sC 22 (cF 8 x1 Pt.row), sB 19 (decide (y1 < (x1.length : Int))), sI 18 (x1.length : Int), sC 17 (cF 8 x1 Pt.row), sI 16 y1, sI 9 y1, sI 8 y2, sA 7 7 5 0, sA 6 6 5 0, sI 5 0, sA 4 4 5 0, sI 0 x0, sC 1 (cF 8 x1 Pt.row)], [(10, (Vec.row r20.1)), (7, [cI y3, cI y4, cI y5, cI y6, cI y7]), (6, [cI y8, cI y9, cI y10, cI x0, cI 0]), (4, [cI 0, cI 0, cI 0, cI 0, cI 0])]⟩ kr ?_
          cases h7 : (decide (y2 < 0))
          · have H := bifF h7 H
            refine LAt.runU tOk 2 kr ?_
            obtain ⟨r28, er28, H⟩ := bind_some H
            refine LAt.callV tOk [.rd, .rd] [] (spec_LessVec n r20.1 (⟨y3, y4, y5, y6, y7⟩ : Vec) r28 er28) kr kr kr kr (.inl rfl) ?_
            refine LAt.runU tOk 2 kr ?_
            refine LAt.doneM 73786835557346643955 1232 kr ?_
            refine Sb.to ⟨78, 0, [sB 65 r28, sB 64 r28, sB 63 r28, sV 62 [cI y3, cI y4, cI y5, cI y6, cI y7], sV 61 (Vec.row r20.1), sB 60 false, sB 59 false, sI 58 y2, sB 57 true, sB 56 true, sB 55 true, sI 54 x0, sI 53 r20.1.Root, sA 52 10 5 0, sB 51 true, sB 50 true, sB 11 true, sA 10 10 5 0, sB 49 true, (36, .tup [(true, [.dead, .dead, .dead, .dead, .dead]), (false, [.dead])]), sV 48 (Vec.row r20.1), sI 46 v19.Cost, (45, .fad (((Pt.row v19).drop 1))), (44, .fad ((Pt.row v19))), sI 43 y1, sC 42 (cF 8 x1 Pt.row), sV 41 ((Pt.row v18).drop 3), (40, .fad (((Pt.row v18).drop 3))), (39, .fad ((Pt.row v18))), sI 38 y1, sC 37 (cF 8 x1 Pt.row), sB 35 false, sB 34 false, sB 33 v17.Has, (32, .fad (((Pt.row v17).drop 2))), (31, .fad ((Pt.row v17))), sI 30 y1, sC 29 (cF 8 x1 Pt.row), sB 28 false, sB 27 false, sB 26 v16.Up, (25, .fad ((Pt.row v16))), (24, .fad ((Pt.row v16))), sI 23 y1, sC 22 (cF 8 x1 Pt.row), sB 19 (decide (y1 < (x1.length : Int))), sI 18 (x1.length : Int), sC 17 (cF 8 x1 Pt.row), sI 16 y1, sI 9 y1, sI 8 y2, sA 7 7 5 0, sA 6 6 5 0, sI 5 0, sA 4 4 5 0, sI 0 x0, sC 1 (cF 8 x1 Pt.row)], [(10, (Vec.row r20.1)), (7, [cI y3, cI y4, cI y5, cI y6, cI y7]), (6, [cI y8, cI y9, cI y10, cI x0, cI 0]), (4, [cI 0, cI 0, cI 0, cI 0, cI 0])]⟩ kr ?_
            rw [h1]
            exact Exists.intro (r28, true, true, true, true, true, true) (And.intro H (St.sub_of [65, 57, 56, 51, 50, 11, 10, 49, 36, 48, 46, 45, 44, 43, 42, 41, 40, 39, 38, 37, 35, 34, 33, 32, 31, 30, 29, 28, 27, 26, 25, 24, 23, 22, 19, 18, 17, 16, 9, 8, 7, 6, 5, 4, 0, 1] [10, 7, 6, 4] kr))
          have H := bifT h7 H
          refine LAt.runU tOk 5 kr ?_
          refine LAt.doneM 73786835557346643955 1232 kr ?_
          refine Sb.to ⟨78, 0, [sB 65 true, sB 64 true, (63, .tup []), (62, .tup []), (61, .tup []), sB 60 true, sB 59 true, sI 58 y2, sB 57 true, sB 56 true, sB 55 true, sI 54 x0, sI 53 r20.1.Root, sA 52 10 5 0, sB 51 true, sB 50 true, sB 11 true, sA 10 10 5 0, sB 49 true, (36, .tup [(true, [.dead, .dead, .dead, .dead, .dead]), (false, [.dead])]), sV 48 (Vec.row r20.1), sI 46 v19.Cost, (45, .fad (((Pt.row v19).drop 1))), (44, .fad ((Pt.row v19))), sI 43 y1, sC 42 (cF 8 x1 Pt.row), sV 41 ((Pt.row v18).drop 3), (40, .fad (((Pt.row v18).drop 3))), (39, .fad ((Pt.row v18))), sI 38 y1, sC 37 (cF 8 x1 Pt.row), sB 35 false, sB 34 false, sB 33 v17.Has, (32, .fad (((Pt.row v17).drop 2))), (31, .fad ((Pt.row v17))), sI 30 y1, sC 29 (cF 8 x1 Pt.row), sB 28 false, sB 27 false, sB 26 v16.Up, (25, .fad ((Pt.row v16))), (24, .fad ((Pt.row v16))), sI 23 y1, sC 22 (cF 8 x1 Pt.row), sB 19 (decide (y1 < (x1.length : Int))), sI 18 (x1.length : Int), sC 17 (cF 8 x1 Pt.row), sI 16 y1, sI 9 y1, sI 8 y2, sA 7 7 5 0, sA 6 6 5 0, sI 5 0, sA 4 4 5 0, sI 0 x0, sC 1 (cF 8 x1 Pt.row)], [(10, (Vec.row r20.1)), (7, [cI y3, cI y4, cI y5, cI y6, cI y7]), (6, [cI y8, cI y9, cI y10, cI x0, cI 0]), (4, [cI 0, cI 0, cI 0, cI 0, cI 0])]⟩ kr ?_
          rw [h1]
          exact Exists.intro (true, true, true, true, true, true, true) (And.intro H (St.sub_of [65, 57, 56, 51, 50, 11, 10, 49, 36, 48, 46, 45, 44, 43, 42, 41, 40, 39, 38, 37, 35, 34, 33, 32, 31, 30, 29, 28, 27, 26, 25, 24, 23, 22, 19, 18, 17, 16, 9, 8, 7, 6, 5, 4, 0, 1] [10, 7, 6, 4] kr))
        rintro ⟨y21, y22, y23, y24, y25, y26, y27⟩ H
        have H : (spec_BestVec_J3 n (fun v => spec_BestVec_L2 n mo15 x0 x1 v.1 v.2.1 v.2.2.1 v.2.2.2.1 v.2.2.2.2.1 v.2.2.2.2.2.1 v.2.2.2.2.2.2.1 v.2.2.2.2.2.2.2.1 v.2.2.2.2.2.2.2.2.1 v.2.2.2.2.2.2.2.2.2) r20 y1 y10 y2 y3 y4 y5 y6 y7 y8 y9 y21 y22 y23 y24 y25 y26 y27) = some o15 := H
        unfold spec_BestVec_J3 at H
        show Tr _ _ _ _ _
        cases h4 : y21
        · have H := bifF h4 H
          refine Tr.cf kr ?_
          refine Tr.skip ?_
          show Tr _ _ _ _ _
          refine Tr.rgE tOk 3 37114023791671840755 1232 kr kr ?_
          exact Exists.intro (mo15, ((IntKind.wrap .i64 (y1 + 1)), y2, y3, y4, y5, y6, y7, y8, y9, y10)) (And.intro H (And.intro (Nat.lt_succ_self mo15) (St.sub_of [9, 8, 7, 6, 5, 4, 0, 1] [7, 6, 4] kr)))
        have H := bifT h4 H
        refine Tr.ct kr ?_
        refine Tr.rgn tOk 2 110901000086506901491 1232 kr kr ?_
        refine Tr.rgn tOk 2 258474952676183314419 1232 kr kr ?_
        refine Tr.rgE tOk 9 75521190773411153907699 1232 kr kr ?_
        show Tr _ _ _ _ _
        refine Tr.rgE tOk 3 75521190773411157053427 1232 kr kr ?_
        exact Exists.intro (mo15, ((IntKind.wrap .i64 (y1 + 1)), y1, r20.1.Root, r20.1.Cost, r20.1.Hops, r20.1.Bridge, r20.1.Port, r20.1.Root, r20.1.Cost, r20.1.Hops)) (And.intro H (And.intro (Nat.lt_succ_self mo15) (St.sub_of [9, 8, 7, 6, 5, 4, 0, 1] [7, 6, 4] kr)))
      have H := bifT h3 H
      refine Tr.ct kr ?_
      refine Tr.exit ?_
      refine And.intro (fun _ => ?_) (fun h => absurd rfl h)
      show Tr _ _ _ _ _
      refine Tr.rgE tOk 3 68719412211 208 kr kr ?_
      exact Exists.intro (mo15, ((IntKind.wrap .i64 (y1 + 1)), y2, y3, y4, y5, y6, y7, y8, y9, y10)) (And.intro H (And.intro (Nat.lt_succ_self mo15) (St.sub_of [9, 8, 7, 6, 5, 4, 0, 1] [7, 6, 4] kr)))
    have H := bifT h2 H
    refine LAt.runU tOk 7 kr ?_
    refine LAt.doneM 68716266483 208 kr ?_
    refine Tr.ct kr ?_
    refine Tr.exit ?_
    refine And.intro (fun _ => ?_) (fun h => absurd rfl h)
    show Tr _ _ _ _ _
    refine Tr.rgE tOk 3 68719412211 208 kr kr ?_
    exact Exists.intro (mo15, ((IntKind.wrap .i64 (y1 + 1)), y2, y3, y4, y5, y6, y7, y8, y9, y10)) (And.intro H (And.intro (Nat.lt_succ_self mo15) (St.sub_of [9, 8, 7, 6, 5, 4, 0, 1] [7, 6, 4] kr)))
  rintro ⟨y11, y12, y13, y14⟩ H
  have H : (spec_BestVec_J1 n x0 y11 y12 y13 y14) = some r := H
  unfold spec_BestVec_J1 at H
  show Tr _ _ _ _ _
  refine Tr.rgn tOk 4 48 16 kr kr ?_
  refine Tr.ret ?_
  have H := Option.some.inj H
  subst H
  exact Fin.of _ [(true, [cI y12, cI y13, cI y14, cI x0, cI 0]), (false, [cI y11])] kr rfl rfl

def spec_SayVecF (n : Nat) (x0 : Int) (x1 : (List Pt)) (x2 : Int) : Option (Vec) :=
  ((spec_BestVecF n x0 x1).bind fun r1 => (some (⟨r1.1.Root, r1.1.Cost, r1.1.Hops, r1.1.Bridge, x2⟩ : Vec)))
/-- loop.example/g00326/spec.SayVec -/
theorem spec_SayVec (n : Nat) (x0 : Int) (x1 : (List Pt)) (x2 : Int) (r : Vec) (H : spec_SayVecF n x0 x1 x2 = some r) : LCall Try.prog 174 [.val false [.lit (.int .i64 x0)], .val false [.sl false 8 (CV.frzEs (x1.map Pt.row))], .val false [.lit (.int .i64 x2)]] [.val true (Vec.row r)] [] := by
  refine LCall.of_body tOk Try.func174 rfl (c := (.seq (Rg Try.f174 0) (.seq (Rg Try.f174 1) (.seq (Rg Try.f174 2) (.seq (Rg Try.f174 3) .ret))))) kr (Nat.le_of_ble_eq_true kr) 0 (rs := [.cell 6 70]) rfl [] .nil [(true, (Vec.row r))] [] [] fun cx => ?_
  show Tr _ _ _ ⟨18, 0, [sI 0 x0, sC 1 (cF 8 x1 Pt.row), sI 2 x2], []⟩ _
  unfold spec_SayVecF at H
  refine Tr.rgn tOk 1 71 64 kr kr ?_
  refine Tr.rs ?_
  refine LAt.runU tOk 2 kr ?_
  obtain ⟨r1, er1, H⟩ := bind_some H
  refine LAt.callV tOk [.rd, .rd] [] (spec_BestVec n x0 x1 r1 er1) kr kr kr kr (.inl rfl) ?_
  refine LAt.movT tOk (ty := 181) (t := 12) (d := 9) (g := none) [(true, (Vec.row r1.1)), (false, [cI r1.2])] _ kr (.inl rfl) kr kr kr kr rfl ?_
  refine LAt.runU tOk 5 kr ?_
  refine LAt.doneM 196 192 kr ?_
  refine Tr.rgn tOk 3 192 192 kr kr ?_
  refine Tr.rgn tOk 2 64 64 kr kr ?_
  refine Tr.ret ?_
  have H := Option.some.inj H
  subst H
  exact Fin.of _ [(true, [cI r1.1.Root, cI r1.1.Cost, cI r1.1.Hops, cI r1.1.Bridge, cI x2])] kr rfl rfl

def spec_RoleOfF (n : Nat) (x0 : Int) (x1 : (List Pt)) (x2 : Int) : Option (Int) :=
  ((spec_l1InF n x2 0 (IntKind.wrap .i64 ((x1.length : Int) - 1))).bind fun r1 => (bif (!r1) then (some 4) else ((idx x1 x2).bind fun v2 => (bif (!v2.Up) then (some 4) else ((spec_BestVecF n x0 x1).bind fun r3 => (bif (r3.2 == x2) then (some 1) else ((idx x1 x2).bind fun v4 => (bif (!v4.Has) then (some 2) else ((spec_SayVecF n x0 x1 x2).bind fun r5 => ((idx x1 x2).bind fun v6 => ((spec_LessVecF n r5 v6.Heard).bind fun r7 => (bif r7 then (some 2) else (some 3)))))))))))))
/-- loop.example/g00326/spec.RoleOf -/
theorem spec_RoleOf (n : Nat) (x0 : Int) (x1 : (List Pt)) (x2 : Int) (r : Int) (H : spec_RoleOfF n x0 x1 x2 = some r) : LCall Try.prog 170 [.val false [.lit (.int .i64 x0)], .val false [.sl false 8 (CV.frzEs (x1.map Pt.row))], .val false [.lit (.int .i64 x2)]] [.val false [.lit (.int .i64 r)]] [] := by
  refine LCall.of_body tOk Try.func170 rfl (c := (.seq (Rg Try.f170 0) (.seq (.seq (Rg Try.f170 1) (.cond (.tmp 22) (.seq (Rg Try.f170 2) .ret) .skip)) (.seq (Rg Try.f170 3) (.seq (.block 0 (.seq (Rg Try.f170 4) (.cond (.tmp 29) (.seq (Rg Try.f170 5) .ret) (.seq (Rd Try.f170 6) (.cond (.tmp 33) (.seq (Rg Try.f170 7) .ret) .skip))))) (.seq (Rg Try.f170 8) .ret)))))) kr (Nat.le_of_ble_eq_true kr) 0 (rs := [.tmp 6]) rfl [] .nil [(false, [.lit (.int .i64 r)])] [] [] fun cx => ?_
  show Tr _ _ _ ⟨52, 0, [sI 0 x0, sC 1 (cF 8 x1 Pt.row), sI 2 x2], []⟩ _
  unfold spec_RoleOfF at H
  refine Tr.rgn tOk 1 71 0 kr kr ?_
  refine Tr.seq ?_
  refine Tr.rs ?_
  refine LAt.runU tOk 2 kr ?_
  refine LAt.lenE tOk (t := 55) (ty := 3) (e := 114) (x := (.tmp 10)) (d := 11) (g := none) ⟨(.slot 10), [], 0, false, 8, (CV.frzEs (x1.map Pt.row))⟩ (x1).length _ kr kr kr kr kr (frz_len _ _) rfl ?_
  refine LAt.runU tOk 1 kr ?_
  obtain ⟨r1, er1, H⟩ := bind_some H
  refine LAt.callV tOk [.rd, .rd, .rd] [] (spec_l1In n x2 0 (IntKind.wrap .i64 ((x1.length : Int) - 1)) r1 er1) kr kr kr kr (.inl rfl) ?_
  refine LAt.runU tOk 2 kr ?_
  refine LAt.to ⟨52, 0, [sB 15 (!r1), sB 14 (!r1), sB 13 r1, sI 12 (IntKind.wrap .i64 ((x1.length : Int) - 1)), sI 11 (x1.length : Int), sC 10 (cF 8 x1 Pt.row), sI 9 x2, sI 6 0, sI 0 x0, sC 1 (cF 8 x1 Pt.row), sI 2 x2], []⟩ kr ?_
  cases h1 : (!r1)
  · have H := bifF h1 H
    refine LAt.runU tOk 2 kr ?_
    obtain ⟨v2, ev2, H⟩ := bind_some H
    refine LAt.indexF tOk (t := 55) (ty := 0) (x := (.tmp 16)) (y := (.tmp 17)) (d := 18) (g := (some (6, false))) ⟨(.slot 16), [], 0, false, 8, (CV.frzEs (x1.map Pt.row))⟩ x2 (Pt.row v2) _ kr kr kr kr rfl (idx_isF ev2) rfl ?_
    refine LAt.runU tOk 4 kr ?_
    refine LAt.doneM 4194375 0 kr ?_
    cases h2 : (!v2.Up)
    · have H := bifF h2 H
      refine Tr.cF h2 kr ?_
      refine Tr.skip ?_
      show Tr _ _ _ _ _
      refine Tr.rs ?_
      refine LAt.runU tOk 2 kr ?_
      obtain ⟨r3, er3, H⟩ := bind_some H
      refine LAt.callV tOk [.rd, .rd] [] (spec_BestVec n x0 x1 r3 er3) kr kr kr kr (.inl rfl) ?_
      refine LAt.movT tOk (ty := 181) (t := 26) (d := 23) (g := none) [(true, (Vec.row r3.1)), (false, [cI r3.2])] _ kr (.inl rfl) kr kr kr kr rfl ?_
      refine LAt.runU tOk 5 kr ?_
      refine LAt.doneM 327 0 kr ?_
      refine Tr.seq ?_
      refine Tr.block ?_
      refine Tr.rgn tOk 4 536870983 0 kr kr ?_
      cases h3 : (r3.2 == x2)
      · have H := bifF h3 H
        refine Tr.cF h3 kr ?_
        obtain ⟨v4, ev4, H⟩ := bind_some H
        refine Tr.to ⟨52, 0, [sB 29 (r3.2 == x2), sI 6 0, sI 0 x0, sC 1 (cF 8 x1 Pt.row), sI 2 x2], []⟩ kr ?_
        cases h4 : (!v4.Has)
        · have H := bifF h4 H
          obtain ⟨r5, er5, H⟩ := bind_some H
          obtain ⟨v6, ev6, H⟩ := bind_some H
          obtain ⟨r7, er7, H⟩ := bind_some H
          refine Tr.draws mixed 19 kr ⟨52, 0, [sB 33 r7, sI 6 0], []⟩ (fun cx => ?_) ?_
          · refine AT.runU tOk [(0, []), (1, [])] 17 [] [1, 0] rfl kr (fun cx => ?_)
            refine AT.indexF tOk 2 (t := 55) (ty := 0) (x := (.tmp 34)) (y := (.tmp 35)) (d := 36) (g := none) ⟨(.slot 34), [], 0, false, 8, (CV.frzEs (x1.map Pt.row))⟩ x2 (Pt.row v4) _ kr kr kr kr kr kr rfl (idx_isF ev4) rfl (fun cx => ?_)
            refine AT.runU tOk [(3, []), (4, []), (5, []), (6, [])] 12 [] [6, 5, 4, 3, 2, 1, 0] rfl kr (fun cx => ?_)
            refine AT.to ⟨52, 0, [sB 40 (!v4.Has), sB 39 (!v4.Has), sB 38 v4.Has, (37, .fad (((Pt.row v4).drop 2))), (36, .fad ((Pt.row v4))), sI 35 x2, sC 34 (cF 8 x1 Pt.row), sB 29 (r3.2 == x2), sI 6 0, sI 0 x0, sC 1 (cF 8 x1 Pt.row), sI 2 x2], []⟩ kr ?_
            rw [h4]
            refine AT.runU tOk [(7, []), (8, []), (9, []), (11, []), (12, [])] 7 [] [12, 11, 9, 8, 7, 6, 5, 4, 3, 2, 1, 0] rfl kr (fun cx => ?_)
            refine AT.indexF tOk 13 (t := 55) (ty := 0) (x := (.tmp 45)) (y := (.tmp 46)) (d := 47) (g := (some (6, false))) ⟨(.slot 45), [], 0, false, 8, (CV.frzEs (x1.map Pt.row))⟩ x2 (Pt.row v6) _ kr kr kr kr kr kr rfl (idx_isF ev6) rfl (fun cx => ?_)
            refine AT.runU tOk [(14, []), (15, [])] 4 [] [15, 14, 13, 12, 11, 9, 8, 7, 6, 5, 4, 3, 2, 1, 0] rfl kr (fun cx => ?_)
            refine AT.big1 tOk 10 kr kr ?_
            refine LAt.callV tOk [.rd, .rd, .rd] [] (spec_SayVec n x0 x1 x2 r5 er5) kr kr kr kr (.inl rfl) ?_
            refine LAt.fin kr (And.intro (And.intro kr kr) ?_)
            refine AT.big1 tOk 16 kr kr ?_
            refine LAt.callV tOk [.rd, .rd] [] (spec_LessVec n r5 v6.Heard r7 er7) kr kr kr kr (.inl rfl) ?_
            refine LAt.fin kr (And.intro (And.intro kr kr) ?_)
            refine AT.runU tOk [(17, []), (18, [])] 0 [] [18, 17, 16, 10, 15, 14, 13, 12, 11, 9, 8, 7, 6, 5, 4, 3, 2, 1, 0] rfl kr (fun cx => ?_)
            exact AT.done [33, 6] [] _ kr kr rfl
          cases h5 : r7
          · have H := bifF h5 H
            refine Tr.cf kr ?_
            refine Tr.skip ?_
            show Tr _ _ _ _ _
            refine Tr.rgn tOk 1 64 0 kr kr ?_
            refine Tr.ret ?_
            have H := Option.some.inj H
            subst H
            exact Fin.of _ [(false, [cI 3])] kr rfl rfl
          have H := bifT h5 H
          refine Tr.ct kr ?_
          refine Tr.rgn tOk 1 64 0 kr kr ?_
          refine Tr.ret ?_
          have H := Option.some.inj H
          subst H
          exact Fin.of _ [(false, [cI 2])] kr rfl rfl
        have H := bifT h4 H
        refine Tr.draws mixed 19 kr ⟨52, 0, [sB 33 true, sI 6 0], []⟩ (fun cx => ?_) ?_
        · refine AT.runU tOk [(0, []), (1, [])] 17 [] [1, 0] rfl kr (fun cx => ?_)
          refine AT.indexF tOk 2 (t := 55) (ty := 0) (x := (.tmp 34)) (y := (.tmp 35)) (d := 36) (g := none) ⟨(.slot 34), [], 0, false, 8, (CV.frzEs (x1.map Pt.row))⟩ x2 (Pt.row v4) _ kr kr kr kr kr kr rfl (idx_isF ev4) rfl (fun cx => ?_)
          refine AT.runU tOk [(3, []), (4, []), (5, []), (6, [])] 12 [] [6, 5, 4, 3, 2, 1, 0] rfl kr (fun cx => ?_)
          refine AT.to ⟨52, 0, [sB 40 (!v4.Has), sB 39 (!v4.Has), sB 38 v4.Has, (37, .fad (((Pt.row v4).drop 2))), (36, .fad ((Pt.row v4))), sI 35 x2, sC 34 (cF 8 x1 Pt.row), sB 29 (r3.2 == x2), sI 6 0, sI 0 x0, sC 1 (cF 8 x1 Pt.row), sI 2 x2], []⟩ kr ?_
          rw [h4]
          refine AT.runU tOk [(7, []), (8, []), (9, []), (10, []), (11, []), (12, []), (13, []), (14, []), (15, []), (16, []), (17, []), (18, [])] 0 [] [18, 17, 16, 15, 14, 13, 12, 11, 10, 9, 8, 7, 6, 5, 4, 3, 2, 1, 0] rfl kr (fun cx => ?_)
          exact AT.done [33, 6] [] _ kr kr rfl
        refine Tr.ct kr ?_
        refine Tr.rgn tOk 1 64 0 kr kr ?_
        refine Tr.ret ?_
        have H := Option.some.inj H
        subst H
        exact Fin.of _ [(false, [cI 2])] kr rfl rfl
      have H := bifT h3 H
      refine Tr.cT h3 kr ?_
      refine Tr.rgn tOk 1 64 0 kr kr ?_
      refine Tr.ret ?_
      have H := Option.some.inj H
      subst H
      exact Fin.of _ [(false, [cI 1])] kr rfl rfl
    have H := bifT h2 H
    refine Tr.cT h2 kr ?_
    refine Tr.rgn tOk 1 71 0 kr kr ?_
    refine Tr.ret ?_
    have H := Option.some.inj H
    subst H
    exact Fin.of _ [(false, [cI 4])] kr rfl rfl
  have H := bifT h1 H
  refine LAt.runU tOk 7 kr ?_
  refine LAt.doneM 4194375 0 kr ?_
  refine Tr.ct kr ?_
  refine Tr.rgn tOk 1 71 0 kr kr ?_
  refine Tr.ret ?_
  have H := Option.some.inj H
  subst H
  exact Fin.of _ [(false, [cI 4])] kr rfl rfl

def spec_l17PortF (n : Nat) (x0 : Bridge) (x1 : Int) (x2 : Int) : Option (Int) :=
  (bif (x1 == 1) then ((idx x0.Ports x2).bind fun v4 => (bif v4.Up then (some 1) else (some 0))) else (bif (x1 == 2) then ((idx x0.Ports x2).bind fun v3 => (some v3.Cost)) else (bif (x1 == 3) then ((spec_RoleOfF n x0.Id x0.Ports x2).bind fun r2 => (some r2)) else ((idx x0.V.Pvid x2).bind fun v1 => (some v1)))))
/-- loop.example/g00326/spec.l17Port -/
theorem spec_l17Port (n : Nat) (x0 : Bridge) (x1 : Int) (x2 : Int) (r : Int) (H : spec_l17PortF n x0 x1 x2 = some r) : LCall Try.prog 124 [.val true (CV.frzRow (Bridge.row x0)), .val false [.lit (.int .i64 x1)], .val false [.lit (.int .i64 x2)]] [.val false [.lit (.int .i64 r)]] [] := by
  refine LCall.of_body tOk Try.func124 rfl (c := (.seq (Rg Try.f124 0) (.seq (.seq (Rg Try.f124 1) (.block 0 (.seq (Rg Try.f124 2) (.cond (.tmp 8) (.seq (.seq (Rg Try.f124 3) (.cond (.tmp 15) (.seq (Rg Try.f124 4) .ret) .skip)) (.seq (Rg Try.f124 5) .ret)) (.seq (Rg Try.f124 6) (.cond (.tmp 16) (.seq (Rg Try.f124 7) .ret) (.seq (Rg Try.f124 8) (.cond (.tmp 24) (.seq (Rg Try.f124 9) .ret) .skip)))))))) (.seq (Rg Try.f124 10) .ret)))) kr (Nat.le_of_ble_eq_true kr) 0 (rs := [.tmp 6]) rfl [] .nil [(false, [.lit (.int .i64 r)])] [] [] fun cx => ?_
  show Tr _ _ _ ⟨38, 0, [sV 0 (CV.frzRow (Bridge.row x0)), sI 1 x1, sI 2 x2], []⟩ _
  unfold spec_l17PortF at H
  refine Tr.rgn tOk 2 78 8 kr kr ?_
  refine Tr.seq ?_
  refine Tr.rgn tOk 1 204 8 kr kr ?_
  refine Tr.block ?_
  refine Tr.rgn tOk 2 460 8 kr kr ?_
  cases h1 : (x1 == 1)
  · have H := bifF h1 H
    refine Tr.cF h1 kr ?_
    refine Tr.rgn tOk 2 65740 8 kr kr ?_
    cases h2 : (x1 == 2)
    · have H := bifF h2 H
      refine Tr.cF h2 kr ?_
      refine Tr.rgn tOk 2 16777292 8 kr kr ?_
      cases h3 : (x1 == 3)
      · have H := bifF h3 H
        refine Tr.cF h3 kr ?_
        refine Tr.skip ?_
        show Tr _ _ _ _ _
        refine Tr.rs ?_
        refine LAt.runU tOk 4 kr ?_
        obtain ⟨v1, ev1, H⟩ := bind_some H
        refine LAt.indexF tOk (t := 27) (ty := 0) (x := (.tmp 34)) (y := (.tmp 35)) (d := 36) (g := none) ⟨(.slot 34), [], 0, false, 1, (CV.frzEs (x0.V.Pvid.map intRow))⟩ x2 [cI v1] _ kr kr kr kr rfl (idx_isF ev1) rfl ?_
        refine LAt.runU tOk 2 kr ?_
        refine LAt.doneM 64 0 kr ?_
        refine Tr.ret ?_
        have H := Option.some.inj H
        subst H
        exact Fin.of _ [(false, [cI v1])] kr rfl rfl
      have H := bifT h3 H
      refine Tr.cT h3 kr ?_
      refine Tr.rs ?_
      refine LAt.runU tOk 5 kr ?_
      obtain ⟨r2, er2, H⟩ := bind_some H
      refine LAt.callV tOk [.rd, .rd, .rd] [] (spec_RoleOf n x0.Id x0.Ports x2 r2 er2) kr kr kr kr (.inl rfl) ?_
      refine LAt.runU tOk 1 kr ?_
      refine LAt.doneM 76 8 kr ?_
      refine Tr.ret ?_
      have H := Option.some.inj H
      subst H
      exact Fin.of _ [(false, [cI r2])] kr rfl rfl
    have H := bifT h2 H
    refine Tr.cT h2 kr ?_
    refine Tr.rs ?_
    refine LAt.runU tOk 3 kr ?_
    obtain ⟨v3, ev3, H⟩ := bind_some H
    refine LAt.indexF tOk (t := 55) (ty := 0) (x := (.tmp 19)) (y := (.tmp 20)) (d := 21) (g := none) ⟨(.slot 19), [], 0, false, 8, (CV.frzEs (x0.Ports.map Pt.row))⟩ x2 (Pt.row v3) _ kr kr kr kr rfl (idx_isF ev3) rfl ?_
    refine LAt.runU tOk 3 kr ?_
    refine LAt.doneM 76 8 kr ?_
    refine Tr.ret ?_
    have H := Option.some.inj H
    subst H
    exact Fin.of _ [(false, [cI v3.Cost])] kr rfl rfl
  have H := bifT h1 H
  refine Tr.cT h1 kr ?_
  refine Tr.seq ?_
  refine Tr.rs ?_
  refine LAt.runU tOk 3 kr ?_
  obtain ⟨v4, ev4, H⟩ := bind_some H
  refine LAt.indexF tOk (t := 55) (ty := 0) (x := (.tmp 11)) (y := (.tmp 12)) (d := 13) (g := none) ⟨(.slot 11), [], 0, false, 8, (CV.frzEs (x0.Ports.map Pt.row))⟩ x2 (Pt.row v4) _ kr kr kr kr rfl (idx_isF ev4) rfl ?_
  refine LAt.runU tOk 2 kr ?_
  refine LAt.doneM 32844 8 kr ?_
  cases h4 : v4.Up
  · have H := bifF h4 H
    refine Tr.cF h4 kr ?_
    refine Tr.skip ?_
    show Tr _ _ _ _ _
    refine Tr.rgn tOk 1 76 8 kr kr ?_
    refine Tr.ret ?_
    have H := Option.some.inj H
    subst H
    exact Fin.of _ [(false, [cI 0])] kr rfl rfl
  have H := bifT h4 H
  refine Tr.cT h4 kr ?_
  refine Tr.rgn tOk 1 76 8 kr kr ?_
  refine Tr.ret ?_
  have H := Option.some.inj H
  subst H
  exact Fin.of _ [(false, [cI 1])] kr rfl rfl
end Go.Proofs.Ytjdedhklbdkeoaa.Tw
