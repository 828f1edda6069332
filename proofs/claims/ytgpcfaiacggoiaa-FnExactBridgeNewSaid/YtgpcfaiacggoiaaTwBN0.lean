/- Functions of the program, over trees. -/
import Derived.Test.YtgpcfaiacggoiaaProg
import Derived.Test.YtgpcfaiacggoiaaTlRule
import Derived.Test.YtgpcfaiacggoiaaTlU3
import Derived.WalkKit
set_option linter.unusedVariables false
set_option linter.unusedSimpArgs false
set_option maxRecDepth 100000
set_option maxHeartbeats 1000000
namespace Go.Proofs.Ytgpcfaiacggoiaa.Tw
open Go Go.TL Go.Proofs
def tab : List (Nat × TI) := [(2, ⟨.int .i64, 1, 8, [.lit (.int .i64 0)]⟩),
  (3, ⟨.int .i64, 1, 8, [.lit (.int .i64 0)]⟩),
  (4, ⟨.bool, 1, 1, [.lit (.bool false)]⟩),
  (5, ⟨.int .u8, 1, 1, [.lit (.int .u8 0)]⟩),
  (6, ⟨.int .u8, 1, 1, [.lit (.int .u8 0)]⟩),
  (7, ⟨.st [(0, 1, 2), (1, 1, 3), (2, 1, 4), (3, 1, 6)], 4, 24, [.lit (.int .i64 0), .lit (.int .i64 0), .lit (.bool false), .lit (.int .u8 0)]⟩),
  (8, ⟨.st [(0, 1, 2), (1, 1, 3), (2, 1, 4), (3, 1, 6)], 4, 24, [.lit (.int .i64 0), .lit (.int .i64 0), .lit (.bool false), .lit (.int .u8 0)]⟩),
  (9, ⟨.str, 1, 16, [.lit (.string ⟨#[]⟩)]⟩),
  (23, ⟨.sl 3, 1, 24, [.sl true 1 []]⟩),
  (27, ⟨.sl 56, 1, 24, [.sl true 3 []]⟩),
  (29, ⟨.st [(0, 1, 27), (1, 1, 23)], 2, 48, [.sl true 3 [], .sl true 1 []]⟩),
  (39, ⟨.st [(0, 1, 3), (1, 1, 3), (2, 1, 3), (3, 1, 3), (4, 1, 3)], 5, 40, [.lit (.int .i64 0), .lit (.int .i64 0), .lit (.int .i64 0), .lit (.int .i64 0), .lit (.int .i64 0)]⟩),
  (41, ⟨.st [(0, 1, 4), (1, 1, 3), (2, 1, 4), (3, 5, 39)], 8, 64, [.lit (.bool false), .lit (.int .i64 0), .lit (.bool false), .lit (.int .i64 0), .lit (.int .i64 0), .lit (.int .i64 0), .lit (.int .i64 0), .lit (.int .i64 0)]⟩),
  (43, ⟨.sl 41, 1, 24, [.sl true 8 []]⟩),
  (56, ⟨.st [(0, 1, 3), (1, 1, 3), (2, 1, 3)], 3, 24, [.lit (.int .i64 0), .lit (.int .i64 0), .lit (.int .i64 0)]⟩),
  (77, ⟨.sl 147, 1, 24, [.sl true 5 []]⟩),
  (79, ⟨.st [(0, 1, 3), (1, 1, 9), (2, 1, 43), (3, 1, 77), (4, 2, 29), (6, 1, 3), (7, 1, 3), (8, 1, 3), (9, 1, 3), (10, 1, 3)], 11, 160, [.lit (.int .i64 0), .lit (.string ⟨#[]⟩), .sl true 8 [], .sl true 5 [], .sl true 3 [], .sl true 1 [], .lit (.int .i64 0), .lit (.int .i64 0), .lit (.int .i64 0), .lit (.int .i64 0), .lit (.int .i64 0)]⟩),
  (136, ⟨.int .u64, 1, 8, [.lit (.int .u64 0)]⟩),
  (147, ⟨.st [(0, 1, 3), (1, 1, 3), (2, 1, 3), (3, 1, 3), (4, 1, 4)], 5, 40, [.lit (.int .i64 0), .lit (.int .i64 0), .lit (.int .i64 0), .lit (.int .i64 0), .lit (.bool false)]⟩)]
theorem mixed : Try.prog.follows .mixedOrders = true := by kernel_rfl
theorem tOk : TOk Try.prog (lk tab) := tok_of (by kernel_rfl)

structure Vrow where
  Id : Int
  Members : Int
  Bare : Int
def Vrow.row (v : Vrow) : List CV := [.lit (.int .i64 v.Id), .lit (.int .i64 v.Members), .lit (.int .i64 v.Bare)]
def Vrow.wf (v : Vrow) : Prop := intWf v.Id ∧ intWf v.Members ∧ intWf v.Bare ∧ True
theorem Vrow.enc : Enc Vrow [.int .i64, .int .i64, .int .i64] Vrow.row Vrow.wf := fun cs h => by
  obtain ⟨c0, r0, rfl, k0, h⟩ := fitR_cons h
  obtain ⟨c1, r1, rfl, k1, h⟩ := fitR_cons h
  obtain ⟨c2, r2, rfl, k2, h⟩ := fitR_cons h
  obtain rfl := fitR_nil h
  obtain ⟨x0, rfl, w0⟩ := fitC_int k0
  obtain ⟨x1, rfl, w1⟩ := fitC_int k1
  obtain ⟨x2, rfl, w2⟩ := fitC_int k2
  exact ⟨⟨x0, x1, x2⟩, rfl, ⟨w0, w1, w2, trivial⟩⟩
theorem Vrow.row_mine (v : Vrow) : CV.mineRow (Vrow.row v) := mine_cons mine_lit (mine_cons mine_lit (mine_cons mine_lit (mine_nil)))

structure Vtab where
  Rows : (List Vrow)
  Pvid : (List Int)
def Vtab.row (v : Vtab) : List CV := [.sl true 3 (v.Rows.map Vrow.row), .sl true 1 (v.Pvid.map intRow)]
def Vtab.wf (v : Vtab) : Prop := listWf Vrow.wf v.Rows ∧ listWf intWf v.Pvid ∧ True
theorem Vtab.enc : Enc Vtab [.sl 3 [.int .i64, .int .i64, .int .i64], .sl 1 [.int .i64]] Vtab.row Vtab.wf := fun cs h => by
  obtain ⟨c0, r0, rfl, k0, h⟩ := fitR_cons h
  obtain ⟨c1, r1, rfl, k1, h⟩ := fitR_cons h
  obtain rfl := fitR_nil h
  obtain ⟨x0, rfl, w0⟩ := Enc.sl Vrow.enc k0
  obtain ⟨x1, rfl, w1⟩ := Enc.sl encInt k1
  exact ⟨⟨x0, x1⟩, rfl, ⟨w0, w1, trivial⟩⟩
theorem Vtab.row_mine (v : Vtab) : CV.mineRow (Vtab.row v) := mine_cons (mine_sl (mine_map Vrow.row_mine _)) (mine_cons (mine_sl (mine_map intRow_mine _)) (mine_nil))

structure Vec where
  Root : Int
  Cost : Int
  Hops : Int
  Bridge : Int
  Port : Int
def Vec.row (v : Vec) : List CV := [.lit (.int .i64 v.Root), .lit (.int .i64 v.Cost), .lit (.int .i64 v.Hops), .lit (.int .i64 v.Bridge), .lit (.int .i64 v.Port)]
def Vec.wf (v : Vec) : Prop := intWf v.Root ∧ intWf v.Cost ∧ intWf v.Hops ∧ intWf v.Bridge ∧ intWf v.Port ∧ True
theorem Vec.enc : Enc Vec [.int .i64, .int .i64, .int .i64, .int .i64, .int .i64] Vec.row Vec.wf := fun cs h => by
  obtain ⟨c0, r0, rfl, k0, h⟩ := fitR_cons h
  obtain ⟨c1, r1, rfl, k1, h⟩ := fitR_cons h
  obtain ⟨c2, r2, rfl, k2, h⟩ := fitR_cons h
  obtain ⟨c3, r3, rfl, k3, h⟩ := fitR_cons h
  obtain ⟨c4, r4, rfl, k4, h⟩ := fitR_cons h
  obtain rfl := fitR_nil h
  obtain ⟨x0, rfl, w0⟩ := fitC_int k0
  obtain ⟨x1, rfl, w1⟩ := fitC_int k1
  obtain ⟨x2, rfl, w2⟩ := fitC_int k2
  obtain ⟨x3, rfl, w3⟩ := fitC_int k3
  obtain ⟨x4, rfl, w4⟩ := fitC_int k4
  exact ⟨⟨x0, x1, x2, x3, x4⟩, rfl, ⟨w0, w1, w2, w3, w4, trivial⟩⟩
theorem Vec.row_mine (v : Vec) : CV.mineRow (Vec.row v) := mine_cons mine_lit (mine_cons mine_lit (mine_cons mine_lit (mine_cons mine_lit (mine_cons mine_lit (mine_nil)))))

structure Pt where
  Up : Bool
  Cost : Int
  Has : Bool
  Heard : Vec
def Pt.row (v : Pt) : List CV := [.lit (.bool v.Up), .lit (.int .i64 v.Cost), .lit (.bool v.Has), .lit (.int .i64 v.Heard.Root), .lit (.int .i64 v.Heard.Cost), .lit (.int .i64 v.Heard.Hops), .lit (.int .i64 v.Heard.Bridge), .lit (.int .i64 v.Heard.Port)]
def Pt.wf (v : Pt) : Prop := intWf v.Cost ∧ intWf v.Heard.Root ∧ intWf v.Heard.Cost ∧ intWf v.Heard.Hops ∧ intWf v.Heard.Bridge ∧ intWf v.Heard.Port ∧ True
theorem Pt.enc : Enc Pt [.bool, .int .i64, .bool, .int .i64, .int .i64, .int .i64, .int .i64, .int .i64] Pt.row Pt.wf := fun cs h => by
  obtain ⟨c0, r0, rfl, k0, h⟩ := fitR_cons h
  obtain ⟨c1, r1, rfl, k1, h⟩ := fitR_cons h
  obtain ⟨c2, r2, rfl, k2, h⟩ := fitR_cons h
  obtain ⟨c3, r3, rfl, k3, h⟩ := fitR_cons h
  obtain ⟨c4, r4, rfl, k4, h⟩ := fitR_cons h
  obtain ⟨c5, r5, rfl, k5, h⟩ := fitR_cons h
  obtain ⟨c6, r6, rfl, k6, h⟩ := fitR_cons h
  obtain ⟨c7, r7, rfl, k7, h⟩ := fitR_cons h
  obtain rfl := fitR_nil h
  obtain ⟨x0, rfl⟩ := fitC_bool k0
  obtain ⟨x1, rfl, w1⟩ := fitC_int k1
  obtain ⟨x2, rfl⟩ := fitC_bool k2
  obtain ⟨x3, rfl, w3⟩ := fitC_int k3
  obtain ⟨x4, rfl, w4⟩ := fitC_int k4
  obtain ⟨x5, rfl, w5⟩ := fitC_int k5
  obtain ⟨x6, rfl, w6⟩ := fitC_int k6
  obtain ⟨x7, rfl, w7⟩ := fitC_int k7
  exact ⟨⟨x0, x1, x2, ⟨x3, x4, x5, x6, x7⟩⟩, rfl, ⟨w1, w3, w4, w5, w6, w7, trivial⟩⟩
theorem Pt.row_mine (v : Pt) : CV.mineRow (Pt.row v) := mine_cons mine_lit (mine_cons mine_lit (mine_cons mine_lit (mine_cons mine_lit (mine_cons mine_lit (mine_cons mine_lit (mine_cons mine_lit (mine_cons mine_lit (mine_nil))))))))

structure Fent where
  Tag : Int
  Mac : Int
  Port : Int
  Age : Int
  Static : Bool
def Fent.row (v : Fent) : List CV := [.lit (.int .i64 v.Tag), .lit (.int .i64 v.Mac), .lit (.int .i64 v.Port), .lit (.int .i64 v.Age), .lit (.bool v.Static)]
def Fent.wf (v : Fent) : Prop := intWf v.Tag ∧ intWf v.Mac ∧ intWf v.Port ∧ intWf v.Age ∧ True
theorem Fent.enc : Enc Fent [.int .i64, .int .i64, .int .i64, .int .i64, .bool] Fent.row Fent.wf := fun cs h => by
  obtain ⟨c0, r0, rfl, k0, h⟩ := fitR_cons h
  obtain ⟨c1, r1, rfl, k1, h⟩ := fitR_cons h
  obtain ⟨c2, r2, rfl, k2, h⟩ := fitR_cons h
  obtain ⟨c3, r3, rfl, k3, h⟩ := fitR_cons h
  obtain ⟨c4, r4, rfl, k4, h⟩ := fitR_cons h
  obtain rfl := fitR_nil h
  obtain ⟨x0, rfl, w0⟩ := fitC_int k0
  obtain ⟨x1, rfl, w1⟩ := fitC_int k1
  obtain ⟨x2, rfl, w2⟩ := fitC_int k2
  obtain ⟨x3, rfl, w3⟩ := fitC_int k3
  obtain ⟨x4, rfl⟩ := fitC_bool k4
  exact ⟨⟨x0, x1, x2, x3, x4⟩, rfl, ⟨w0, w1, w2, w3, trivial⟩⟩
theorem Fent.row_mine (v : Fent) : CV.mineRow (Fent.row v) := mine_cons mine_lit (mine_cons mine_lit (mine_cons mine_lit (mine_cons mine_lit (mine_cons mine_lit (mine_nil)))))

structure Bridge where
  Id : Int
  Name : ByteArray
  Ports : (List Pt)
  F : (List Fent)
  V : Vtab
  Ticks : Int
  Parse : Int
  Word : Int
  Drops : Int
  Vers : Int
def Bridge.row (v : Bridge) : List CV := [.lit (.int .i64 v.Id), .lit (.string v.Name), .sl true 8 (v.Ports.map Pt.row), .sl true 5 (v.F.map Fent.row), .sl true 3 (v.V.Rows.map Vrow.row), .sl true 1 (v.V.Pvid.map intRow), .lit (.int .i64 v.Ticks), .lit (.int .i64 v.Parse), .lit (.int .i64 v.Word), .lit (.int .i64 v.Drops), .lit (.int .i64 v.Vers)]
def Bridge.wf (v : Bridge) : Prop := intWf v.Id ∧ v.Name.size ≤ maxLen ∧ listWf Pt.wf v.Ports ∧ listWf Fent.wf v.F ∧ listWf Vrow.wf v.V.Rows ∧ listWf intWf v.V.Pvid ∧ intWf v.Ticks ∧ intWf v.Parse ∧ intWf v.Word ∧ intWf v.Drops ∧ intWf v.Vers ∧ True
theorem Bridge.enc : Enc Bridge [.int .i64, .str, .sl 8 [.bool, .int .i64, .bool, .int .i64, .int .i64, .int .i64, .int .i64, .int .i64], .sl 5 [.int .i64, .int .i64, .int .i64, .int .i64, .bool], .sl 3 [.int .i64, .int .i64, .int .i64], .sl 1 [.int .i64], .int .i64, .int .i64, .int .i64, .int .i64, .int .i64] Bridge.row Bridge.wf := fun cs h => by
  obtain ⟨c0, r0, rfl, k0, h⟩ := fitR_cons h
  obtain ⟨c1, r1, rfl, k1, h⟩ := fitR_cons h
  obtain ⟨c2, r2, rfl, k2, h⟩ := fitR_cons h
  obtain ⟨c3, r3, rfl, k3, h⟩ := fitR_cons h
  obtain ⟨c4, r4, rfl, k4, h⟩ := fitR_cons h
  obtain ⟨c5, r5, rfl, k5, h⟩ := fitR_cons h
  obtain ⟨c6, r6, rfl, k6, h⟩ := fitR_cons h
  obtain ⟨c7, r7, rfl, k7, h⟩ := fitR_cons h
  obtain ⟨c8, r8, rfl, k8, h⟩ := fitR_cons h
  obtain ⟨c9, r9, rfl, k9, h⟩ := fitR_cons h
  obtain ⟨c10, r10, rfl, k10, h⟩ := fitR_cons h
  obtain rfl := fitR_nil h
  obtain ⟨x0, rfl, w0⟩ := fitC_int k0
  obtain ⟨x1, rfl, w1⟩ := fitC_str k1
  obtain ⟨x2, rfl, w2⟩ := Enc.sl Pt.enc k2
  obtain ⟨x3, rfl, w3⟩ := Enc.sl Fent.enc k3
  obtain ⟨x4, rfl, w4⟩ := Enc.sl Vrow.enc k4
  obtain ⟨x5, rfl, w5⟩ := Enc.sl encInt k5
  obtain ⟨x6, rfl, w6⟩ := fitC_int k6
  obtain ⟨x7, rfl, w7⟩ := fitC_int k7
  obtain ⟨x8, rfl, w8⟩ := fitC_int k8
  obtain ⟨x9, rfl, w9⟩ := fitC_int k9
  obtain ⟨x10, rfl, w10⟩ := fitC_int k10
  exact ⟨⟨x0, x1, x2, x3, ⟨x4, x5⟩, x6, x7, x8, x9, x10⟩, rfl, ⟨w0, w1, w2, w3, w4, w5, w6, w7, w8, w9, w10, trivial⟩⟩
theorem Bridge.row_mine (v : Bridge) : CV.mineRow (Bridge.row v) := mine_cons mine_lit (mine_cons mine_lit (mine_cons (mine_sl (mine_map Pt.row_mine _)) (mine_cons (mine_sl (mine_map Fent.row_mine _)) (mine_cons (mine_sl (mine_map Vrow.row_mine _)) (mine_cons (mine_sl (mine_map intRow_mine _)) (mine_cons mine_lit (mine_cons mine_lit (mine_cons mine_lit (mine_cons mine_lit (mine_cons mine_lit (mine_nil)))))))))))

def spec_l1InF (n : Nat) (x0 : Int) (x1 : Int) (x2 : Int) : Option (Bool) :=
  (bif (decide (x0 ≥ x1)) then (some (decide (x0 ≤ x2))) else (some false))
/-- loop.example/g00326/spec.l1In -/
theorem spec_l1In (n : Nat) (x0 : Int) (x1 : Int) (x2 : Int) (r : Bool) (H : spec_l1InF n x0 x1 x2 = some r) : LCall Try.prog 76 [.val false [.lit (.int .i64 x0)], .val false [.lit (.int .i64 x1)], .val false [.lit (.int .i64 x2)]] [.val false [.lit (.bool r)]] [] := by
  refine LCall.of_body tOk Try.func76 rfl (c := (.seq (.region 0 (rg Try.f76 0) false) (.seq (.region 1 (rg Try.f76 1) false) .ret))) (by kernel_rfl) (Nat.le_of_ble_eq_true (by kernel_rfl)) 0 (rs := [.tmp 6]) rfl [] .nil [(false, [.lit (.bool r)])] [] [] fun cx => ?_
  show Tr _ _ _ ⟨15, 0, [(0, .val false [.lit (.int .i64 x0)]), (1, .val false [.lit (.int .i64 x1)]), (2, .val false [.lit (.int .i64 x2)])], []⟩ _
  unfold spec_l1InF at H
  refine Tr.rs ?_
  refine LAt.runU tOk 1 (by kernel_rfl) ?_
  refine LAt.doneU [6, 0, 1, 2] [] (by kernel_rfl) ?_
  refine Tr.rs ?_
  refine LAt.runU tOk 4 (by kernel_rfl) ?_
  refine LAt.to ⟨15, 0, [(10, .val false [.lit (.bool (decide (x0 ≥ x1)))]), (9, .val false [.lit (.bool (decide (x0 ≥ x1)))]), (8, .val false [.lit (.int .i64 x1)]), (7, .val false [.lit (.int .i64 x0)]), (6, .val false [.lit (.bool false)]), (0, .val false [.lit (.int .i64 x0)]), (1, .val false [.lit (.int .i64 x1)]), (2, .val false [.lit (.int .i64 x2)])], []⟩ (by kernel_rfl) ?_
  cases h1 : (decide (x0 ≥ x1))
  · have H := bifF h1 H
    refine LAt.runU tOk 5 (by kernel_rfl) ?_
    refine LAt.doneU [6] [] (by kernel_rfl) ?_
    refine Tr.ret ?_
    have H := Option.some.inj H
    subst H
    exact Fin.of _ [(false, [.lit (.bool false)])] (by kernel_rfl) rfl rfl
  · have H := bifT h1 H
    refine LAt.runU tOk 5 (by kernel_rfl) ?_
    refine LAt.doneU [6] [] (by kernel_rfl) ?_
    refine Tr.ret ?_
    have H := Option.some.inj H
    subst H
    exact Fin.of _ [(false, [.lit (.bool (decide (x0 ≤ x2)))])] (by kernel_rfl) rfl rfl

def spec_VtabNew_J1 (n : Nat) (x0 : Int) (y5 : (List Int)) : Option (Vtab) :=
  (some (⟨[(⟨1, (IntKind.wrap .i64 ((IntKind.wrap .i64 (1 * 2 ^ min (((IntKind.wrap .u64 x0) : Int)).toNat (IntKind.bits .i64))) - 1)), (IntKind.wrap .i64 ((IntKind.wrap .i64 (1 * 2 ^ min (((IntKind.wrap .u64 x0) : Int)).toNat (IntKind.bits .i64))) - 1))⟩ : Vrow)], y5⟩ : Vtab))
def spec_VtabNew_L2 (n : Nat) : Nat → Int → Int → (List Int) → Option (((List Int)) ⊕ (Vtab))
  | 0, _, _, _ => none
  | mo6 + 1, x0, y3, y4 => (bif (decide (y3 < x0)) then (bif (decide (y4.length + [1].length ≤ 268435456)) then (spec_VtabNew_L2 n mo6 x0 (IntKind.wrap .i64 (y3 + 1)) (y4 ++ [1])) else none) else (some (Sum.inl y4)))
def spec_VtabNewF (n : Nat) (x0 : Int) : Option (Vtab) :=
  ((spec_l1InF n x0 1 6).bind fun r1 => (bif (!r1) then (some (⟨([] : List Vrow), ([] : List Int)⟩ : Vtab)) else (bif (decide ((0 : Int) ≤ (IntKind.wrap .u64 x0))) then ((spec_VtabNew_L2 n n x0 0 ([] : List Int)).bind fun o => match o with | .inl y5 => (spec_VtabNew_J1 n x0 y5) | .inr r => some r) else none)))
/-- loop.example/g00326/spec.VtabNew -/
theorem spec_VtabNew (n : Nat) (x0 : Int) (r : Vtab) (H : spec_VtabNewF n x0 = some r) : LCall Try.prog 50 [.val false [.lit (.int .i64 x0)]] [.val true (Vtab.row r)] [] := by
  refine LCall.of_body tOk Try.func50 rfl (c := (.seq (.region 0 (rg Try.f50 0) false) (.seq (.seq (.region 1 (rg Try.f50 1) false) (.cond (.tmp 8) (.seq (.region 2 (rg Try.f50 2) false) .ret) .skip)) (.seq (.region 3 (rg Try.f50 3) false) (.seq (.region 4 (rg Try.f50 4) false) (.seq (.seq (.region 5 (rg Try.f50 5) false) (.block 0 (.loop (.seq (.seq (.region 6 (rg Try.f50 6) false) (.cond (.tmp 21) .skip (.exit 0))) (.seq (.block 1 (.region 8 (rg Try.f50 8) false)) (.region 7 (rg Try.f50 7) false)))))) (.seq (.region 9 (rg Try.f50 9) false) .ret))))))) (by kernel_rfl) (Nat.le_of_ble_eq_true (by kernel_rfl)) 0 (rs := [.cell 2 29]) rfl [] .nil [(true, (Vtab.row r))] [] [] fun cx => ?_
  show Tr _ _ _ ⟨30, 0, [(0, .val false [.lit (.int .i64 x0)])], []⟩ _
  unfold spec_VtabNewF at H
  refine Tr.rs ?_
  refine LAt.runU tOk 1 (by kernel_rfl) ?_
  refine LAt.doneU [2, 0] [2] (by kernel_rfl) ?_
  refine Tr.seq ?_
  refine Tr.rs ?_
  refine LAt.runU tOk 1 (by kernel_rfl) ?_
  obtain ⟨r1, er1, H⟩ := bind_some H
  refine LAt.callU tOk [.rd, .rd, .rd] (f := 76) (av := #[.tmp 6, .const (.int .i64 1), .const (.int .i64 6)]) (ats := #[3, 3, 3]) (d := (some 7)) (ty := 4) (g := none) (by kernel_rfl) (by kernel_rfl) (by kernel_rfl) [] (spec_l1In n x0 1 6 r1 er1) (by kernel_rfl) (.inl rfl) ?_
  refine LAt.runU tOk 1 (by kernel_rfl) ?_
  refine LAt.doneU [8, 2, 0] [2] (by kernel_rfl) ?_
  refine Tr.to ⟨30, 0, [(8, .val false [.lit (.bool (!r1))]), (2, .adr (.box 2) [(0, 0)] 2 0), (0, .val false [.lit (.int .i64 x0)])], [(2, [.sl true 3 (([] : List Vrow).map Vrow.row), .sl true 1 (([] : List Int).map intRow)])]⟩ (by kernel_rfl) ?_
  cases h1 : (!r1)
  · have H := bifF h1 H
    refine Tr.cond (b := false) (by kernel_rfl) (fun h => nomatch h) (fun _ => ?_)
    refine Tr.skip ?_
    show Tr _ _ _ _ _
    refine Tr.rs ?_
    refine LAt.runU tOk 2 (by kernel_rfl) ?_
    obtain ⟨hg2, H⟩ := guard_some H
    refine LAt.binC tOk (op := .shl) (t := 3) (ty := 136) (ty' := 3) (x := (.const (.int .i64 1))) (y := (.tmp 11)) (d := 12) (g := none) (.int .i64 1) (.int .u64 (IntKind.wrap .u64 x0)) (.int .i64 (IntKind.wrap .i64 (1 * 2 ^ min (((IntKind.wrap .u64 x0) : Int)).toNat (IntKind.bits .i64)))) _ (by kernel_rfl) (by kernel_rfl) (by kernel_rfl) (by kernel_rfl) (by kernel_rfl) (φ := (0 : Int) ≤ (IntKind.wrap .u64 x0)) (by kernel_rfl) (of_decide_eq_true hg2) rfl ?_
    refine LAt.runU tOk 2 (by kernel_rfl) ?_
    refine LAt.doneU [3, 2, 0] [2] (by kernel_rfl) ?_
    refine Tr.rs ?_
    refine LAt.runU tOk 7 (by kernel_rfl) ?_
    refine LAt.doneU [4, 2, 0] [4, 2] (by kernel_rfl) ?_
    refine Tr.seq ?_
    refine Tr.rs ?_
    refine LAt.runU tOk 1 (by kernel_rfl) ?_
    refine LAt.doneU [5, 4, 2, 0] [4, 2] (by kernel_rfl) ?_
    obtain ⟨o6, eo6, Ho6⟩ := bind_some H
    clear H
    refine Tr.mid (ι := (List Int)) (fun v => ⟨30, 0, [(4, .adr (.box 4) [(0, 0)] 2 0), (2, .adr (.box 2) [(0, 0)] 2 0)], [(4, [.sl true 3 ([(⟨1, (IntKind.wrap .i64 ((IntKind.wrap .i64 (1 * 2 ^ min (((IntKind.wrap .u64 x0) : Int)).toNat (IntKind.bits .i64))) - 1)), (IntKind.wrap .i64 ((IntKind.wrap .i64 (1 * 2 ^ min (((IntKind.wrap .u64 x0) : Int)).toNat (IntKind.bits .i64))) - 1))⟩ : Vrow)].map Vrow.row), .sl true 1 (v.map intRow)]), (2, [.sl true 3 (([] : List Vrow).map Vrow.row), .sl true 1 (([] : List Int).map intRow)])]⟩) (fun v => spec_VtabNew_J1 n x0 v = some r) ?_ ?_
    · refine Tr.block ?_
      refine Tr.loop (ι := Nat × (Int × (List Int))) (fun v => ⟨30, 0, [(5, .val false [.lit (.int .i64 v.2.1)]), (4, .adr (.box 4) [(0, 0)] 2 0), (2, .adr (.box 2) [(0, 0)] 2 0), (0, .val false [.lit (.int .i64 x0)])], [(4, [.sl true 3 ([(⟨1, (IntKind.wrap .i64 ((IntKind.wrap .i64 (1 * 2 ^ min (((IntKind.wrap .u64 x0) : Int)).toNat (IntKind.bits .i64))) - 1)), (IntKind.wrap .i64 ((IntKind.wrap .i64 (1 * 2 ^ min (((IntKind.wrap .u64 x0) : Int)).toNat (IntKind.bits .i64))) - 1))⟩ : Vrow)].map Vrow.row), .sl true 1 (v.2.2.map intRow)]), (2, [.sl true 3 (([] : List Vrow).map Vrow.row), .sl true 1 (([] : List Int).map intRow)])]⟩) (fun v => spec_VtabNew_L2 n v.1 x0 v.2.1 v.2.2 = some o6) (fun v => v.1) (n, (0, ([] : List Int))) eo6 (St.sub_of [5, 4, 2, 0] [4, 2] (by kernel_rfl)) ?_
      rintro ⟨mo6, y3, y4⟩ H
      have H : spec_VtabNew_L2 n mo6 x0 y3 y4 = some o6 := H
      obtain _ | mo6 := mo6
      · cases (show (none : Option _) = some o6 from H)
      · rw [spec_VtabNew_L2] at H
        refine Tr.seq ?_
        refine Tr.rs ?_
        refine LAt.runU tOk 3 (by kernel_rfl) ?_
        refine LAt.doneU [21, 20, 19, 5, 4, 2, 0] [4, 2] (by kernel_rfl) ?_
        refine Tr.to ⟨30, 0, [(21, .val false [.lit (.bool (decide (y3 < x0)))]), (20, .val false [.lit (.int .i64 x0)]), (19, .val false [.lit (.int .i64 y3)]), (5, .val false [.lit (.int .i64 y3)]), (4, .adr (.box 4) [(0, 0)] 2 0), (2, .adr (.box 2) [(0, 0)] 2 0), (0, .val false [.lit (.int .i64 x0)])], [(4, [.sl true 3 ([(⟨1, (IntKind.wrap .i64 ((IntKind.wrap .i64 (1 * 2 ^ min (((IntKind.wrap .u64 x0) : Int)).toNat (IntKind.bits .i64))) - 1)), (IntKind.wrap .i64 ((IntKind.wrap .i64 (1 * 2 ^ min (((IntKind.wrap .u64 x0) : Int)).toNat (IntKind.bits .i64))) - 1))⟩ : Vrow)].map Vrow.row), .sl true 1 (y4.map intRow)]), (2, [.sl true 3 (([] : List Vrow).map Vrow.row), .sl true 1 (([] : List Int).map intRow)])]⟩ (by kernel_rfl) ?_
        cases h2 : (decide (y3 < x0))
        · have H := bifF h2 H
          refine Tr.cond (b := false) (by kernel_rfl) (fun h => nomatch h) (fun _ => ?_)
          refine Tr.exit ?_
          refine And.intro (fun _ => ?_) (fun h => absurd rfl h)
          have H := Option.some.inj H
          subst H
          have H := Ho6
          dsimp only at H
          exact Exists.intro y4 (And.intro H (St.sub_of [4, 2] [4, 2] (by kernel_rfl)))
        · have H := bifT h2 H
          refine Tr.cond (b := true) (by kernel_rfl) (fun _ => ?_) (fun h => nomatch h)
          refine Tr.skip ?_
          show Tr _ _ _ _ _
          refine Tr.seq ?_
          refine Tr.block ?_
          refine Tr.at ?_
          refine LAt.runU tOk 3 (by kernel_rfl) ?_
          obtain ⟨hg7, H⟩ := guard_some H
          refine LAt.appMU tOk (t := 23) (ty := 23) (e := 3) (x := (.tmp 25)) (y := (.tmp 26)) (d := 27) (g := none) ⟨.int .i64, 1, 8, [.lit (.int .i64 0)]⟩ intRow y4 [1] (by kernel_rfl) (by kernel_rfl) (by kernel_rfl) (by kernel_rfl) (by kernel_rfl) (by kernel_rfl) (by kernel_rfl) (by kernel_rfl) (by kernel_rfl) (by kernel_rfl) hg7 ?_
          refine LAt.runU tOk 2 (by kernel_rfl) ?_
          refine LAt.doneU [28, 24, 21, 20, 19, 5, 4, 2, 0] [4, 2] (by kernel_rfl) ?_
          show Tr _ _ _ _ _
          refine Tr.at ?_
          refine LAt.runU tOk 3 (by kernel_rfl) ?_
          refine LAt.doneU [5, 23, 22, 28, 24, 21, 20, 19, 4, 2, 0] [4, 2] (by kernel_rfl) ?_
          exact Exists.intro (mo6, ((IntKind.wrap .i64 (y3 + 1)), (y4 ++ [1]))) (And.intro H (And.intro (Nat.lt_succ_self mo6) (St.sub_of [5, 4, 2, 0] [4, 2] (by kernel_rfl))))
    · rintro y5 H
      have H : (spec_VtabNew_J1 n x0 y5) = some r := H
      unfold spec_VtabNew_J1 at H
      show Tr _ _ _ _ _
      refine Tr.rs ?_
      refine LAt.runU tOk 2 (by kernel_rfl) ?_
      refine LAt.doneU [2] [2] (by kernel_rfl) ?_
      refine Tr.ret ?_
      have H := Option.some.inj H
      subst H
      exact Fin.of _ [(true, [.sl true 3 ([(⟨1, (IntKind.wrap .i64 ((IntKind.wrap .i64 (1 * 2 ^ min (((IntKind.wrap .u64 x0) : Int)).toNat (IntKind.bits .i64))) - 1)), (IntKind.wrap .i64 ((IntKind.wrap .i64 (1 * 2 ^ min (((IntKind.wrap .u64 x0) : Int)).toNat (IntKind.bits .i64))) - 1))⟩ : Vrow)].map Vrow.row), .sl true 1 (y5.map intRow)])] (by kernel_rfl) rfl rfl
  · have H := bifT h1 H
    refine Tr.cond (b := true) (by kernel_rfl) (fun _ => ?_) (fun h => nomatch h)
    refine Tr.rs ?_
    refine LAt.runU tOk 2 (by kernel_rfl) ?_
    refine LAt.doneU [2, 0] [2] (by kernel_rfl) ?_
    refine Tr.ret ?_
    have H := Option.some.inj H
    subst H
    exact Fin.of _ [(true, [.sl true 3 (([] : List Vrow).map Vrow.row), .sl true 1 (([] : List Int).map intRow)])] (by kernel_rfl) rfl rfl

def spec_BridgeNew_J1 (n : Nat) (r3 : Vtab) (x0 : Int) (y6 : (List Pt)) : Option (Bridge) :=
  (some (⟨x0, (⟨#[]⟩ : ByteArray), y6, ([] : List Fent), r3, 0, 0, 0, 0, 0⟩ : Bridge))
def spec_BridgeNew_L2 (n : Nat) : Nat → Int → Int → (List Pt) → Option (((List Pt)) ⊕ (Bridge))
  | 0, _, _, _ => none
  | mo7 + 1, x1, y4, y5 => (bif (decide (y4 < x1)) then (bif (decide (y5.length + [(⟨false, 1, false, (⟨0, 0, 0, 0, 0⟩ : Vec)⟩ : Pt)].length ≤ 268435456)) then (spec_BridgeNew_L2 n mo7 x1 (IntKind.wrap .i64 (y4 + 1)) (y5 ++ [(⟨false, 1, false, (⟨0, 0, 0, 0, 0⟩ : Vec)⟩ : Pt)])) else none) else (some (Sum.inl y5)))
def spec_BridgeNewF (n : Nat) (x0 : Int) (x1 : Int) : Option (Bridge) :=
  ((spec_l1InF n x0 1 99).bind fun r1 => (bif (!r1) then (some (⟨0, (⟨#[]⟩ : ByteArray), ([] : List Pt), ([] : List Fent), (⟨([] : List Vrow), ([] : List Int)⟩ : Vtab), 0, 0, 0, 0, 0⟩ : Bridge)) else ((spec_l1InF n x1 1 6).bind fun r2 => (bif (!r2) then (some (⟨0, (⟨#[]⟩ : ByteArray), ([] : List Pt), ([] : List Fent), (⟨([] : List Vrow), ([] : List Int)⟩ : Vtab), 0, 0, 0, 0, 0⟩ : Bridge)) else ((spec_VtabNewF n x1).bind fun r3 => ((spec_BridgeNew_L2 n n x1 0 ([] : List Pt)).bind fun o => match o with | .inl y6 => (spec_BridgeNew_J1 n r3 x0 y6) | .inr r => some r))))))
/-- loop.example/g00326/spec.BridgeNew -/
theorem spec_BridgeNew (n : Nat) (x0 : Int) (x1 : Int) (r : Bridge) (H : spec_BridgeNewF n x0 x1 = some r) : LCall Try.prog 56 [.val false [.lit (.int .i64 x0)], .val false [.lit (.int .i64 x1)]] [.val true (Bridge.row r)] [] := by
  refine LCall.of_body tOk Try.func56 rfl (c := (.seq (.region 0 (rg Try.f56 0) false) (.seq (.seq (.region 1 (rg Try.f56 1) false) (.cond (.tmp 14) (.seq (.region 2 (rg Try.f56 2) false) .ret) .skip)) (.seq (.region 3 (rg Try.f56 3) false) (.seq (.seq (.region 4 (rg Try.f56 4) false) (.block 0 (.loop (.seq (.seq (.region 5 (rg Try.f56 5) false) (.cond (.tmp 22) .skip (.exit 0))) (.seq (.block 1 (.region 7 (rg Try.f56 7) false)) (.region 6 (rg Try.f56 6) false)))))) (.seq (.region 8 (rg Try.f56 8) false) .ret)))))) (by kernel_rfl) (Nat.le_of_ble_eq_true (by kernel_rfl)) 0 (rs := [.cell 4 79]) rfl [] .nil [(true, (Bridge.row r))] [] [] fun cx => ?_
  show Tr _ _ _ ⟨32, 0, [(0, .val false [.lit (.int .i64 x0)]), (1, .val false [.lit (.int .i64 x1)])], []⟩ _
  unfold spec_BridgeNewF at H
  refine Tr.rs ?_
  refine LAt.runU tOk 1 (by kernel_rfl) ?_
  refine LAt.doneU [4, 0, 1] [4] (by kernel_rfl) ?_
  refine Tr.seq ?_
  refine Tr.rs ?_
  refine LAt.runU tOk 1 (by kernel_rfl) ?_
  obtain ⟨r1, er1, H⟩ := bind_some H
  refine LAt.callU tOk [.rd, .rd, .rd] (f := 76) (av := #[.tmp 7, .const (.int .i64 1), .const (.int .i64 99)]) (ats := #[3, 3, 3]) (d := (some 8)) (ty := 4) (g := none) (by kernel_rfl) (by kernel_rfl) (by kernel_rfl) [] (spec_l1In n x0 1 99 r1 er1) (by kernel_rfl) (.inl rfl) ?_
  refine LAt.runU tOk 2 (by kernel_rfl) ?_
  refine LAt.to ⟨32, 0, [(10, .val false [.lit (.bool (!r1))]), (9, .val false [.lit (.bool (!r1))]), (8, .val false [.lit (.bool r1)]), (7, .val false [.lit (.int .i64 x0)]), (4, .adr (.box 4) [(0, 0)] 11 0), (0, .val false [.lit (.int .i64 x0)]), (1, .val false [.lit (.int .i64 x1)])], [(4, [.lit (.int .i64 0), .lit (.string (⟨#[]⟩ : ByteArray)), .sl true 8 (([] : List Pt).map Pt.row), .sl true 5 (([] : List Fent).map Fent.row), .sl true 3 (([] : List Vrow).map Vrow.row), .sl true 1 (([] : List Int).map intRow), .lit (.int .i64 0), .lit (.int .i64 0), .lit (.int .i64 0), .lit (.int .i64 0), .lit (.int .i64 0)])]⟩ (by kernel_rfl) ?_
  cases h1 : (!r1)
  · have H := bifF h1 H
    refine LAt.runU tOk 1 (by kernel_rfl) ?_
    obtain ⟨r2, er2, H⟩ := bind_some H
    refine LAt.callU tOk [.rd, .rd, .rd] (f := 76) (av := #[.tmp 11, .const (.int .i64 1), .const (.int .i64 6)]) (ats := #[3, 3, 3]) (d := (some 12)) (ty := 4) (g := (some (3, false))) (by kernel_rfl) (by kernel_rfl) (by kernel_rfl) [] (spec_l1In n x1 1 6 r2 er2) (by kernel_rfl) (.inl rfl) ?_
    refine LAt.runU tOk 2 (by kernel_rfl) ?_
    refine LAt.doneU [14, 4, 0, 1] [4] (by kernel_rfl) ?_
    refine Tr.to ⟨32, 0, [(14, .val false [.lit (.bool (!r2))]), (4, .adr (.box 4) [(0, 0)] 11 0), (0, .val false [.lit (.int .i64 x0)]), (1, .val false [.lit (.int .i64 x1)])], [(4, [.lit (.int .i64 0), .lit (.string (⟨#[]⟩ : ByteArray)), .sl true 8 (([] : List Pt).map Pt.row), .sl true 5 (([] : List Fent).map Fent.row), .sl true 3 (([] : List Vrow).map Vrow.row), .sl true 1 (([] : List Int).map intRow), .lit (.int .i64 0), .lit (.int .i64 0), .lit (.int .i64 0), .lit (.int .i64 0), .lit (.int .i64 0)])]⟩ (by kernel_rfl) ?_
    cases h2 : (!r2)
    · have H := bifF h2 H
      refine Tr.cond (b := false) (by kernel_rfl) (fun h => nomatch h) (fun _ => ?_)
      refine Tr.skip ?_
      show Tr _ _ _ _ _
      refine Tr.rs ?_
      refine LAt.runU tOk 2 (by kernel_rfl) ?_
      obtain ⟨r3, er3, H⟩ := bind_some H
      refine LAt.callU tOk [.rd] (f := 50) (av := #[.tmp 17]) (ats := #[3]) (d := (some 18)) (ty := 29) (g := none) (by kernel_rfl) (by kernel_rfl) (by kernel_rfl) [] (spec_VtabNew n x1 r3 er3) (by kernel_rfl) (.inl rfl) ?_
      refine LAt.runU tOk 3 (by kernel_rfl) ?_
      refine LAt.doneU [5, 4, 1] [5, 4] (by kernel_rfl) ?_
      refine Tr.seq ?_
      refine Tr.rs ?_
      refine LAt.runU tOk 1 (by kernel_rfl) ?_
      refine LAt.doneU [6, 5, 4, 1] [5, 4] (by kernel_rfl) ?_
      obtain ⟨o7, eo7, Ho7⟩ := bind_some H
      clear H
      refine Tr.mid (ι := (List Pt)) (fun v => ⟨32, 0, [(5, .adr (.box 5) [(0, 0)] 11 0), (4, .adr (.box 4) [(0, 0)] 11 0)], [(5, [.lit (.int .i64 x0), .lit (.string (⟨#[]⟩ : ByteArray)), .sl true 8 (v.map Pt.row), .sl true 5 (([] : List Fent).map Fent.row), .sl true 3 (r3.Rows.map Vrow.row), .sl true 1 (r3.Pvid.map intRow), .lit (.int .i64 0), .lit (.int .i64 0), .lit (.int .i64 0), .lit (.int .i64 0), .lit (.int .i64 0)]), (4, [.lit (.int .i64 0), .lit (.string (⟨#[]⟩ : ByteArray)), .sl true 8 (([] : List Pt).map Pt.row), .sl true 5 (([] : List Fent).map Fent.row), .sl true 3 (([] : List Vrow).map Vrow.row), .sl true 1 (([] : List Int).map intRow), .lit (.int .i64 0), .lit (.int .i64 0), .lit (.int .i64 0), .lit (.int .i64 0), .lit (.int .i64 0)])]⟩) (fun v => spec_BridgeNew_J1 n r3 x0 v = some r) ?_ ?_
      · refine Tr.block ?_
        refine Tr.loop (ι := Nat × (Int × (List Pt))) (fun v => ⟨32, 0, [(6, .val false [.lit (.int .i64 v.2.1)]), (5, .adr (.box 5) [(0, 0)] 11 0), (4, .adr (.box 4) [(0, 0)] 11 0), (1, .val false [.lit (.int .i64 x1)])], [(5, [.lit (.int .i64 x0), .lit (.string (⟨#[]⟩ : ByteArray)), .sl true 8 (v.2.2.map Pt.row), .sl true 5 (([] : List Fent).map Fent.row), .sl true 3 (r3.Rows.map Vrow.row), .sl true 1 (r3.Pvid.map intRow), .lit (.int .i64 0), .lit (.int .i64 0), .lit (.int .i64 0), .lit (.int .i64 0), .lit (.int .i64 0)]), (4, [.lit (.int .i64 0), .lit (.string (⟨#[]⟩ : ByteArray)), .sl true 8 (([] : List Pt).map Pt.row), .sl true 5 (([] : List Fent).map Fent.row), .sl true 3 (([] : List Vrow).map Vrow.row), .sl true 1 (([] : List Int).map intRow), .lit (.int .i64 0), .lit (.int .i64 0), .lit (.int .i64 0), .lit (.int .i64 0), .lit (.int .i64 0)])]⟩) (fun v => spec_BridgeNew_L2 n v.1 x1 v.2.1 v.2.2 = some o7) (fun v => v.1) (n, (0, ([] : List Pt))) eo7 (St.sub_of [6, 5, 4, 1] [5, 4] (by kernel_rfl)) ?_
        rintro ⟨mo7, y4, y5⟩ H
        have H : spec_BridgeNew_L2 n mo7 x1 y4 y5 = some o7 := H
        obtain _ | mo7 := mo7
        · cases (show (none : Option _) = some o7 from H)
        · rw [spec_BridgeNew_L2] at H
          refine Tr.seq ?_
          refine Tr.rs ?_
          refine LAt.runU tOk 3 (by kernel_rfl) ?_
          refine LAt.doneU [22, 21, 20, 6, 5, 4, 1] [5, 4] (by kernel_rfl) ?_
          refine Tr.to ⟨32, 0, [(22, .val false [.lit (.bool (decide (y4 < x1)))]), (21, .val false [.lit (.int .i64 x1)]), (20, .val false [.lit (.int .i64 y4)]), (6, .val false [.lit (.int .i64 y4)]), (5, .adr (.box 5) [(0, 0)] 11 0), (4, .adr (.box 4) [(0, 0)] 11 0), (1, .val false [.lit (.int .i64 x1)])], [(5, [.lit (.int .i64 x0), .lit (.string (⟨#[]⟩ : ByteArray)), .sl true 8 (y5.map Pt.row), .sl true 5 (([] : List Fent).map Fent.row), .sl true 3 (r3.Rows.map Vrow.row), .sl true 1 (r3.Pvid.map intRow), .lit (.int .i64 0), .lit (.int .i64 0), .lit (.int .i64 0), .lit (.int .i64 0), .lit (.int .i64 0)]), (4, [.lit (.int .i64 0), .lit (.string (⟨#[]⟩ : ByteArray)), .sl true 8 (([] : List Pt).map Pt.row), .sl true 5 (([] : List Fent).map Fent.row), .sl true 3 (([] : List Vrow).map Vrow.row), .sl true 1 (([] : List Int).map intRow), .lit (.int .i64 0), .lit (.int .i64 0), .lit (.int .i64 0), .lit (.int .i64 0), .lit (.int .i64 0)])]⟩ (by kernel_rfl) ?_
          cases h3 : (decide (y4 < x1))
          · have H := bifF h3 H
            refine Tr.cond (b := false) (by kernel_rfl) (fun h => nomatch h) (fun _ => ?_)
            refine Tr.exit ?_
            refine And.intro (fun _ => ?_) (fun h => absurd rfl h)
            have H := Option.some.inj H
            subst H
            have H := Ho7
            dsimp only at H
            exact Exists.intro y5 (And.intro H (St.sub_of [5, 4] [5, 4] (by kernel_rfl)))
          · have H := bifT h3 H
            refine Tr.cond (b := true) (by kernel_rfl) (fun _ => ?_) (fun h => nomatch h)
            refine Tr.skip ?_
            show Tr _ _ _ _ _
            refine Tr.seq ?_
            refine Tr.block ?_
            refine Tr.at ?_
            refine LAt.runU tOk 4 (by kernel_rfl) ?_
            obtain ⟨hg8, H⟩ := guard_some H
            refine LAt.appMU tOk (t := 43) (ty := 43) (e := 41) (x := (.tmp 26)) (y := (.tmp 28)) (d := 29) (g := none) ⟨.st [(0, 1, 4), (1, 1, 3), (2, 1, 4), (3, 5, 39)], 8, 64, [.lit (.bool false), .lit (.int .i64 0), .lit (.bool false), .lit (.int .i64 0), .lit (.int .i64 0), .lit (.int .i64 0), .lit (.int .i64 0), .lit (.int .i64 0)]⟩ Pt.row y5 [(⟨false, 1, false, (⟨0, 0, 0, 0, 0⟩ : Vec)⟩ : Pt)] (by kernel_rfl) (by kernel_rfl) (by kernel_rfl) (by kernel_rfl) (by kernel_rfl) (by kernel_rfl) (by kernel_rfl) (by kernel_rfl) (by kernel_rfl) (by kernel_rfl) hg8 ?_
            refine LAt.runU tOk 2 (by kernel_rfl) ?_
            refine LAt.doneU [30, 27, 25, 22, 21, 20, 6, 5, 4, 1] [5, 4] (by kernel_rfl) ?_
            show Tr _ _ _ _ _
            refine Tr.at ?_
            refine LAt.runU tOk 3 (by kernel_rfl) ?_
            refine LAt.doneU [6, 24, 23, 30, 27, 25, 22, 21, 20, 5, 4, 1] [5, 4] (by kernel_rfl) ?_
            exact Exists.intro (mo7, ((IntKind.wrap .i64 (y4 + 1)), (y5 ++ [(⟨false, 1, false, (⟨0, 0, 0, 0, 0⟩ : Vec)⟩ : Pt)]))) (And.intro H (And.intro (Nat.lt_succ_self mo7) (St.sub_of [6, 5, 4, 1] [5, 4] (by kernel_rfl))))
      · rintro y6 H
        have H : (spec_BridgeNew_J1 n r3 x0 y6) = some r := H
        unfold spec_BridgeNew_J1 at H
        show Tr _ _ _ _ _
        refine Tr.rs ?_
        refine LAt.runU tOk 2 (by kernel_rfl) ?_
        refine LAt.doneU [4] [4] (by kernel_rfl) ?_
        refine Tr.ret ?_
        have H := Option.some.inj H
        subst H
        exact Fin.of _ [(true, [.lit (.int .i64 x0), .lit (.string (⟨#[]⟩ : ByteArray)), .sl true 8 (y6.map Pt.row), .sl true 5 (([] : List Fent).map Fent.row), .sl true 3 (r3.Rows.map Vrow.row), .sl true 1 (r3.Pvid.map intRow), .lit (.int .i64 0), .lit (.int .i64 0), .lit (.int .i64 0), .lit (.int .i64 0), .lit (.int .i64 0)])] (by kernel_rfl) rfl rfl
    · have H := bifT h2 H
      refine Tr.cond (b := true) (by kernel_rfl) (fun _ => ?_) (fun h => nomatch h)
      refine Tr.rs ?_
      refine LAt.runU tOk 2 (by kernel_rfl) ?_
      refine LAt.doneU [4, 0, 1] [4] (by kernel_rfl) ?_
      refine Tr.ret ?_
      have H := Option.some.inj H
      subst H
      exact Fin.of _ [(true, [.lit (.int .i64 0), .lit (.string (⟨#[]⟩ : ByteArray)), .sl true 8 (([] : List Pt).map Pt.row), .sl true 5 (([] : List Fent).map Fent.row), .sl true 3 (([] : List Vrow).map Vrow.row), .sl true 1 (([] : List Int).map intRow), .lit (.int .i64 0), .lit (.int .i64 0), .lit (.int .i64 0), .lit (.int .i64 0), .lit (.int .i64 0)])] (by kernel_rfl) rfl rfl
  · have H := bifT h1 H
    refine LAt.runU tOk 4 (by kernel_rfl) ?_
    refine LAt.doneU [14, 4, 0, 1] [4] (by kernel_rfl) ?_
    refine Tr.cond (b := true) (by kernel_rfl) (fun _ => ?_) (fun h => nomatch h)
    refine Tr.rs ?_
    refine LAt.runU tOk 2 (by kernel_rfl) ?_
    refine LAt.doneU [4, 0, 1] [4] (by kernel_rfl) ?_
    refine Tr.ret ?_
    have H := Option.some.inj H
    subst H
    exact Fin.of _ [(true, [.lit (.int .i64 0), .lit (.string (⟨#[]⟩ : ByteArray)), .sl true 8 (([] : List Pt).map Pt.row), .sl true 5 (([] : List Fent).map Fent.row), .sl true 3 (([] : List Vrow).map Vrow.row), .sl true 1 (([] : List Int).map intRow), .lit (.int .i64 0), .lit (.int .i64 0), .lit (.int .i64 0), .lit (.int .i64 0), .lit (.int .i64 0)])] (by kernel_rfl) rfl rfl

def impl_inF (n : Nat) (x0 : Int) (x1 : Int) (x2 : Int) : Option (Bool) :=
  (bif (decide (x0 ≥ x1)) then (some (decide (x0 ≤ x2))) else (some false))
/-- loop.example/g00326/impl.in -/
theorem impl_in (n : Nat) (x0 : Int) (x1 : Int) (x2 : Int) (r : Bool) (H : impl_inF n x0 x1 x2 = some r) : LCall Try.prog 82 [.val false [.lit (.int .i64 x0)], .val false [.lit (.int .i64 x1)], .val false [.lit (.int .i64 x2)]] [.val false [.lit (.bool r)]] [] := by
  refine LCall.of_body tOk Try.func82 rfl (c := (.seq (.region 0 (rg Try.f82 0) false) (.seq (.region 1 (rg Try.f82 1) false) .ret))) (by kernel_rfl) (Nat.le_of_ble_eq_true (by kernel_rfl)) 0 (rs := [.tmp 6]) rfl [] .nil [(false, [.lit (.bool r)])] [] [] fun cx => ?_
  show Tr _ _ _ ⟨15, 0, [(0, .val false [.lit (.int .i64 x0)]), (1, .val false [.lit (.int .i64 x1)]), (2, .val false [.lit (.int .i64 x2)])], []⟩ _
  unfold impl_inF at H
  refine Tr.rs ?_
  refine LAt.runU tOk 1 (by kernel_rfl) ?_
  refine LAt.doneU [6, 0, 1, 2] [] (by kernel_rfl) ?_
  refine Tr.rs ?_
  refine LAt.runU tOk 4 (by kernel_rfl) ?_
  refine LAt.to ⟨15, 0, [(10, .val false [.lit (.bool (decide (x0 ≥ x1)))]), (9, .val false [.lit (.bool (decide (x0 ≥ x1)))]), (8, .val false [.lit (.int .i64 x1)]), (7, .val false [.lit (.int .i64 x0)]), (6, .val false [.lit (.bool false)]), (0, .val false [.lit (.int .i64 x0)]), (1, .val false [.lit (.int .i64 x1)]), (2, .val false [.lit (.int .i64 x2)])], []⟩ (by kernel_rfl) ?_
  cases h1 : (decide (x0 ≥ x1))
  · have H := bifF h1 H
    refine LAt.runU tOk 5 (by kernel_rfl) ?_
    refine LAt.doneU [6] [] (by kernel_rfl) ?_
    refine Tr.ret ?_
    have H := Option.some.inj H
    subst H
    exact Fin.of _ [(false, [.lit (.bool false)])] (by kernel_rfl) rfl rfl
  · have H := bifT h1 H
    refine LAt.runU tOk 5 (by kernel_rfl) ?_
    refine LAt.doneU [6] [] (by kernel_rfl) ?_
    refine Tr.ret ?_
    have H := Option.some.inj H
    subst H
    exact Fin.of _ [(false, [.lit (.bool (decide (x0 ≤ x2)))])] (by kernel_rfl) rfl rfl

def impl_allPortsF (n : Nat) (x0 : Int) : Option (Int) :=
  (bif (decide ((0 : Int) ≤ x0)) then (some (IntKind.wrap .i64 ((IntKind.wrap .i64 (1 * 2 ^ min ((x0 : Int)).toNat (IntKind.bits .i64))) - 1))) else none)
/-- loop.example/g00326/impl.allPorts -/
theorem impl_allPorts (n : Nat) (x0 : Int) (r : Int) (H : impl_allPortsF n x0 = some r) : LCall Try.prog 110 [.val false [.lit (.int .i64 x0)]] [.val false [.lit (.int .i64 r)]] [] := by
  refine LCall.of_body tOk Try.func110 rfl (c := (.seq (.region 0 (rg Try.f110 0) false) (.seq (.region 1 (rg Try.f110 1) false) .ret))) (by kernel_rfl) (Nat.le_of_ble_eq_true (by kernel_rfl)) 0 (rs := [.tmp 2]) rfl [] .nil [(false, [.lit (.int .i64 r)])] [] [] fun cx => ?_
  show Tr _ _ _ ⟨6, 0, [(0, .val false [.lit (.int .i64 x0)])], []⟩ _
  unfold impl_allPortsF at H
  refine Tr.rs ?_
  refine LAt.runU tOk 1 (by kernel_rfl) ?_
  refine LAt.doneU [2, 0] [] (by kernel_rfl) ?_
  refine Tr.rs ?_
  refine LAt.runU tOk 1 (by kernel_rfl) ?_
  obtain ⟨hg1, H⟩ := guard_some H
  refine LAt.binC tOk (op := .shl) (t := 3) (ty := 3) (ty' := 3) (x := (.const (.int .i64 1))) (y := (.tmp 3)) (d := 4) (g := none) (.int .i64 1) (.int .i64 x0) (.int .i64 (IntKind.wrap .i64 (1 * 2 ^ min ((x0 : Int)).toNat (IntKind.bits .i64)))) _ (by kernel_rfl) (by kernel_rfl) (by kernel_rfl) (by kernel_rfl) (by kernel_rfl) (φ := (0 : Int) ≤ x0) (by kernel_rfl) (of_decide_eq_true hg1) rfl ?_
  refine LAt.runU tOk 2 (by kernel_rfl) ?_
  refine LAt.doneU [2] [] (by kernel_rfl) ?_
  refine Tr.ret ?_
  have H := Option.some.inj H
  subst H
  exact Fin.of _ [(false, [.lit (.int .i64 (IntKind.wrap .i64 ((IntKind.wrap .i64 (1 * 2 ^ min ((x0 : Int)).toNat (IntKind.bits .i64))) - 1)))])] (by kernel_rfl) rfl rfl

def impl_VtabNew_J1 (n : Nat) (r2 : Int) (r3 : Int) (y6 : (List Int)) : Option (Vtab) :=
  (some (⟨[(⟨1, r2, r3⟩ : Vrow)], y6⟩ : Vtab))
def impl_VtabNew_L2 (n : Nat) : Nat → Int → Int → (List Int) → Option (((List Int)) ⊕ (Vtab))
  | 0, _, _, _ => none
  | mo7 + 1, x0, y4, y5 => (bif (decide (y4 < x0)) then (bif (decide (y5.length + [1].length ≤ 268435456)) then (impl_VtabNew_L2 n mo7 x0 (IntKind.wrap .i64 (y4 + 1)) (y5 ++ [1])) else none) else (some (Sum.inl y5)))
def impl_VtabNewF (n : Nat) (x0 : Int) : Option (Vtab) :=
  ((impl_inF n x0 1 6).bind fun r1 => (bif (!r1) then (some (⟨([] : List Vrow), ([] : List Int)⟩ : Vtab)) else ((impl_allPortsF n x0).bind fun r2 => ((impl_allPortsF n x0).bind fun r3 => ((impl_VtabNew_L2 n n x0 0 ([] : List Int)).bind fun o => match o with | .inl y6 => (impl_VtabNew_J1 n r2 r3 y6) | .inr r => some r)))))
/-- loop.example/g00326/impl.VtabNew -/
theorem impl_VtabNew (n : Nat) (x0 : Int) (r : Vtab) (H : impl_VtabNewF n x0 = some r) : LCall Try.prog 45 [.val false [.lit (.int .i64 x0)]] [.val true (Vtab.row r)] [] := by
  refine LCall.of_body tOk Try.func45 rfl (c := (.seq (.region 0 (rg Try.f45 0) false) (.seq (.seq (.region 1 (rg Try.f45 1) false) (.cond (.tmp 6) (.seq (.region 2 (rg Try.f45 2) false) .ret) .skip)) (.seq (.region 3 (rg Try.f45 3) false) (.seq (.seq (.region 4 (rg Try.f45 4) false) (.block 0 (.loop (.seq (.region 5 (rg Try.f45 5) false) (.seq (.cond (.tmp 17) .skip (.exit 0)) (.seq (.block 1 (.region 6 (rg Try.f45 6) false)) (.region 7 (rg Try.f45 7) false))))))) (.seq (.region 8 (rg Try.f45 8) false) .ret)))))) (by kernel_rfl) (Nat.le_of_ble_eq_true (by kernel_rfl)) 0 (rs := [.cell 2 29]) rfl [] .nil [(true, (Vtab.row r))] [] [] fun cx => ?_
  show Tr _ _ _ ⟨25, 0, [(0, .val false [.lit (.int .i64 x0)])], []⟩ _
  unfold impl_VtabNewF at H
  refine Tr.rs ?_
  refine LAt.runU tOk 1 (by kernel_rfl) ?_
  refine LAt.doneU [2, 0] [2] (by kernel_rfl) ?_
  refine Tr.seq ?_
  refine Tr.rs ?_
  refine LAt.runU tOk 1 (by kernel_rfl) ?_
  obtain ⟨r1, er1, H⟩ := bind_some H
  refine LAt.callU tOk [.rd, .rd, .rd] (f := 82) (av := #[.tmp 4, .const (.int .i64 1), .const (.int .i64 6)]) (ats := #[3, 3, 3]) (d := (some 5)) (ty := 4) (g := none) (by kernel_rfl) (by kernel_rfl) (by kernel_rfl) [] (impl_in n x0 1 6 r1 er1) (by kernel_rfl) (.inl rfl) ?_
  refine LAt.runU tOk 1 (by kernel_rfl) ?_
  refine LAt.doneU [6, 2, 0] [2] (by kernel_rfl) ?_
  refine Tr.to ⟨25, 0, [(6, .val false [.lit (.bool (!r1))]), (2, .adr (.box 2) [(0, 0)] 2 0), (0, .val false [.lit (.int .i64 x0)])], [(2, [.sl true 3 (([] : List Vrow).map Vrow.row), .sl true 1 (([] : List Int).map intRow)])]⟩ (by kernel_rfl) ?_
  cases h1 : (!r1)
  · have H := bifF h1 H
    refine Tr.cond (b := false) (by kernel_rfl) (fun h => nomatch h) (fun _ => ?_)
    refine Tr.skip ?_
    show Tr _ _ _ _ _
    refine Tr.rs ?_
    refine LAt.runU tOk 1 (by kernel_rfl) ?_
    obtain ⟨r2, er2, H⟩ := bind_some H
    refine LAt.callU tOk [.rd] (f := 110) (av := #[.tmp 8]) (ats := #[3]) (d := (some 9)) (ty := 3) (g := none) (by kernel_rfl) (by kernel_rfl) (by kernel_rfl) [] (impl_allPorts n x0 r2 er2) (by kernel_rfl) (.inl rfl) ?_
    refine LAt.runU tOk 1 (by kernel_rfl) ?_
    obtain ⟨r3, er3, H⟩ := bind_some H
    refine LAt.callU tOk [.rd] (f := 110) (av := #[.tmp 10]) (ats := #[3]) (d := (some 11)) (ty := 3) (g := none) (by kernel_rfl) (by kernel_rfl) (by kernel_rfl) [] (impl_allPorts n x0 r3 er3) (by kernel_rfl) (.inl rfl) ?_
    refine LAt.runU tOk 5 (by kernel_rfl) ?_
    refine LAt.doneU [3, 2, 0] [3, 2] (by kernel_rfl) ?_
    refine Tr.seq ?_
    refine Tr.rs ?_
    refine LAt.runU tOk 2 (by kernel_rfl) ?_
    refine LAt.doneU [16, 15, 3, 2] [3, 2] (by kernel_rfl) ?_
    obtain ⟨o7, eo7, Ho7⟩ := bind_some H
    clear H
    refine Tr.mid (ι := (List Int)) (fun v => ⟨25, 0, [(3, .adr (.box 3) [(0, 0)] 2 0), (2, .adr (.box 2) [(0, 0)] 2 0)], [(3, [.sl true 3 ([(⟨1, r2, r3⟩ : Vrow)].map Vrow.row), .sl true 1 (v.map intRow)]), (2, [.sl true 3 (([] : List Vrow).map Vrow.row), .sl true 1 (([] : List Int).map intRow)])]⟩) (fun v => impl_VtabNew_J1 n r2 r3 v = some r) ?_ ?_
    · refine Tr.block ?_
      refine Tr.loop (ι := Nat × (Int × (List Int))) (fun v => ⟨25, 0, [(16, .val false [.lit (.int .i64 v.2.1)]), (15, .val false [.lit (.int .i64 x0)]), (3, .adr (.box 3) [(0, 0)] 2 0), (2, .adr (.box 2) [(0, 0)] 2 0)], [(3, [.sl true 3 ([(⟨1, r2, r3⟩ : Vrow)].map Vrow.row), .sl true 1 (v.2.2.map intRow)]), (2, [.sl true 3 (([] : List Vrow).map Vrow.row), .sl true 1 (([] : List Int).map intRow)])]⟩) (fun v => impl_VtabNew_L2 n v.1 x0 v.2.1 v.2.2 = some o7) (fun v => v.1) (n, (0, ([] : List Int))) eo7 (St.sub_of [16, 15, 3, 2] [3, 2] (by kernel_rfl)) ?_
      rintro ⟨mo7, y4, y5⟩ H
      have H : impl_VtabNew_L2 n mo7 x0 y4 y5 = some o7 := H
      obtain _ | mo7 := mo7
      · cases (show (none : Option _) = some o7 from H)
      · rw [impl_VtabNew_L2] at H
        refine Tr.rs ?_
        refine LAt.runU tOk 1 (by kernel_rfl) ?_
        refine LAt.doneU [17, 16, 15, 3, 2] [3, 2] (by kernel_rfl) ?_
        refine Tr.seq ?_
        refine Tr.to ⟨25, 0, [(17, .val false [.lit (.bool (decide (y4 < x0)))]), (16, .val false [.lit (.int .i64 y4)]), (15, .val false [.lit (.int .i64 x0)]), (3, .adr (.box 3) [(0, 0)] 2 0), (2, .adr (.box 2) [(0, 0)] 2 0)], [(3, [.sl true 3 ([(⟨1, r2, r3⟩ : Vrow)].map Vrow.row), .sl true 1 (y5.map intRow)]), (2, [.sl true 3 (([] : List Vrow).map Vrow.row), .sl true 1 (([] : List Int).map intRow)])]⟩ (by kernel_rfl) ?_
        cases h2 : (decide (y4 < x0))
        · have H := bifF h2 H
          refine Tr.cond (b := false) (by kernel_rfl) (fun h => nomatch h) (fun _ => ?_)
          refine Tr.exit ?_
          refine And.intro (fun _ => ?_) (fun h => absurd rfl h)
          have H := Option.some.inj H
          subst H
          have H := Ho7
          dsimp only at H
          exact Exists.intro y5 (And.intro H (St.sub_of [3, 2] [3, 2] (by kernel_rfl)))
        · have H := bifT h2 H
          refine Tr.cond (b := true) (by kernel_rfl) (fun _ => ?_) (fun h => nomatch h)
          refine Tr.skip ?_
          show Tr _ _ _ _ _
          refine Tr.seq ?_
          refine Tr.block ?_
          refine Tr.at ?_
          refine LAt.runU tOk 3 (by kernel_rfl) ?_
          obtain ⟨hg8, H⟩ := guard_some H
          refine LAt.appMU tOk (t := 23) (ty := 23) (e := 3) (x := (.tmp 19)) (y := (.tmp 20)) (d := 21) (g := none) ⟨.int .i64, 1, 8, [.lit (.int .i64 0)]⟩ intRow y5 [1] (by kernel_rfl) (by kernel_rfl) (by kernel_rfl) (by kernel_rfl) (by kernel_rfl) (by kernel_rfl) (by kernel_rfl) (by kernel_rfl) (by kernel_rfl) (by kernel_rfl) hg8 ?_
          refine LAt.runU tOk 2 (by kernel_rfl) ?_
          refine LAt.doneU [22, 18, 17, 16, 15, 3, 2] [3, 2] (by kernel_rfl) ?_
          show Tr _ _ _ _ _
          refine Tr.at ?_
          refine LAt.runU tOk 2 (by kernel_rfl) ?_
          refine LAt.doneU [16, 23, 22, 18, 17, 15, 3, 2] [3, 2] (by kernel_rfl) ?_
          exact Exists.intro (mo7, ((IntKind.wrap .i64 (y4 + 1)), (y5 ++ [1]))) (And.intro H (And.intro (Nat.lt_succ_self mo7) (St.sub_of [16, 15, 3, 2] [3, 2] (by kernel_rfl))))
    · rintro y6 H
      have H : (impl_VtabNew_J1 n r2 r3 y6) = some r := H
      unfold impl_VtabNew_J1 at H
      show Tr _ _ _ _ _
      refine Tr.rs ?_
      refine LAt.runU tOk 2 (by kernel_rfl) ?_
      refine LAt.doneU [2] [2] (by kernel_rfl) ?_
      refine Tr.ret ?_
      have H := Option.some.inj H
      subst H
      exact Fin.of _ [(true, [.sl true 3 ([(⟨1, r2, r3⟩ : Vrow)].map Vrow.row), .sl true 1 (y6.map intRow)])] (by kernel_rfl) rfl rfl
  · have H := bifT h1 H
    refine Tr.cond (b := true) (by kernel_rfl) (fun _ => ?_) (fun h => nomatch h)
    refine Tr.rs ?_
    refine LAt.runU tOk 2 (by kernel_rfl) ?_
    refine LAt.doneU [2, 0] [2] (by kernel_rfl) ?_
    refine Tr.ret ?_
    have H := Option.some.inj H
    subst H
    exact Fin.of _ [(true, [.sl true 3 (([] : List Vrow).map Vrow.row), .sl true 1 (([] : List Int).map intRow)])] (by kernel_rfl) rfl rfl

def impl_BridgeNew_J1 (n : Nat) (r3 : Vtab) (x0 : Int) (y6 : (List Pt)) : Option (Bridge) :=
  (some (⟨x0, (⟨#[]⟩ : ByteArray), y6, ([] : List Fent), r3, 0, 0, 0, 0, 0⟩ : Bridge))
def impl_BridgeNew_L2 (n : Nat) : Nat → Int → Int → (List Pt) → Option (((List Pt)) ⊕ (Bridge))
  | 0, _, _, _ => none
  | mo7 + 1, x1, y4, y5 => (bif (decide (y4 < x1)) then (bif (decide (y5.length + [(⟨false, 1, false, (⟨0, 0, 0, 0, 0⟩ : Vec)⟩ : Pt)].length ≤ 268435456)) then (impl_BridgeNew_L2 n mo7 x1 (IntKind.wrap .i64 (y4 + 1)) (y5 ++ [(⟨false, 1, false, (⟨0, 0, 0, 0, 0⟩ : Vec)⟩ : Pt)])) else none) else (some (Sum.inl y5)))
def impl_BridgeNewF (n : Nat) (x0 : Int) (x1 : Int) : Option (Bridge) :=
  ((impl_inF n x0 1 99).bind fun r1 => (bif (!r1) then (some (⟨0, (⟨#[]⟩ : ByteArray), ([] : List Pt), ([] : List Fent), (⟨([] : List Vrow), ([] : List Int)⟩ : Vtab), 0, 0, 0, 0, 0⟩ : Bridge)) else ((impl_inF n x1 1 6).bind fun r2 => (bif (!r2) then (some (⟨0, (⟨#[]⟩ : ByteArray), ([] : List Pt), ([] : List Fent), (⟨([] : List Vrow), ([] : List Int)⟩ : Vtab), 0, 0, 0, 0, 0⟩ : Bridge)) else ((impl_VtabNewF n x1).bind fun r3 => ((impl_BridgeNew_L2 n n x1 0 ([] : List Pt)).bind fun o => match o with | .inl y6 => (impl_BridgeNew_J1 n r3 x0 y6) | .inr r => some r))))))
/-- loop.example/g00326/impl.BridgeNew -/
theorem impl_BridgeNew (n : Nat) (x0 : Int) (x1 : Int) (r : Bridge) (H : impl_BridgeNewF n x0 x1 = some r) : LCall Try.prog 57 [.val false [.lit (.int .i64 x0)], .val false [.lit (.int .i64 x1)]] [.val true (Bridge.row r)] [] := by
  refine LCall.of_body tOk Try.func57 rfl (c := (.seq (.region 0 (rg Try.f57 0) false) (.seq (.seq (.region 1 (rg Try.f57 1) false) (.cond (.tmp 13) (.seq (.region 2 (rg Try.f57 2) false) .ret) .skip)) (.seq (.region 3 (rg Try.f57 3) false) (.seq (.seq (.region 4 (rg Try.f57 4) false) (.block 0 (.loop (.seq (.region 5 (rg Try.f57 5) false) (.seq (.cond (.tmp 21) .skip (.exit 0)) (.seq (.block 1 (.region 6 (rg Try.f57 6) false)) (.region 7 (rg Try.f57 7) false))))))) (.seq (.region 8 (rg Try.f57 8) false) .ret)))))) (by kernel_rfl) (Nat.le_of_ble_eq_true (by kernel_rfl)) 0 (rs := [.cell 4 79]) rfl [] .nil [(true, (Bridge.row r))] [] [] fun cx => ?_
  show Tr _ _ _ ⟨30, 0, [(0, .val false [.lit (.int .i64 x0)]), (1, .val false [.lit (.int .i64 x1)])], []⟩ _
  unfold impl_BridgeNewF at H
  refine Tr.rs ?_
  refine LAt.runU tOk 1 (by kernel_rfl) ?_
  refine LAt.doneU [4, 0, 1] [4] (by kernel_rfl) ?_
  refine Tr.seq ?_
  refine Tr.rs ?_
  refine LAt.runU tOk 1 (by kernel_rfl) ?_
  obtain ⟨r1, er1, H⟩ := bind_some H
  refine LAt.callU tOk [.rd, .rd, .rd] (f := 82) (av := #[.tmp 6, .const (.int .i64 1), .const (.int .i64 99)]) (ats := #[3, 3, 3]) (d := (some 7)) (ty := 4) (g := none) (by kernel_rfl) (by kernel_rfl) (by kernel_rfl) [] (impl_in n x0 1 99 r1 er1) (by kernel_rfl) (.inl rfl) ?_
  refine LAt.runU tOk 2 (by kernel_rfl) ?_
  refine LAt.to ⟨30, 0, [(9, .val false [.lit (.bool (!r1))]), (8, .val false [.lit (.bool (!r1))]), (7, .val false [.lit (.bool r1)]), (6, .val false [.lit (.int .i64 x0)]), (4, .adr (.box 4) [(0, 0)] 11 0), (0, .val false [.lit (.int .i64 x0)]), (1, .val false [.lit (.int .i64 x1)])], [(4, [.lit (.int .i64 0), .lit (.string (⟨#[]⟩ : ByteArray)), .sl true 8 (([] : List Pt).map Pt.row), .sl true 5 (([] : List Fent).map Fent.row), .sl true 3 (([] : List Vrow).map Vrow.row), .sl true 1 (([] : List Int).map intRow), .lit (.int .i64 0), .lit (.int .i64 0), .lit (.int .i64 0), .lit (.int .i64 0), .lit (.int .i64 0)])]⟩ (by kernel_rfl) ?_
  cases h1 : (!r1)
  · have H := bifF h1 H
    refine LAt.runU tOk 1 (by kernel_rfl) ?_
    obtain ⟨r2, er2, H⟩ := bind_some H
    refine LAt.callU tOk [.rd, .rd, .rd] (f := 82) (av := #[.tmp 10, .const (.int .i64 1), .const (.int .i64 6)]) (ats := #[3, 3, 3]) (d := (some 11)) (ty := 4) (g := (some (3, false))) (by kernel_rfl) (by kernel_rfl) (by kernel_rfl) [] (impl_in n x1 1 6 r2 er2) (by kernel_rfl) (.inl rfl) ?_
    refine LAt.runU tOk 2 (by kernel_rfl) ?_
    refine LAt.doneU [13, 4, 0, 1] [4] (by kernel_rfl) ?_
    refine Tr.to ⟨30, 0, [(13, .val false [.lit (.bool (!r2))]), (4, .adr (.box 4) [(0, 0)] 11 0), (0, .val false [.lit (.int .i64 x0)]), (1, .val false [.lit (.int .i64 x1)])], [(4, [.lit (.int .i64 0), .lit (.string (⟨#[]⟩ : ByteArray)), .sl true 8 (([] : List Pt).map Pt.row), .sl true 5 (([] : List Fent).map Fent.row), .sl true 3 (([] : List Vrow).map Vrow.row), .sl true 1 (([] : List Int).map intRow), .lit (.int .i64 0), .lit (.int .i64 0), .lit (.int .i64 0), .lit (.int .i64 0), .lit (.int .i64 0)])]⟩ (by kernel_rfl) ?_
    cases h2 : (!r2)
    · have H := bifF h2 H
      refine Tr.cond (b := false) (by kernel_rfl) (fun h => nomatch h) (fun _ => ?_)
      refine Tr.skip ?_
      show Tr _ _ _ _ _
      refine Tr.rs ?_
      refine LAt.runU tOk 2 (by kernel_rfl) ?_
      obtain ⟨r3, er3, H⟩ := bind_some H
      refine LAt.callU tOk [.rd] (f := 45) (av := #[.tmp 16]) (ats := #[3]) (d := (some 17)) (ty := 29) (g := none) (by kernel_rfl) (by kernel_rfl) (by kernel_rfl) [] (impl_VtabNew n x1 r3 er3) (by kernel_rfl) (.inl rfl) ?_
      refine LAt.runU tOk 3 (by kernel_rfl) ?_
      refine LAt.doneU [5, 4, 1] [5, 4] (by kernel_rfl) ?_
      refine Tr.seq ?_
      refine Tr.rs ?_
      refine LAt.runU tOk 2 (by kernel_rfl) ?_
      refine LAt.doneU [20, 19, 5, 4] [5, 4] (by kernel_rfl) ?_
      obtain ⟨o7, eo7, Ho7⟩ := bind_some H
      clear H
      refine Tr.mid (ι := (List Pt)) (fun v => ⟨30, 0, [(5, .adr (.box 5) [(0, 0)] 11 0), (4, .adr (.box 4) [(0, 0)] 11 0)], [(5, [.lit (.int .i64 x0), .lit (.string (⟨#[]⟩ : ByteArray)), .sl true 8 (v.map Pt.row), .sl true 5 (([] : List Fent).map Fent.row), .sl true 3 (r3.Rows.map Vrow.row), .sl true 1 (r3.Pvid.map intRow), .lit (.int .i64 0), .lit (.int .i64 0), .lit (.int .i64 0), .lit (.int .i64 0), .lit (.int .i64 0)]), (4, [.lit (.int .i64 0), .lit (.string (⟨#[]⟩ : ByteArray)), .sl true 8 (([] : List Pt).map Pt.row), .sl true 5 (([] : List Fent).map Fent.row), .sl true 3 (([] : List Vrow).map Vrow.row), .sl true 1 (([] : List Int).map intRow), .lit (.int .i64 0), .lit (.int .i64 0), .lit (.int .i64 0), .lit (.int .i64 0), .lit (.int .i64 0)])]⟩) (fun v => impl_BridgeNew_J1 n r3 x0 v = some r) ?_ ?_
      · refine Tr.block ?_
        refine Tr.loop (ι := Nat × (Int × (List Pt))) (fun v => ⟨30, 0, [(20, .val false [.lit (.int .i64 v.2.1)]), (19, .val false [.lit (.int .i64 x1)]), (5, .adr (.box 5) [(0, 0)] 11 0), (4, .adr (.box 4) [(0, 0)] 11 0)], [(5, [.lit (.int .i64 x0), .lit (.string (⟨#[]⟩ : ByteArray)), .sl true 8 (v.2.2.map Pt.row), .sl true 5 (([] : List Fent).map Fent.row), .sl true 3 (r3.Rows.map Vrow.row), .sl true 1 (r3.Pvid.map intRow), .lit (.int .i64 0), .lit (.int .i64 0), .lit (.int .i64 0), .lit (.int .i64 0), .lit (.int .i64 0)]), (4, [.lit (.int .i64 0), .lit (.string (⟨#[]⟩ : ByteArray)), .sl true 8 (([] : List Pt).map Pt.row), .sl true 5 (([] : List Fent).map Fent.row), .sl true 3 (([] : List Vrow).map Vrow.row), .sl true 1 (([] : List Int).map intRow), .lit (.int .i64 0), .lit (.int .i64 0), .lit (.int .i64 0), .lit (.int .i64 0), .lit (.int .i64 0)])]⟩) (fun v => impl_BridgeNew_L2 n v.1 x1 v.2.1 v.2.2 = some o7) (fun v => v.1) (n, (0, ([] : List Pt))) eo7 (St.sub_of [20, 19, 5, 4] [5, 4] (by kernel_rfl)) ?_
        rintro ⟨mo7, y4, y5⟩ H
        have H : impl_BridgeNew_L2 n mo7 x1 y4 y5 = some o7 := H
        obtain _ | mo7 := mo7
        · cases (show (none : Option _) = some o7 from H)
        · rw [impl_BridgeNew_L2] at H
          refine Tr.rs ?_
          refine LAt.runU tOk 1 (by kernel_rfl) ?_
          refine LAt.doneU [21, 20, 19, 5, 4] [5, 4] (by kernel_rfl) ?_
          refine Tr.seq ?_
          refine Tr.to ⟨30, 0, [(21, .val false [.lit (.bool (decide (y4 < x1)))]), (20, .val false [.lit (.int .i64 y4)]), (19, .val false [.lit (.int .i64 x1)]), (5, .adr (.box 5) [(0, 0)] 11 0), (4, .adr (.box 4) [(0, 0)] 11 0)], [(5, [.lit (.int .i64 x0), .lit (.string (⟨#[]⟩ : ByteArray)), .sl true 8 (y5.map Pt.row), .sl true 5 (([] : List Fent).map Fent.row), .sl true 3 (r3.Rows.map Vrow.row), .sl true 1 (r3.Pvid.map intRow), .lit (.int .i64 0), .lit (.int .i64 0), .lit (.int .i64 0), .lit (.int .i64 0), .lit (.int .i64 0)]), (4, [.lit (.int .i64 0), .lit (.string (⟨#[]⟩ : ByteArray)), .sl true 8 (([] : List Pt).map Pt.row), .sl true 5 (([] : List Fent).map Fent.row), .sl true 3 (([] : List Vrow).map Vrow.row), .sl true 1 (([] : List Int).map intRow), .lit (.int .i64 0), .lit (.int .i64 0), .lit (.int .i64 0), .lit (.int .i64 0), .lit (.int .i64 0)])]⟩ (by kernel_rfl) ?_
          cases h3 : (decide (y4 < x1))
          · have H := bifF h3 H
            refine Tr.cond (b := false) (by kernel_rfl) (fun h => nomatch h) (fun _ => ?_)
            refine Tr.exit ?_
            refine And.intro (fun _ => ?_) (fun h => absurd rfl h)
            have H := Option.some.inj H
            subst H
            have H := Ho7
            dsimp only at H
            exact Exists.intro y5 (And.intro H (St.sub_of [5, 4] [5, 4] (by kernel_rfl)))
          · have H := bifT h3 H
            refine Tr.cond (b := true) (by kernel_rfl) (fun _ => ?_) (fun h => nomatch h)
            refine Tr.skip ?_
            show Tr _ _ _ _ _
            refine Tr.seq ?_
            refine Tr.block ?_
            refine Tr.at ?_
            refine LAt.runU tOk 4 (by kernel_rfl) ?_
            obtain ⟨hg8, H⟩ := guard_some H
            refine LAt.appMU tOk (t := 43) (ty := 43) (e := 41) (x := (.tmp 23)) (y := (.tmp 25)) (d := 26) (g := none) ⟨.st [(0, 1, 4), (1, 1, 3), (2, 1, 4), (3, 5, 39)], 8, 64, [.lit (.bool false), .lit (.int .i64 0), .lit (.bool false), .lit (.int .i64 0), .lit (.int .i64 0), .lit (.int .i64 0), .lit (.int .i64 0), .lit (.int .i64 0)]⟩ Pt.row y5 [(⟨false, 1, false, (⟨0, 0, 0, 0, 0⟩ : Vec)⟩ : Pt)] (by kernel_rfl) (by kernel_rfl) (by kernel_rfl) (by kernel_rfl) (by kernel_rfl) (by kernel_rfl) (by kernel_rfl) (by kernel_rfl) (by kernel_rfl) (by kernel_rfl) hg8 ?_
            refine LAt.runU tOk 2 (by kernel_rfl) ?_
            refine LAt.doneU [27, 24, 22, 21, 20, 19, 5, 4] [5, 4] (by kernel_rfl) ?_
            show Tr _ _ _ _ _
            refine Tr.at ?_
            refine LAt.runU tOk 2 (by kernel_rfl) ?_
            refine LAt.doneU [20, 28, 27, 24, 22, 21, 19, 5, 4] [5, 4] (by kernel_rfl) ?_
            exact Exists.intro (mo7, ((IntKind.wrap .i64 (y4 + 1)), (y5 ++ [(⟨false, 1, false, (⟨0, 0, 0, 0, 0⟩ : Vec)⟩ : Pt)]))) (And.intro H (And.intro (Nat.lt_succ_self mo7) (St.sub_of [20, 19, 5, 4] [5, 4] (by kernel_rfl))))
      · rintro y6 H
        have H : (impl_BridgeNew_J1 n r3 x0 y6) = some r := H
        unfold impl_BridgeNew_J1 at H
        show Tr _ _ _ _ _
        refine Tr.rs ?_
        refine LAt.runU tOk 2 (by kernel_rfl) ?_
        refine LAt.doneU [4] [4] (by kernel_rfl) ?_
        refine Tr.ret ?_
        have H := Option.some.inj H
        subst H
        exact Fin.of _ [(true, [.lit (.int .i64 x0), .lit (.string (⟨#[]⟩ : ByteArray)), .sl true 8 (y6.map Pt.row), .sl true 5 (([] : List Fent).map Fent.row), .sl true 3 (r3.Rows.map Vrow.row), .sl true 1 (r3.Pvid.map intRow), .lit (.int .i64 0), .lit (.int .i64 0), .lit (.int .i64 0), .lit (.int .i64 0), .lit (.int .i64 0)])] (by kernel_rfl) rfl rfl
    · have H := bifT h2 H
      refine Tr.cond (b := true) (by kernel_rfl) (fun _ => ?_) (fun h => nomatch h)
      refine Tr.rs ?_
      refine LAt.runU tOk 2 (by kernel_rfl) ?_
      refine LAt.doneU [4, 0, 1] [4] (by kernel_rfl) ?_
      refine Tr.ret ?_
      have H := Option.some.inj H
      subst H
      exact Fin.of _ [(true, [.lit (.int .i64 0), .lit (.string (⟨#[]⟩ : ByteArray)), .sl true 8 (([] : List Pt).map Pt.row), .sl true 5 (([] : List Fent).map Fent.row), .sl true 3 (([] : List Vrow).map Vrow.row), .sl true 1 (([] : List Int).map intRow), .lit (.int .i64 0), .lit (.int .i64 0), .lit (.int .i64 0), .lit (.int .i64 0), .lit (.int .i64 0)])] (by kernel_rfl) rfl rfl
  · have H := bifT h1 H
    refine LAt.runU tOk 4 (by kernel_rfl) ?_
    refine LAt.doneU [13, 4, 0, 1] [4] (by kernel_rfl) ?_
    refine Tr.cond (b := true) (by kernel_rfl) (fun _ => ?_) (fun h => nomatch h)
    refine Tr.rs ?_
    refine LAt.runU tOk 2 (by kernel_rfl) ?_
    refine LAt.doneU [4, 0, 1] [4] (by kernel_rfl) ?_
    refine Tr.ret ?_
    have H := Option.some.inj H
    subst H
    exact Fin.of _ [(true, [.lit (.int .i64 0), .lit (.string (⟨#[]⟩ : ByteArray)), .sl true 8 (([] : List Pt).map Pt.row), .sl true 5 (([] : List Fent).map Fent.row), .sl true 3 (([] : List Vrow).map Vrow.row), .sl true 1 (([] : List Int).map intRow), .lit (.int .i64 0), .lit (.int .i64 0), .lit (.int .i64 0), .lit (.int .i64 0), .lit (.int .i64 0)])] (by kernel_rfl) rfl rfl

def laws_eqVecF (n : Nat) (x0 : Vec) (x1 : Vec) : Option (Bool) :=
  (bif (x0.Root != x1.Root) then (some false) else (bif (x0.Cost != x1.Cost) then (some false) else (bif (x0.Hops != x1.Hops) then (some false) else (bif (x0.Bridge != x1.Bridge) then (some false) else (bif (x0.Port != x1.Port) then (some false) else (some true))))))
/-- loop.example/g00326/laws.eqVec -/
theorem laws_eqVec (n : Nat) (x0 : Vec) (x1 : Vec) (r : Bool) (H : laws_eqVecF n x0 x1 = some r) : LCall Try.prog 178 [.val true (CV.frzRow (Vec.row x0)), .val true (CV.frzRow (Vec.row x1))] [.val false [.lit (.bool r)]] [] := by
  refine LCall.of_body tOk Try.func178 rfl (c := (.seq (.region 0 (rg Try.f178 0) false) (.seq (.seq (.region 1 (rg Try.f178 1) false) (.cond (.tmp 9) (.seq (.region 2 (rg Try.f178 2) false) .ret) .skip)) (.seq (.seq (.region 3 (rg Try.f178 3) false) (.cond (.tmp 14) (.seq (.region 4 (rg Try.f178 4) false) .ret) .skip)) (.seq (.seq (.region 5 (rg Try.f178 5) false) (.cond (.tmp 19) (.seq (.region 6 (rg Try.f178 6) false) .ret) .skip)) (.seq (.seq (.region 7 (rg Try.f178 7) false) (.cond (.tmp 24) (.seq (.region 8 (rg Try.f178 8) false) .ret) .skip)) (.seq (.seq (.region 9 (rg Try.f178 9) false) (.cond (.tmp 29) (.seq (.region 10 (rg Try.f178 10) false) .ret) .skip)) (.seq (.region 11 (rg Try.f178 11) false) .ret)))))))) (by kernel_rfl) (Nat.le_of_ble_eq_true (by kernel_rfl)) 0 (rs := [.tmp 4]) rfl [] .nil [(false, [.lit (.bool r)])] [] [] fun cx => ?_
  show Tr _ _ _ ⟨30, 0, [(0, .val true (Vec.row x0)), (1, .val true (Vec.row x1))], []⟩ _
  unfold laws_eqVecF at H
  refine Tr.rs ?_
  refine LAt.runU tOk 3 (by kernel_rfl) ?_
  refine LAt.doneU [4, 3, 2] [3, 2] (by kernel_rfl) ?_
  refine Tr.seq ?_
  refine Tr.rs ?_
  refine LAt.runU tOk 5 (by kernel_rfl) ?_
  refine LAt.doneU [9, 4, 3, 2] [3, 2] (by kernel_rfl) ?_
  refine Tr.to ⟨30, 0, [(9, .val false [.lit (.bool (x0.Root != x1.Root))]), (4, .val false [.lit (.bool false)]), (3, .adr (.box 3) [(0, 0)] 5 0), (2, .adr (.box 2) [(0, 0)] 5 0)], [(3, (Vec.row x1)), (2, (Vec.row x0))]⟩ (by kernel_rfl) ?_
  cases h1 : (x0.Root != x1.Root)
  · have H := bifF h1 H
    refine Tr.cond (b := false) (by kernel_rfl) (fun h => nomatch h) (fun _ => ?_)
    refine Tr.skip ?_
    show Tr _ _ _ _ _
    refine Tr.seq ?_
    refine Tr.rs ?_
    refine LAt.runU tOk 5 (by kernel_rfl) ?_
    refine LAt.doneU [14, 4, 3, 2] [3, 2] (by kernel_rfl) ?_
    refine Tr.to ⟨30, 0, [(14, .val false [.lit (.bool (x0.Cost != x1.Cost))]), (4, .val false [.lit (.bool false)]), (3, .adr (.box 3) [(0, 0)] 5 0), (2, .adr (.box 2) [(0, 0)] 5 0)], [(3, (Vec.row x1)), (2, (Vec.row x0))]⟩ (by kernel_rfl) ?_
    cases h2 : (x0.Cost != x1.Cost)
    · have H := bifF h2 H
      refine Tr.cond (b := false) (by kernel_rfl) (fun h => nomatch h) (fun _ => ?_)
      refine Tr.skip ?_
      show Tr _ _ _ _ _
      refine Tr.seq ?_
      refine Tr.rs ?_
      refine LAt.runU tOk 5 (by kernel_rfl) ?_
      refine LAt.doneU [19, 4, 3, 2] [3, 2] (by kernel_rfl) ?_
      refine Tr.to ⟨30, 0, [(19, .val false [.lit (.bool (x0.Hops != x1.Hops))]), (4, .val false [.lit (.bool false)]), (3, .adr (.box 3) [(0, 0)] 5 0), (2, .adr (.box 2) [(0, 0)] 5 0)], [(3, (Vec.row x1)), (2, (Vec.row x0))]⟩ (by kernel_rfl) ?_
      cases h3 : (x0.Hops != x1.Hops)
      · have H := bifF h3 H
        refine Tr.cond (b := false) (by kernel_rfl) (fun h => nomatch h) (fun _ => ?_)
        refine Tr.skip ?_
        show Tr _ _ _ _ _
        refine Tr.seq ?_
        refine Tr.rs ?_
        refine LAt.runU tOk 5 (by kernel_rfl) ?_
        refine LAt.doneU [24, 4, 3, 2] [3, 2] (by kernel_rfl) ?_
        refine Tr.to ⟨30, 0, [(24, .val false [.lit (.bool (x0.Bridge != x1.Bridge))]), (4, .val false [.lit (.bool false)]), (3, .adr (.box 3) [(0, 0)] 5 0), (2, .adr (.box 2) [(0, 0)] 5 0)], [(3, (Vec.row x1)), (2, (Vec.row x0))]⟩ (by kernel_rfl) ?_
        cases h4 : (x0.Bridge != x1.Bridge)
        · have H := bifF h4 H
          refine Tr.cond (b := false) (by kernel_rfl) (fun h => nomatch h) (fun _ => ?_)
          refine Tr.skip ?_
          show Tr _ _ _ _ _
          refine Tr.seq ?_
          refine Tr.rs ?_
          refine LAt.runU tOk 5 (by kernel_rfl) ?_
          refine LAt.doneU [29, 4] [] (by kernel_rfl) ?_
          refine Tr.to ⟨30, 0, [(29, .val false [.lit (.bool (x0.Port != x1.Port))]), (4, .val false [.lit (.bool false)])], []⟩ (by kernel_rfl) ?_
          cases h5 : (x0.Port != x1.Port)
          · have H := bifF h5 H
            refine Tr.cond (b := false) (by kernel_rfl) (fun h => nomatch h) (fun _ => ?_)
            refine Tr.skip ?_
            show Tr _ _ _ _ _
            refine Tr.rs ?_
            refine LAt.runU tOk 1 (by kernel_rfl) ?_
            refine LAt.doneU [4] [] (by kernel_rfl) ?_
            refine Tr.ret ?_
            have H := Option.some.inj H
            subst H
            exact Fin.of _ [(false, [.lit (.bool true)])] (by kernel_rfl) rfl rfl
          · have H := bifT h5 H
            refine Tr.cond (b := true) (by kernel_rfl) (fun _ => ?_) (fun h => nomatch h)
            refine Tr.rs ?_
            refine LAt.runU tOk 1 (by kernel_rfl) ?_
            refine LAt.doneU [4] [] (by kernel_rfl) ?_
            refine Tr.ret ?_
            have H := Option.some.inj H
            subst H
            exact Fin.of _ [(false, [.lit (.bool false)])] (by kernel_rfl) rfl rfl
        · have H := bifT h4 H
          refine Tr.cond (b := true) (by kernel_rfl) (fun _ => ?_) (fun h => nomatch h)
          refine Tr.rs ?_
          refine LAt.runU tOk 1 (by kernel_rfl) ?_
          refine LAt.doneU [4, 3, 2] [3, 2] (by kernel_rfl) ?_
          refine Tr.ret ?_
          have H := Option.some.inj H
          subst H
          exact Fin.of _ [(false, [.lit (.bool false)])] (by kernel_rfl) rfl rfl
      · have H := bifT h3 H
        refine Tr.cond (b := true) (by kernel_rfl) (fun _ => ?_) (fun h => nomatch h)
        refine Tr.rs ?_
        refine LAt.runU tOk 1 (by kernel_rfl) ?_
        refine LAt.doneU [4, 3, 2] [3, 2] (by kernel_rfl) ?_
        refine Tr.ret ?_
        have H := Option.some.inj H
        subst H
        exact Fin.of _ [(false, [.lit (.bool false)])] (by kernel_rfl) rfl rfl
    · have H := bifT h2 H
      refine Tr.cond (b := true) (by kernel_rfl) (fun _ => ?_) (fun h => nomatch h)
      refine Tr.rs ?_
      refine LAt.runU tOk 1 (by kernel_rfl) ?_
      refine LAt.doneU [4, 3, 2] [3, 2] (by kernel_rfl) ?_
      refine Tr.ret ?_
      have H := Option.some.inj H
      subst H
      exact Fin.of _ [(false, [.lit (.bool false)])] (by kernel_rfl) rfl rfl
  · have H := bifT h1 H
    refine Tr.cond (b := true) (by kernel_rfl) (fun _ => ?_) (fun h => nomatch h)
    refine Tr.rs ?_
    refine LAt.runU tOk 1 (by kernel_rfl) ?_
    refine LAt.doneU [4, 3, 2] [3, 2] (by kernel_rfl) ?_
    refine Tr.ret ?_
    have H := Option.some.inj H
    subst H
    exact Fin.of _ [(false, [.lit (.bool false)])] (by kernel_rfl) rfl rfl

def laws_eqPtF (n : Nat) (x0 : Pt) (x1 : Pt) : Option (Bool) :=
  (bif (!(x0.Up == x1.Up)) then (some false) else (bif (x0.Cost != x1.Cost) then (some false) else (bif (!(x0.Has == x1.Has)) then (some false) else ((laws_eqVecF n x0.Heard x1.Heard).bind fun r1 => (bif (!r1) then (some false) else (some true))))))
/-- loop.example/g00326/laws.eqPt -/
theorem laws_eqPt (n : Nat) (x0 : Pt) (x1 : Pt) (r : Bool) (H : laws_eqPtF n x0 x1 = some r) : LCall Try.prog 154 [.val true (CV.frzRow (Pt.row x0)), .val true (CV.frzRow (Pt.row x1))] [.val false [.lit (.bool r)]] [] := by
  refine LCall.of_body tOk Try.func154 rfl (c := (.seq (.region 0 (rg Try.f154 0) false) (.seq (.seq (.region 1 (rg Try.f154 1) false) (.cond (.tmp 9) (.seq (.region 2 (rg Try.f154 2) false) .ret) .skip)) (.seq (.seq (.region 3 (rg Try.f154 3) false) (.cond (.tmp 14) (.seq (.region 4 (rg Try.f154 4) false) .ret) .skip)) (.seq (.seq (.region 5 (rg Try.f154 5) false) (.cond (.tmp 19) (.seq (.region 6 (rg Try.f154 6) false) .ret) .skip)) (.seq (.seq (.region 7 (rg Try.f154 7) false) (.cond (.tmp 25) (.seq (.region 8 (rg Try.f154 8) false) .ret) .skip)) (.seq (.region 9 (rg Try.f154 9) false) .ret))))))) (by kernel_rfl) (Nat.le_of_ble_eq_true (by kernel_rfl)) 0 (rs := [.tmp 4]) rfl [] .nil [(false, [.lit (.bool r)])] [] [] fun cx => ?_
  show Tr _ _ _ ⟨26, 0, [(0, .val true (Pt.row x0)), (1, .val true (Pt.row x1))], []⟩ _
  unfold laws_eqPtF at H
  refine Tr.rs ?_
  refine LAt.runU tOk 3 (by kernel_rfl) ?_
  refine LAt.doneU [4, 3, 2] [3, 2] (by kernel_rfl) ?_
  refine Tr.seq ?_
  refine Tr.rs ?_
  refine LAt.runU tOk 5 (by kernel_rfl) ?_
  refine LAt.doneU [9, 4, 3, 2] [3, 2] (by kernel_rfl) ?_
  refine Tr.to ⟨26, 0, [(9, .val false [.lit (.bool (!(x0.Up == x1.Up)))]), (4, .val false [.lit (.bool false)]), (3, .adr (.box 3) [(0, 0)] 8 0), (2, .adr (.box 2) [(0, 0)] 8 0)], [(3, (Pt.row x1)), (2, (Pt.row x0))]⟩ (by kernel_rfl) ?_
  cases h1 : (!(x0.Up == x1.Up))
  · have H := bifF h1 H
    refine Tr.cond (b := false) (by kernel_rfl) (fun h => nomatch h) (fun _ => ?_)
    refine Tr.skip ?_
    show Tr _ _ _ _ _
    refine Tr.seq ?_
    refine Tr.rs ?_
    refine LAt.runU tOk 5 (by kernel_rfl) ?_
    refine LAt.doneU [14, 4, 3, 2] [3, 2] (by kernel_rfl) ?_
    refine Tr.to ⟨26, 0, [(14, .val false [.lit (.bool (x0.Cost != x1.Cost))]), (4, .val false [.lit (.bool false)]), (3, .adr (.box 3) [(0, 0)] 8 0), (2, .adr (.box 2) [(0, 0)] 8 0)], [(3, (Pt.row x1)), (2, (Pt.row x0))]⟩ (by kernel_rfl) ?_
    cases h2 : (x0.Cost != x1.Cost)
    · have H := bifF h2 H
      refine Tr.cond (b := false) (by kernel_rfl) (fun h => nomatch h) (fun _ => ?_)
      refine Tr.skip ?_
      show Tr _ _ _ _ _
      refine Tr.seq ?_
      refine Tr.rs ?_
      refine LAt.runU tOk 5 (by kernel_rfl) ?_
      refine LAt.doneU [19, 4, 3, 2] [3, 2] (by kernel_rfl) ?_
      refine Tr.to ⟨26, 0, [(19, .val false [.lit (.bool (!(x0.Has == x1.Has)))]), (4, .val false [.lit (.bool false)]), (3, .adr (.box 3) [(0, 0)] 8 0), (2, .adr (.box 2) [(0, 0)] 8 0)], [(3, (Pt.row x1)), (2, (Pt.row x0))]⟩ (by kernel_rfl) ?_
      cases h3 : (!(x0.Has == x1.Has))
      · have H := bifF h3 H
        refine Tr.cond (b := false) (by kernel_rfl) (fun h => nomatch h) (fun _ => ?_)
        refine Tr.skip ?_
        show Tr _ _ _ _ _
        refine Tr.seq ?_
        refine Tr.rs ?_
        refine LAt.runU tOk 4 (by kernel_rfl) ?_
        obtain ⟨r1, er1, H⟩ := bind_some H
        refine LAt.callU tOk [.rd, .rd] (f := 178) (av := #[.tmp 21, .tmp 23]) (ats := #[39, 39]) (d := (some 24)) (ty := 4) (g := none) (by kernel_rfl) (by kernel_rfl) (by kernel_rfl) [] (laws_eqVec n x0.Heard x1.Heard r1 er1) (by kernel_rfl) (.inl rfl) ?_
        refine LAt.runU tOk 1 (by kernel_rfl) ?_
        refine LAt.doneU [25, 4] [] (by kernel_rfl) ?_
        refine Tr.to ⟨26, 0, [(25, .val false [.lit (.bool (!r1))]), (4, .val false [.lit (.bool false)])], []⟩ (by kernel_rfl) ?_
        cases h4 : (!r1)
        · have H := bifF h4 H
          refine Tr.cond (b := false) (by kernel_rfl) (fun h => nomatch h) (fun _ => ?_)
          refine Tr.skip ?_
          show Tr _ _ _ _ _
          refine Tr.rs ?_
          refine LAt.runU tOk 1 (by kernel_rfl) ?_
          refine LAt.doneU [4] [] (by kernel_rfl) ?_
          refine Tr.ret ?_
          have H := Option.some.inj H
          subst H
          exact Fin.of _ [(false, [.lit (.bool true)])] (by kernel_rfl) rfl rfl
        · have H := bifT h4 H
          refine Tr.cond (b := true) (by kernel_rfl) (fun _ => ?_) (fun h => nomatch h)
          refine Tr.rs ?_
          refine LAt.runU tOk 1 (by kernel_rfl) ?_
          refine LAt.doneU [4] [] (by kernel_rfl) ?_
          refine Tr.ret ?_
          have H := Option.some.inj H
          subst H
          exact Fin.of _ [(false, [.lit (.bool false)])] (by kernel_rfl) rfl rfl
      · have H := bifT h3 H
        refine Tr.cond (b := true) (by kernel_rfl) (fun _ => ?_) (fun h => nomatch h)
        refine Tr.rs ?_
        refine LAt.runU tOk 1 (by kernel_rfl) ?_
        refine LAt.doneU [4, 3, 2] [3, 2] (by kernel_rfl) ?_
        refine Tr.ret ?_
        have H := Option.some.inj H
        subst H
        exact Fin.of _ [(false, [.lit (.bool false)])] (by kernel_rfl) rfl rfl
    · have H := bifT h2 H
      refine Tr.cond (b := true) (by kernel_rfl) (fun _ => ?_) (fun h => nomatch h)
      refine Tr.rs ?_
      refine LAt.runU tOk 1 (by kernel_rfl) ?_
      refine LAt.doneU [4, 3, 2] [3, 2] (by kernel_rfl) ?_
      refine Tr.ret ?_
      have H := Option.some.inj H
      subst H
      exact Fin.of _ [(false, [.lit (.bool false)])] (by kernel_rfl) rfl rfl
  · have H := bifT h1 H
    refine Tr.cond (b := true) (by kernel_rfl) (fun _ => ?_) (fun h => nomatch h)
    refine Tr.rs ?_
    refine LAt.runU tOk 1 (by kernel_rfl) ?_
    refine LAt.doneU [4, 3, 2] [3, 2] (by kernel_rfl) ?_
    refine Tr.ret ?_
    have H := Option.some.inj H
    subst H
    exact Fin.of _ [(false, [.lit (.bool false)])] (by kernel_rfl) rfl rfl

def laws_eqPtS_J1 (n : Nat) : Option (Bool) :=
  (some true)
def laws_eqPtS_L2 (n : Nat) : Nat → (List Pt) → (List Pt) → Int → Option ((Unit) ⊕ (Bool))
  | 0, _, _, _ => none
  | mo2 + 1, x0, x1, y1 => (bif (decide (y1 < (x0.length : Int))) then ((idx x0 y1).bind fun v3 => ((idx x1 y1).bind fun v4 => ((laws_eqPtF n v3 v4).bind fun r5 => (bif (!r5) then (some (Sum.inr false)) else (laws_eqPtS_L2 n mo2 x0 x1 (IntKind.wrap .i64 (y1 + 1))))))) else (some (Sum.inl ())))
def laws_eqPtSF (n : Nat) (x0 : (List Pt)) (x1 : (List Pt)) : Option (Bool) :=
  (bif ((x0.length : Int) != (x1.length : Int)) then (some false) else ((laws_eqPtS_L2 n n x0 x1 0).bind fun o => match o with | .inl _ => (laws_eqPtS_J1 n) | .inr r => some r))
/-- loop.example/g00326/laws.eqPtS -/
theorem laws_eqPtS (n : Nat) (x0 : (List Pt)) (x1 : (List Pt)) (r : Bool) (H : laws_eqPtSF n x0 x1 = some r) : LCall Try.prog 120 [.val false [.sl false 8 (CV.frzEs (x0.map Pt.row))], .val false [.sl false 8 (CV.frzEs (x1.map Pt.row))]] [.val false [.lit (.bool r)]] [] := by
  refine LCall.of_body tOk Try.func120 rfl (c := (.seq (.region 0 (rg Try.f120 0) false) (.seq (.seq (.region 1 (rg Try.f120 1) false) (.cond (.tmp 10) (.seq (.region 2 (rg Try.f120 2) false) .ret) .skip)) (.seq (.seq (.region 3 (rg Try.f120 3) false) (.block 0 (.loop (.seq (.seq (.region 4 (rg Try.f120 4) false) (.cond (.tmp 14) .skip (.exit 0))) (.seq (.block 1 (.seq (.region 6 (rg Try.f120 6) true) (.cond (.tmp 26) (.seq (.region 7 (rg Try.f120 7) false) .ret) .skip))) (.region 5 (rg Try.f120 5) false)))))) (.seq (.region 8 (rg Try.f120 8) false) .ret))))) (by kernel_rfl) (Nat.le_of_ble_eq_true (by kernel_rfl)) 0 (rs := [.tmp 4]) rfl [] .nil [(false, [.lit (.bool r)])] [] [] fun cx => ?_
  show Tr _ _ _ ⟨27, 0, [(0, .val false [.sl false 8 (CV.frzEs (x0.map Pt.row))]), (1, .val false [.sl false 8 (CV.frzEs (x1.map Pt.row))])], []⟩ _
  unfold laws_eqPtSF at H
  refine Tr.rs ?_
  refine LAt.runU tOk 1 (by kernel_rfl) ?_
  refine LAt.doneU [4, 0, 1] [] (by kernel_rfl) ?_
  refine Tr.seq ?_
  refine Tr.rs ?_
  refine LAt.runU tOk 1 (by kernel_rfl) ?_
  refine LAt.lenE tOk (t := 43) (ty := 3) (e := 41) (x := (.tmp 6)) (d := 7) (g := none) ⟨(.slot 6), [], 0, false, 8, (CV.frzEs (x0.map Pt.row))⟩ (x0).length _ (by kernel_rfl) (by kernel_rfl) (by kernel_rfl) (by kernel_rfl) (by kernel_rfl) (frz_len _ _) rfl ?_
  refine LAt.runU tOk 1 (by kernel_rfl) ?_
  refine LAt.lenE tOk (t := 43) (ty := 3) (e := 41) (x := (.tmp 8)) (d := 9) (g := none) ⟨(.slot 8), [], 0, false, 8, (CV.frzEs (x1.map Pt.row))⟩ (x1).length _ (by kernel_rfl) (by kernel_rfl) (by kernel_rfl) (by kernel_rfl) (by kernel_rfl) (frz_len _ _) rfl ?_
  refine LAt.runU tOk 1 (by kernel_rfl) ?_
  refine LAt.doneU [10, 4, 0, 1] [] (by kernel_rfl) ?_
  refine Tr.to ⟨27, 0, [(10, .val false [.lit (.bool ((x0.length : Int) != (x1.length : Int)))]), (4, .val false [.lit (.bool false)]), (0, .val false [.sl false 8 (CV.frzEs (x0.map Pt.row))]), (1, .val false [.sl false 8 (CV.frzEs (x1.map Pt.row))])], []⟩ (by kernel_rfl) ?_
  cases h1 : ((x0.length : Int) != (x1.length : Int))
  · have H := bifF h1 H
    refine Tr.cond (b := false) (by kernel_rfl) (fun h => nomatch h) (fun _ => ?_)
    refine Tr.skip ?_
    show Tr _ _ _ _ _
    refine Tr.seq ?_
    refine Tr.rs ?_
    refine LAt.runU tOk 1 (by kernel_rfl) ?_
    refine LAt.doneU [5, 4, 0, 1] [] (by kernel_rfl) ?_
    obtain ⟨o2, eo2, Ho2⟩ := bind_some H
    clear H
    refine Tr.mid (ι := Unit) (fun v => ⟨27, 0, [(4, .val false [.lit (.bool false)])], []⟩) (fun v => laws_eqPtS_J1 n = some r) ?_ ?_
    · refine Tr.block ?_
      refine Tr.loop (ι := Nat × (Int)) (fun v => ⟨27, 0, [(5, .val false [.lit (.int .i64 v.2)]), (4, .val false [.lit (.bool false)]), (0, .val false [.sl false 8 (CV.frzEs (x0.map Pt.row))]), (1, .val false [.sl false 8 (CV.frzEs (x1.map Pt.row))])], []⟩) (fun v => laws_eqPtS_L2 n v.1 x0 x1 v.2 = some o2) (fun v => v.1) (n, 0) eo2 (St.sub_of [5, 4, 0, 1] [] (by kernel_rfl)) ?_
      rintro ⟨mo2, y1⟩ H
      have H : laws_eqPtS_L2 n mo2 x0 x1 y1 = some o2 := H
      obtain _ | mo2 := mo2
      · cases (show (none : Option _) = some o2 from H)
      · rw [laws_eqPtS_L2] at H
        refine Tr.seq ?_
        refine Tr.rs ?_
        refine LAt.runU tOk 2 (by kernel_rfl) ?_
        refine LAt.lenE tOk (t := 43) (ty := 3) (e := 41) (x := (.tmp 12)) (d := 13) (g := none) ⟨(.slot 12), [], 0, false, 8, (CV.frzEs (x0.map Pt.row))⟩ (x0).length _ (by kernel_rfl) (by kernel_rfl) (by kernel_rfl) (by kernel_rfl) (by kernel_rfl) (frz_len _ _) rfl ?_
        refine LAt.runU tOk 1 (by kernel_rfl) ?_
        refine LAt.doneU [14, 13, 12, 11, 5, 4, 0, 1] [] (by kernel_rfl) ?_
        refine Tr.to ⟨27, 0, [(14, .val false [.lit (.bool (decide (y1 < (x0.length : Int))))]), (13, .val false [.lit (.int .i64 (x0.length : Int))]), (12, .val false [.sl false 8 (CV.frzEs (x0.map Pt.row))]), (11, .val false [.lit (.int .i64 y1)]), (5, .val false [.lit (.int .i64 y1)]), (4, .val false [.lit (.bool false)]), (0, .val false [.sl false 8 (CV.frzEs (x0.map Pt.row))]), (1, .val false [.sl false 8 (CV.frzEs (x1.map Pt.row))])], []⟩ (by kernel_rfl) ?_
        cases h2 : (decide (y1 < (x0.length : Int)))
        · have H := bifF h2 H
          refine Tr.cond (b := false) (by kernel_rfl) (fun h => nomatch h) (fun _ => ?_)
          refine Tr.exit ?_
          refine And.intro (fun _ => ?_) (fun h => absurd rfl h)
          have H := Option.some.inj H
          subst H
          have H := Ho2
          dsimp only at H
          exact Exists.intro () (And.intro H (St.sub_of [4] [] (by kernel_rfl)))
        · have H := bifT h2 H
          refine Tr.cond (b := true) (by kernel_rfl) (fun _ => ?_) (fun h => nomatch h)
          refine Tr.skip ?_
          show Tr _ _ _ _ _
          refine Tr.seq ?_
          refine Tr.block ?_
          obtain ⟨v3, ev3, H⟩ := bind_some H
          obtain ⟨v4, ev4, H⟩ := bind_some H
          obtain ⟨r5, er5, H⟩ := bind_some H
          refine Tr.draws mixed 10 (by kernel_rfl) ⟨27, 0, [(26, .val false [.lit (.bool (!r5))]), (25, .val false [.lit (.bool r5)]), (24, .val true (Pt.row v4)), (23, .fad ((Pt.row v4))), (22, .val false [.lit (.int .i64 y1)]), (21, .val false [.sl false 8 (CV.frzEs (x1.map Pt.row))]), (20, .val true (Pt.row v3)), (19, .fad ((Pt.row v3))), (18, .val false [.lit (.int .i64 y1)]), (17, .val false [.sl false 8 (CV.frzEs (x0.map Pt.row))]), (14, .val false [.lit (.bool true)]), (13, .val false [.lit (.int .i64 (x0.length : Int))]), (12, .val false [.sl false 8 (CV.frzEs (x0.map Pt.row))]), (11, .val false [.lit (.int .i64 y1)]), (5, .val false [.lit (.int .i64 y1)]), (4, .val false [.lit (.bool false)]), (0, .val false [.sl false 8 (CV.frzEs (x0.map Pt.row))]), (1, .val false [.sl false 8 (CV.frzEs (x1.map Pt.row))])], []⟩ (fun cx => ?_) ?_
          · refine AT.runU tOk [(0, []), (1, [])] 8 [] [1, 0] rfl (by kernel_rfl) (fun cx => ?_)
            refine AT.indexF tOk 2 (t := 43) (ty := 0) (x := (.tmp 17)) (y := (.tmp 18)) (d := 19) (g := none) ⟨(.slot 17), [], 0, false, 8, (CV.frzEs (x0.map Pt.row))⟩ y1 (Pt.row v3) _ (by kernel_rfl) (by kernel_rfl) (by kernel_rfl) (by kernel_rfl) (by kernel_rfl) (by kernel_rfl) rfl (idx_isF ev3) rfl (fun cx => ?_)
            refine AT.runU tOk [(3, []), (4, []), (5, [])] 4 [] [5, 4, 3, 2, 1, 0] rfl (by kernel_rfl) (fun cx => ?_)
            refine AT.indexF tOk 6 (t := 43) (ty := 0) (x := (.tmp 21)) (y := (.tmp 22)) (d := 23) (g := none) ⟨(.slot 21), [], 0, false, 8, (CV.frzEs (x1.map Pt.row))⟩ y1 (Pt.row v4) _ (by kernel_rfl) (by kernel_rfl) (by kernel_rfl) (by kernel_rfl) (by kernel_rfl) (by kernel_rfl) rfl (idx_isF ev4) rfl (fun cx => ?_)
            refine AT.runU tOk [(7, [])] 2 [] [7, 6, 5, 4, 3, 2, 1, 0] rfl (by kernel_rfl) (fun cx => ?_)
            refine AT.big1 tOk 8 (by kernel_rfl) (by kernel_rfl) ?_
            refine LAt.callU tOk [.rd, .rd] (f := 154) (av := #[.tmp 20, .tmp 24]) (ats := #[41, 41]) (d := (some 25)) (ty := 4) (g := none) (by kernel_rfl) (by kernel_rfl) (by kernel_rfl) [] (laws_eqPt n v3 v4 r5 er5) (by kernel_rfl) (.inl rfl) ?_
            refine LAt.fin (by kernel_rfl) (And.intro (And.intro (by kernel_rfl) (by kernel_rfl)) ?_)
            refine AT.runU tOk [(9, [])] 0 [] [9, 8, 7, 6, 5, 4, 3, 2, 1, 0] rfl (by kernel_rfl) (fun cx => ?_)
            exact AT.done [26, 25, 24, 23, 22, 21, 20, 19, 18, 17, 14, 13, 12, 11, 5, 4, 0, 1] [] _ (by kernel_rfl) (by kernel_rfl) rfl
          · refine Tr.to ⟨27, 0, [(26, .val false [.lit (.bool (!r5))]), (25, .val false [.lit (.bool r5)]), (24, .val true (Pt.row v4)), (23, .fad ((Pt.row v4))), (22, .val false [.lit (.int .i64 y1)]), (21, .val false [.sl false 8 (CV.frzEs (x1.map Pt.row))]), (20, .val true (Pt.row v3)), (19, .fad ((Pt.row v3))), (18, .val false [.lit (.int .i64 y1)]), (17, .val false [.sl false 8 (CV.frzEs (x0.map Pt.row))]), (14, .val false [.lit (.bool true)]), (13, .val false [.lit (.int .i64 (x0.length : Int))]), (12, .val false [.sl false 8 (CV.frzEs (x0.map Pt.row))]), (11, .val false [.lit (.int .i64 y1)]), (5, .val false [.lit (.int .i64 y1)]), (4, .val false [.lit (.bool false)]), (0, .val false [.sl false 8 (CV.frzEs (x0.map Pt.row))]), (1, .val false [.sl false 8 (CV.frzEs (x1.map Pt.row))])], []⟩ (by kernel_rfl) ?_
            cases h3 : (!r5)
            · have H := bifF h3 H
              refine Tr.cond (b := false) (by kernel_rfl) (fun h => nomatch h) (fun _ => ?_)
              refine Tr.skip ?_
              show Tr _ _ _ _ _
              refine Tr.at ?_
              refine LAt.runU tOk 3 (by kernel_rfl) ?_
              refine LAt.doneU [5, 16, 15, 26, 25, 24, 23, 22, 21, 20, 19, 18, 17, 14, 13, 12, 11, 4, 0, 1] [] (by kernel_rfl) ?_
              exact Exists.intro (mo2, (IntKind.wrap .i64 (y1 + 1))) (And.intro H (And.intro (Nat.lt_succ_self mo2) (St.sub_of [5, 4, 0, 1] [] (by kernel_rfl))))
            · have H := bifT h3 H
              refine Tr.cond (b := true) (by kernel_rfl) (fun _ => ?_) (fun h => nomatch h)
              refine Tr.rs ?_
              refine LAt.runU tOk 1 (by kernel_rfl) ?_
              refine LAt.doneU [4, 26, 25, 24, 23, 22, 21, 20, 19, 18, 17, 14, 13, 12, 11, 5, 0, 1] [] (by kernel_rfl) ?_
              refine Tr.ret ?_
              have H := Option.some.inj H
              subst H
              have H := Ho2
              dsimp only at H
              have H := Option.some.inj H
              subst H
              exact Fin.of _ [(false, [.lit (.bool false)])] (by kernel_rfl) rfl rfl
    · rintro _ H
      have H : (laws_eqPtS_J1 n) = some r := H
      unfold laws_eqPtS_J1 at H
      show Tr _ _ _ _ _
      refine Tr.rs ?_
      refine LAt.runU tOk 1 (by kernel_rfl) ?_
      refine LAt.doneU [4] [] (by kernel_rfl) ?_
      refine Tr.ret ?_
      have H := Option.some.inj H
      subst H
      exact Fin.of _ [(false, [.lit (.bool true)])] (by kernel_rfl) rfl rfl
  · have H := bifT h1 H
    refine Tr.cond (b := true) (by kernel_rfl) (fun _ => ?_) (fun h => nomatch h)
    refine Tr.rs ?_
    refine LAt.runU tOk 1 (by kernel_rfl) ?_
    refine LAt.doneU [4, 0, 1] [] (by kernel_rfl) ?_
    refine Tr.ret ?_
    have H := Option.some.inj H
    subst H
    exact Fin.of _ [(false, [.lit (.bool false)])] (by kernel_rfl) rfl rfl

def laws_eqFentF (n : Nat) (x0 : Fent) (x1 : Fent) : Option (Bool) :=
  (bif (x0.Tag != x1.Tag) then (some false) else (bif (x0.Mac != x1.Mac) then (some false) else (bif (x0.Port != x1.Port) then (some false) else (bif (x0.Age != x1.Age) then (some false) else (bif (!(x0.Static == x1.Static)) then (some false) else (some true))))))
/-- loop.example/g00326/laws.eqFent -/
theorem laws_eqFent (n : Nat) (x0 : Fent) (x1 : Fent) (r : Bool) (H : laws_eqFentF n x0 x1 = some r) : LCall Try.prog 155 [.val true (CV.frzRow (Fent.row x0)), .val true (CV.frzRow (Fent.row x1))] [.val false [.lit (.bool r)]] [] := by
  refine LCall.of_body tOk Try.func155 rfl (c := (.seq (.region 0 (rg Try.f155 0) false) (.seq (.seq (.region 1 (rg Try.f155 1) false) (.cond (.tmp 9) (.seq (.region 2 (rg Try.f155 2) false) .ret) .skip)) (.seq (.seq (.region 3 (rg Try.f155 3) false) (.cond (.tmp 14) (.seq (.region 4 (rg Try.f155 4) false) .ret) .skip)) (.seq (.seq (.region 5 (rg Try.f155 5) false) (.cond (.tmp 19) (.seq (.region 6 (rg Try.f155 6) false) .ret) .skip)) (.seq (.seq (.region 7 (rg Try.f155 7) false) (.cond (.tmp 24) (.seq (.region 8 (rg Try.f155 8) false) .ret) .skip)) (.seq (.seq (.region 9 (rg Try.f155 9) false) (.cond (.tmp 29) (.seq (.region 10 (rg Try.f155 10) false) .ret) .skip)) (.seq (.region 11 (rg Try.f155 11) false) .ret)))))))) (by kernel_rfl) (Nat.le_of_ble_eq_true (by kernel_rfl)) 0 (rs := [.tmp 4]) rfl [] .nil [(false, [.lit (.bool r)])] [] [] fun cx => ?_
  show Tr _ _ _ ⟨30, 0, [(0, .val true (Fent.row x0)), (1, .val true (Fent.row x1))], []⟩ _
  unfold laws_eqFentF at H
  refine Tr.rs ?_
  refine LAt.runU tOk 3 (by kernel_rfl) ?_
  refine LAt.doneU [4, 3, 2] [3, 2] (by kernel_rfl) ?_
  refine Tr.seq ?_
  refine Tr.rs ?_
  refine LAt.runU tOk 5 (by kernel_rfl) ?_
  refine LAt.doneU [9, 4, 3, 2] [3, 2] (by kernel_rfl) ?_
  refine Tr.to ⟨30, 0, [(9, .val false [.lit (.bool (x0.Tag != x1.Tag))]), (4, .val false [.lit (.bool false)]), (3, .adr (.box 3) [(0, 0)] 5 0), (2, .adr (.box 2) [(0, 0)] 5 0)], [(3, (Fent.row x1)), (2, (Fent.row x0))]⟩ (by kernel_rfl) ?_
  cases h1 : (x0.Tag != x1.Tag)
  · have H := bifF h1 H
    refine Tr.cond (b := false) (by kernel_rfl) (fun h => nomatch h) (fun _ => ?_)
    refine Tr.skip ?_
    show Tr _ _ _ _ _
    refine Tr.seq ?_
    refine Tr.rs ?_
    refine LAt.runU tOk 5 (by kernel_rfl) ?_
    refine LAt.doneU [14, 4, 3, 2] [3, 2] (by kernel_rfl) ?_
    refine Tr.to ⟨30, 0, [(14, .val false [.lit (.bool (x0.Mac != x1.Mac))]), (4, .val false [.lit (.bool false)]), (3, .adr (.box 3) [(0, 0)] 5 0), (2, .adr (.box 2) [(0, 0)] 5 0)], [(3, (Fent.row x1)), (2, (Fent.row x0))]⟩ (by kernel_rfl) ?_
    cases h2 : (x0.Mac != x1.Mac)
    · have H := bifF h2 H
      refine Tr.cond (b := false) (by kernel_rfl) (fun h => nomatch h) (fun _ => ?_)
      refine Tr.skip ?_
      show Tr _ _ _ _ _
      refine Tr.seq ?_
      refine Tr.rs ?_
      refine LAt.runU tOk 5 (by kernel_rfl) ?_
      refine LAt.doneU [19, 4, 3, 2] [3, 2] (by kernel_rfl) ?_
      refine Tr.to ⟨30, 0, [(19, .val false [.lit (.bool (x0.Port != x1.Port))]), (4, .val false [.lit (.bool false)]), (3, .adr (.box 3) [(0, 0)] 5 0), (2, .adr (.box 2) [(0, 0)] 5 0)], [(3, (Fent.row x1)), (2, (Fent.row x0))]⟩ (by kernel_rfl) ?_
      cases h3 : (x0.Port != x1.Port)
      · have H := bifF h3 H
        refine Tr.cond (b := false) (by kernel_rfl) (fun h => nomatch h) (fun _ => ?_)
        refine Tr.skip ?_
        show Tr _ _ _ _ _
        refine Tr.seq ?_
        refine Tr.rs ?_
        refine LAt.runU tOk 5 (by kernel_rfl) ?_
        refine LAt.doneU [24, 4, 3, 2] [3, 2] (by kernel_rfl) ?_
        refine Tr.to ⟨30, 0, [(24, .val false [.lit (.bool (x0.Age != x1.Age))]), (4, .val false [.lit (.bool false)]), (3, .adr (.box 3) [(0, 0)] 5 0), (2, .adr (.box 2) [(0, 0)] 5 0)], [(3, (Fent.row x1)), (2, (Fent.row x0))]⟩ (by kernel_rfl) ?_
        cases h4 : (x0.Age != x1.Age)
        · have H := bifF h4 H
          refine Tr.cond (b := false) (by kernel_rfl) (fun h => nomatch h) (fun _ => ?_)
          refine Tr.skip ?_
          show Tr _ _ _ _ _
          refine Tr.seq ?_
          refine Tr.rs ?_
          refine LAt.runU tOk 5 (by kernel_rfl) ?_
          refine LAt.doneU [29, 4] [] (by kernel_rfl) ?_
          refine Tr.to ⟨30, 0, [(29, .val false [.lit (.bool (!(x0.Static == x1.Static)))]), (4, .val false [.lit (.bool false)])], []⟩ (by kernel_rfl) ?_
          cases h5 : (!(x0.Static == x1.Static))
          · have H := bifF h5 H
            refine Tr.cond (b := false) (by kernel_rfl) (fun h => nomatch h) (fun _ => ?_)
            refine Tr.skip ?_
            show Tr _ _ _ _ _
            refine Tr.rs ?_
            refine LAt.runU tOk 1 (by kernel_rfl) ?_
            refine LAt.doneU [4] [] (by kernel_rfl) ?_
            refine Tr.ret ?_
            have H := Option.some.inj H
            subst H
            exact Fin.of _ [(false, [.lit (.bool true)])] (by kernel_rfl) rfl rfl
          · have H := bifT h5 H
            refine Tr.cond (b := true) (by kernel_rfl) (fun _ => ?_) (fun h => nomatch h)
            refine Tr.rs ?_
            refine LAt.runU tOk 1 (by kernel_rfl) ?_
            refine LAt.doneU [4] [] (by kernel_rfl) ?_
            refine Tr.ret ?_
            have H := Option.some.inj H
            subst H
            exact Fin.of _ [(false, [.lit (.bool false)])] (by kernel_rfl) rfl rfl
        · have H := bifT h4 H
          refine Tr.cond (b := true) (by kernel_rfl) (fun _ => ?_) (fun h => nomatch h)
          refine Tr.rs ?_
          refine LAt.runU tOk 1 (by kernel_rfl) ?_
          refine LAt.doneU [4, 3, 2] [3, 2] (by kernel_rfl) ?_
          refine Tr.ret ?_
          have H := Option.some.inj H
          subst H
          exact Fin.of _ [(false, [.lit (.bool false)])] (by kernel_rfl) rfl rfl
      · have H := bifT h3 H
        refine Tr.cond (b := true) (by kernel_rfl) (fun _ => ?_) (fun h => nomatch h)
        refine Tr.rs ?_
        refine LAt.runU tOk 1 (by kernel_rfl) ?_
        refine LAt.doneU [4, 3, 2] [3, 2] (by kernel_rfl) ?_
        refine Tr.ret ?_
        have H := Option.some.inj H
        subst H
        exact Fin.of _ [(false, [.lit (.bool false)])] (by kernel_rfl) rfl rfl
    · have H := bifT h2 H
      refine Tr.cond (b := true) (by kernel_rfl) (fun _ => ?_) (fun h => nomatch h)
      refine Tr.rs ?_
      refine LAt.runU tOk 1 (by kernel_rfl) ?_
      refine LAt.doneU [4, 3, 2] [3, 2] (by kernel_rfl) ?_
      refine Tr.ret ?_
      have H := Option.some.inj H
      subst H
      exact Fin.of _ [(false, [.lit (.bool false)])] (by kernel_rfl) rfl rfl
  · have H := bifT h1 H
    refine Tr.cond (b := true) (by kernel_rfl) (fun _ => ?_) (fun h => nomatch h)
    refine Tr.rs ?_
    refine LAt.runU tOk 1 (by kernel_rfl) ?_
    refine LAt.doneU [4, 3, 2] [3, 2] (by kernel_rfl) ?_
    refine Tr.ret ?_
    have H := Option.some.inj H
    subst H
    exact Fin.of _ [(false, [.lit (.bool false)])] (by kernel_rfl) rfl rfl

def laws_eqFentS_J1 (n : Nat) : Option (Bool) :=
  (some true)
def laws_eqFentS_L2 (n : Nat) : Nat → (List Fent) → (List Fent) → Int → Option ((Unit) ⊕ (Bool))
  | 0, _, _, _ => none
  | mo2 + 1, x0, x1, y1 => (bif (decide (y1 < (x0.length : Int))) then ((idx x0 y1).bind fun v3 => ((idx x1 y1).bind fun v4 => ((laws_eqFentF n v3 v4).bind fun r5 => (bif (!r5) then (some (Sum.inr false)) else (laws_eqFentS_L2 n mo2 x0 x1 (IntKind.wrap .i64 (y1 + 1))))))) else (some (Sum.inl ())))
def laws_eqFentSF (n : Nat) (x0 : (List Fent)) (x1 : (List Fent)) : Option (Bool) :=
  (bif ((x0.length : Int) != (x1.length : Int)) then (some false) else ((laws_eqFentS_L2 n n x0 x1 0).bind fun o => match o with | .inl _ => (laws_eqFentS_J1 n) | .inr r => some r))
/-- loop.example/g00326/laws.eqFentS -/
theorem laws_eqFentS (n : Nat) (x0 : (List Fent)) (x1 : (List Fent)) (r : Bool) (H : laws_eqFentSF n x0 x1 = some r) : LCall Try.prog 121 [.val false [.sl false 5 (CV.frzEs (x0.map Fent.row))], .val false [.sl false 5 (CV.frzEs (x1.map Fent.row))]] [.val false [.lit (.bool r)]] [] := by
  refine LCall.of_body tOk Try.func121 rfl (c := (.seq (.region 0 (rg Try.f121 0) false) (.seq (.seq (.region 1 (rg Try.f121 1) false) (.cond (.tmp 10) (.seq (.region 2 (rg Try.f121 2) false) .ret) .skip)) (.seq (.seq (.region 3 (rg Try.f121 3) false) (.block 0 (.loop (.seq (.seq (.region 4 (rg Try.f121 4) false) (.cond (.tmp 14) .skip (.exit 0))) (.seq (.block 1 (.seq (.region 6 (rg Try.f121 6) true) (.cond (.tmp 26) (.seq (.region 7 (rg Try.f121 7) false) .ret) .skip))) (.region 5 (rg Try.f121 5) false)))))) (.seq (.region 8 (rg Try.f121 8) false) .ret))))) (by kernel_rfl) (Nat.le_of_ble_eq_true (by kernel_rfl)) 0 (rs := [.tmp 4]) rfl [] .nil [(false, [.lit (.bool r)])] [] [] fun cx => ?_
  show Tr _ _ _ ⟨27, 0, [(0, .val false [.sl false 5 (CV.frzEs (x0.map Fent.row))]), (1, .val false [.sl false 5 (CV.frzEs (x1.map Fent.row))])], []⟩ _
  unfold laws_eqFentSF at H
  refine Tr.rs ?_
  refine LAt.runU tOk 1 (by kernel_rfl) ?_
  refine LAt.doneU [4, 0, 1] [] (by kernel_rfl) ?_
  refine Tr.seq ?_
  refine Tr.rs ?_
  refine LAt.runU tOk 1 (by kernel_rfl) ?_
  refine LAt.lenE tOk (t := 77) (ty := 3) (e := 147) (x := (.tmp 6)) (d := 7) (g := none) ⟨(.slot 6), [], 0, false, 5, (CV.frzEs (x0.map Fent.row))⟩ (x0).length _ (by kernel_rfl) (by kernel_rfl) (by kernel_rfl) (by kernel_rfl) (by kernel_rfl) (frz_len _ _) rfl ?_
  refine LAt.runU tOk 1 (by kernel_rfl) ?_
  refine LAt.lenE tOk (t := 77) (ty := 3) (e := 147) (x := (.tmp 8)) (d := 9) (g := none) ⟨(.slot 8), [], 0, false, 5, (CV.frzEs (x1.map Fent.row))⟩ (x1).length _ (by kernel_rfl) (by kernel_rfl) (by kernel_rfl) (by kernel_rfl) (by kernel_rfl) (frz_len _ _) rfl ?_
  refine LAt.runU tOk 1 (by kernel_rfl) ?_
  refine LAt.doneU [10, 4, 0, 1] [] (by kernel_rfl) ?_
  refine Tr.to ⟨27, 0, [(10, .val false [.lit (.bool ((x0.length : Int) != (x1.length : Int)))]), (4, .val false [.lit (.bool false)]), (0, .val false [.sl false 5 (CV.frzEs (x0.map Fent.row))]), (1, .val false [.sl false 5 (CV.frzEs (x1.map Fent.row))])], []⟩ (by kernel_rfl) ?_
  cases h1 : ((x0.length : Int) != (x1.length : Int))
  · have H := bifF h1 H
    refine Tr.cond (b := false) (by kernel_rfl) (fun h => nomatch h) (fun _ => ?_)
    refine Tr.skip ?_
    show Tr _ _ _ _ _
    refine Tr.seq ?_
    refine Tr.rs ?_
    refine LAt.runU tOk 1 (by kernel_rfl) ?_
    refine LAt.doneU [5, 4, 0, 1] [] (by kernel_rfl) ?_
    obtain ⟨o2, eo2, Ho2⟩ := bind_some H
    clear H
    refine Tr.mid (ι := Unit) (fun v => ⟨27, 0, [(4, .val false [.lit (.bool false)])], []⟩) (fun v => laws_eqFentS_J1 n = some r) ?_ ?_
    · refine Tr.block ?_
      refine Tr.loop (ι := Nat × (Int)) (fun v => ⟨27, 0, [(5, .val false [.lit (.int .i64 v.2)]), (4, .val false [.lit (.bool false)]), (0, .val false [.sl false 5 (CV.frzEs (x0.map Fent.row))]), (1, .val false [.sl false 5 (CV.frzEs (x1.map Fent.row))])], []⟩) (fun v => laws_eqFentS_L2 n v.1 x0 x1 v.2 = some o2) (fun v => v.1) (n, 0) eo2 (St.sub_of [5, 4, 0, 1] [] (by kernel_rfl)) ?_
      rintro ⟨mo2, y1⟩ H
      have H : laws_eqFentS_L2 n mo2 x0 x1 y1 = some o2 := H
      obtain _ | mo2 := mo2
      · cases (show (none : Option _) = some o2 from H)
      · rw [laws_eqFentS_L2] at H
        refine Tr.seq ?_
        refine Tr.rs ?_
        refine LAt.runU tOk 2 (by kernel_rfl) ?_
        refine LAt.lenE tOk (t := 77) (ty := 3) (e := 147) (x := (.tmp 12)) (d := 13) (g := none) ⟨(.slot 12), [], 0, false, 5, (CV.frzEs (x0.map Fent.row))⟩ (x0).length _ (by kernel_rfl) (by kernel_rfl) (by kernel_rfl) (by kernel_rfl) (by kernel_rfl) (frz_len _ _) rfl ?_
        refine LAt.runU tOk 1 (by kernel_rfl) ?_
        refine LAt.doneU [14, 13, 12, 11, 5, 4, 0, 1] [] (by kernel_rfl) ?_
        refine Tr.to ⟨27, 0, [(14, .val false [.lit (.bool (decide (y1 < (x0.length : Int))))]), (13, .val false [.lit (.int .i64 (x0.length : Int))]), (12, .val false [.sl false 5 (CV.frzEs (x0.map Fent.row))]), (11, .val false [.lit (.int .i64 y1)]), (5, .val false [.lit (.int .i64 y1)]), (4, .val false [.lit (.bool false)]), (0, .val false [.sl false 5 (CV.frzEs (x0.map Fent.row))]), (1, .val false [.sl false 5 (CV.frzEs (x1.map Fent.row))])], []⟩ (by kernel_rfl) ?_
        cases h2 : (decide (y1 < (x0.length : Int)))
        · have H := bifF h2 H
          refine Tr.cond (b := false) (by kernel_rfl) (fun h => nomatch h) (fun _ => ?_)
          refine Tr.exit ?_
          refine And.intro (fun _ => ?_) (fun h => absurd rfl h)
          have H := Option.some.inj H
          subst H
          have H := Ho2
          dsimp only at H
          exact Exists.intro () (And.intro H (St.sub_of [4] [] (by kernel_rfl)))
        · have H := bifT h2 H
          refine Tr.cond (b := true) (by kernel_rfl) (fun _ => ?_) (fun h => nomatch h)
          refine Tr.skip ?_
          show Tr _ _ _ _ _
          refine Tr.seq ?_
          refine Tr.block ?_
          obtain ⟨v3, ev3, H⟩ := bind_some H
          obtain ⟨v4, ev4, H⟩ := bind_some H
          obtain ⟨r5, er5, H⟩ := bind_some H
          refine Tr.draws mixed 10 (by kernel_rfl) ⟨27, 0, [(26, .val false [.lit (.bool (!r5))]), (25, .val false [.lit (.bool r5)]), (24, .val true (Fent.row v4)), (23, .fad ((Fent.row v4))), (22, .val false [.lit (.int .i64 y1)]), (21, .val false [.sl false 5 (CV.frzEs (x1.map Fent.row))]), (20, .val true (Fent.row v3)), (19, .fad ((Fent.row v3))), (18, .val false [.lit (.int .i64 y1)]), (17, .val false [.sl false 5 (CV.frzEs (x0.map Fent.row))]), (14, .val false [.lit (.bool true)]), (13, .val false [.lit (.int .i64 (x0.length : Int))]), (12, .val false [.sl false 5 (CV.frzEs (x0.map Fent.row))]), (11, .val false [.lit (.int .i64 y1)]), (5, .val false [.lit (.int .i64 y1)]), (4, .val false [.lit (.bool false)]), (0, .val false [.sl false 5 (CV.frzEs (x0.map Fent.row))]), (1, .val false [.sl false 5 (CV.frzEs (x1.map Fent.row))])], []⟩ (fun cx => ?_) ?_
          · refine AT.runU tOk [(0, []), (1, [])] 8 [] [1, 0] rfl (by kernel_rfl) (fun cx => ?_)
            refine AT.indexF tOk 2 (t := 77) (ty := 0) (x := (.tmp 17)) (y := (.tmp 18)) (d := 19) (g := none) ⟨(.slot 17), [], 0, false, 5, (CV.frzEs (x0.map Fent.row))⟩ y1 (Fent.row v3) _ (by kernel_rfl) (by kernel_rfl) (by kernel_rfl) (by kernel_rfl) (by kernel_rfl) (by kernel_rfl) rfl (idx_isF ev3) rfl (fun cx => ?_)
            refine AT.runU tOk [(3, []), (4, []), (5, [])] 4 [] [5, 4, 3, 2, 1, 0] rfl (by kernel_rfl) (fun cx => ?_)
            refine AT.indexF tOk 6 (t := 77) (ty := 0) (x := (.tmp 21)) (y := (.tmp 22)) (d := 23) (g := none) ⟨(.slot 21), [], 0, false, 5, (CV.frzEs (x1.map Fent.row))⟩ y1 (Fent.row v4) _ (by kernel_rfl) (by kernel_rfl) (by kernel_rfl) (by kernel_rfl) (by kernel_rfl) (by kernel_rfl) rfl (idx_isF ev4) rfl (fun cx => ?_)
            refine AT.runU tOk [(7, [])] 2 [] [7, 6, 5, 4, 3, 2, 1, 0] rfl (by kernel_rfl) (fun cx => ?_)
            refine AT.big1 tOk 8 (by kernel_rfl) (by kernel_rfl) ?_
            refine LAt.callU tOk [.rd, .rd] (f := 155) (av := #[.tmp 20, .tmp 24]) (ats := #[147, 147]) (d := (some 25)) (ty := 4) (g := none) (by kernel_rfl) (by kernel_rfl) (by kernel_rfl) [] (laws_eqFent n v3 v4 r5 er5) (by kernel_rfl) (.inl rfl) ?_
            refine LAt.fin (by kernel_rfl) (And.intro (And.intro (by kernel_rfl) (by kernel_rfl)) ?_)
            refine AT.runU tOk [(9, [])] 0 [] [9, 8, 7, 6, 5, 4, 3, 2, 1, 0] rfl (by kernel_rfl) (fun cx => ?_)
            exact AT.done [26, 25, 24, 23, 22, 21, 20, 19, 18, 17, 14, 13, 12, 11, 5, 4, 0, 1] [] _ (by kernel_rfl) (by kernel_rfl) rfl
          · refine Tr.to ⟨27, 0, [(26, .val false [.lit (.bool (!r5))]), (25, .val false [.lit (.bool r5)]), (24, .val true (Fent.row v4)), (23, .fad ((Fent.row v4))), (22, .val false [.lit (.int .i64 y1)]), (21, .val false [.sl false 5 (CV.frzEs (x1.map Fent.row))]), (20, .val true (Fent.row v3)), (19, .fad ((Fent.row v3))), (18, .val false [.lit (.int .i64 y1)]), (17, .val false [.sl false 5 (CV.frzEs (x0.map Fent.row))]), (14, .val false [.lit (.bool true)]), (13, .val false [.lit (.int .i64 (x0.length : Int))]), (12, .val false [.sl false 5 (CV.frzEs (x0.map Fent.row))]), (11, .val false [.lit (.int .i64 y1)]), (5, .val false [.lit (.int .i64 y1)]), (4, .val false [.lit (.bool false)]), (0, .val false [.sl false 5 (CV.frzEs (x0.map Fent.row))]), (1, .val false [.sl false 5 (CV.frzEs (x1.map Fent.row))])], []⟩ (by kernel_rfl) ?_
            cases h3 : (!r5)
            · have H := bifF h3 H
              refine Tr.cond (b := false) (by kernel_rfl) (fun h => nomatch h) (fun _ => ?_)
              refine Tr.skip ?_
              show Tr _ _ _ _ _
              refine Tr.at ?_
              refine LAt.runU tOk 3 (by kernel_rfl) ?_
              refine LAt.doneU [5, 16, 15, 26, 25, 24, 23, 22, 21, 20, 19, 18, 17, 14, 13, 12, 11, 4, 0, 1] [] (by kernel_rfl) ?_
              exact Exists.intro (mo2, (IntKind.wrap .i64 (y1 + 1))) (And.intro H (And.intro (Nat.lt_succ_self mo2) (St.sub_of [5, 4, 0, 1] [] (by kernel_rfl))))
            · have H := bifT h3 H
              refine Tr.cond (b := true) (by kernel_rfl) (fun _ => ?_) (fun h => nomatch h)
              refine Tr.rs ?_
              refine LAt.runU tOk 1 (by kernel_rfl) ?_
              refine LAt.doneU [4, 26, 25, 24, 23, 22, 21, 20, 19, 18, 17, 14, 13, 12, 11, 5, 0, 1] [] (by kernel_rfl) ?_
              refine Tr.ret ?_
              have H := Option.some.inj H
              subst H
              have H := Ho2
              dsimp only at H
              have H := Option.some.inj H
              subst H
              exact Fin.of _ [(false, [.lit (.bool false)])] (by kernel_rfl) rfl rfl
    · rintro _ H
      have H : (laws_eqFentS_J1 n) = some r := H
      unfold laws_eqFentS_J1 at H
      show Tr _ _ _ _ _
      refine Tr.rs ?_
      refine LAt.runU tOk 1 (by kernel_rfl) ?_
      refine LAt.doneU [4] [] (by kernel_rfl) ?_
      refine Tr.ret ?_
      have H := Option.some.inj H
      subst H
      exact Fin.of _ [(false, [.lit (.bool true)])] (by kernel_rfl) rfl rfl
  · have H := bifT h1 H
    refine Tr.cond (b := true) (by kernel_rfl) (fun _ => ?_) (fun h => nomatch h)
    refine Tr.rs ?_
    refine LAt.runU tOk 1 (by kernel_rfl) ?_
    refine LAt.doneU [4, 0, 1] [] (by kernel_rfl) ?_
    refine Tr.ret ?_
    have H := Option.some.inj H
    subst H
    exact Fin.of _ [(false, [.lit (.bool false)])] (by kernel_rfl) rfl rfl

def laws_eqVrowF (n : Nat) (x0 : Vrow) (x1 : Vrow) : Option (Bool) :=
  (bif (x0.Id != x1.Id) then (some false) else (bif (x0.Members != x1.Members) then (some false) else (bif (x0.Bare != x1.Bare) then (some false) else (some true))))
/-- loop.example/g00326/laws.eqVrow -/
theorem laws_eqVrow (n : Nat) (x0 : Vrow) (x1 : Vrow) (r : Bool) (H : laws_eqVrowF n x0 x1 = some r) : LCall Try.prog 147 [.val true (CV.frzRow (Vrow.row x0)), .val true (CV.frzRow (Vrow.row x1))] [.val false [.lit (.bool r)]] [] := by
  refine LCall.of_body tOk Try.func147 rfl (c := (.seq (.region 0 (rg Try.f147 0) false) (.seq (.seq (.region 1 (rg Try.f147 1) false) (.cond (.tmp 9) (.seq (.region 2 (rg Try.f147 2) false) .ret) .skip)) (.seq (.seq (.region 3 (rg Try.f147 3) false) (.cond (.tmp 14) (.seq (.region 4 (rg Try.f147 4) false) .ret) .skip)) (.seq (.seq (.region 5 (rg Try.f147 5) false) (.cond (.tmp 19) (.seq (.region 6 (rg Try.f147 6) false) .ret) .skip)) (.seq (.region 7 (rg Try.f147 7) false) .ret)))))) (by kernel_rfl) (Nat.le_of_ble_eq_true (by kernel_rfl)) 0 (rs := [.tmp 4]) rfl [] .nil [(false, [.lit (.bool r)])] [] [] fun cx => ?_
  show Tr _ _ _ ⟨20, 0, [(0, .val true (Vrow.row x0)), (1, .val true (Vrow.row x1))], []⟩ _
  unfold laws_eqVrowF at H
  refine Tr.rs ?_
  refine LAt.runU tOk 3 (by kernel_rfl) ?_
  refine LAt.doneU [4, 3, 2] [3, 2] (by kernel_rfl) ?_
  refine Tr.seq ?_
  refine Tr.rs ?_
  refine LAt.runU tOk 5 (by kernel_rfl) ?_
  refine LAt.doneU [9, 4, 3, 2] [3, 2] (by kernel_rfl) ?_
  refine Tr.to ⟨20, 0, [(9, .val false [.lit (.bool (x0.Id != x1.Id))]), (4, .val false [.lit (.bool false)]), (3, .adr (.box 3) [(0, 0)] 3 0), (2, .adr (.box 2) [(0, 0)] 3 0)], [(3, (Vrow.row x1)), (2, (Vrow.row x0))]⟩ (by kernel_rfl) ?_
  cases h1 : (x0.Id != x1.Id)
  · have H := bifF h1 H
    refine Tr.cond (b := false) (by kernel_rfl) (fun h => nomatch h) (fun _ => ?_)
    refine Tr.skip ?_
    show Tr _ _ _ _ _
    refine Tr.seq ?_
    refine Tr.rs ?_
    refine LAt.runU tOk 5 (by kernel_rfl) ?_
    refine LAt.doneU [14, 4, 3, 2] [3, 2] (by kernel_rfl) ?_
    refine Tr.to ⟨20, 0, [(14, .val false [.lit (.bool (x0.Members != x1.Members))]), (4, .val false [.lit (.bool false)]), (3, .adr (.box 3) [(0, 0)] 3 0), (2, .adr (.box 2) [(0, 0)] 3 0)], [(3, (Vrow.row x1)), (2, (Vrow.row x0))]⟩ (by kernel_rfl) ?_
    cases h2 : (x0.Members != x1.Members)
    · have H := bifF h2 H
      refine Tr.cond (b := false) (by kernel_rfl) (fun h => nomatch h) (fun _ => ?_)
      refine Tr.skip ?_
      show Tr _ _ _ _ _
      refine Tr.seq ?_
      refine Tr.rs ?_
      refine LAt.runU tOk 5 (by kernel_rfl) ?_
      refine LAt.doneU [19, 4] [] (by kernel_rfl) ?_
      refine Tr.to ⟨20, 0, [(19, .val false [.lit (.bool (x0.Bare != x1.Bare))]), (4, .val false [.lit (.bool false)])], []⟩ (by kernel_rfl) ?_
      cases h3 : (x0.Bare != x1.Bare)
      · have H := bifF h3 H
        refine Tr.cond (b := false) (by kernel_rfl) (fun h => nomatch h) (fun _ => ?_)
        refine Tr.skip ?_
        show Tr _ _ _ _ _
        refine Tr.rs ?_
        refine LAt.runU tOk 1 (by kernel_rfl) ?_
        refine LAt.doneU [4] [] (by kernel_rfl) ?_
        refine Tr.ret ?_
        have H := Option.some.inj H
        subst H
        exact Fin.of _ [(false, [.lit (.bool true)])] (by kernel_rfl) rfl rfl
      · have H := bifT h3 H
        refine Tr.cond (b := true) (by kernel_rfl) (fun _ => ?_) (fun h => nomatch h)
        refine Tr.rs ?_
        refine LAt.runU tOk 1 (by kernel_rfl) ?_
        refine LAt.doneU [4] [] (by kernel_rfl) ?_
        refine Tr.ret ?_
        have H := Option.some.inj H
        subst H
        exact Fin.of _ [(false, [.lit (.bool false)])] (by kernel_rfl) rfl rfl
    · have H := bifT h2 H
      refine Tr.cond (b := true) (by kernel_rfl) (fun _ => ?_) (fun h => nomatch h)
      refine Tr.rs ?_
      refine LAt.runU tOk 1 (by kernel_rfl) ?_
      refine LAt.doneU [4, 3, 2] [3, 2] (by kernel_rfl) ?_
      refine Tr.ret ?_
      have H := Option.some.inj H
      subst H
      exact Fin.of _ [(false, [.lit (.bool false)])] (by kernel_rfl) rfl rfl
  · have H := bifT h1 H
    refine Tr.cond (b := true) (by kernel_rfl) (fun _ => ?_) (fun h => nomatch h)
    refine Tr.rs ?_
    refine LAt.runU tOk 1 (by kernel_rfl) ?_
    refine LAt.doneU [4, 3, 2] [3, 2] (by kernel_rfl) ?_
    refine Tr.ret ?_
    have H := Option.some.inj H
    subst H
    exact Fin.of _ [(false, [.lit (.bool false)])] (by kernel_rfl) rfl rfl

def laws_eqVrowS_J1 (n : Nat) : Option (Bool) :=
  (some true)
def laws_eqVrowS_L2 (n : Nat) : Nat → (List Vrow) → (List Vrow) → Int → Option ((Unit) ⊕ (Bool))
  | 0, _, _, _ => none
  | mo2 + 1, x0, x1, y1 => (bif (decide (y1 < (x0.length : Int))) then ((idx x0 y1).bind fun v3 => ((idx x1 y1).bind fun v4 => ((laws_eqVrowF n v3 v4).bind fun r5 => (bif (!r5) then (some (Sum.inr false)) else (laws_eqVrowS_L2 n mo2 x0 x1 (IntKind.wrap .i64 (y1 + 1))))))) else (some (Sum.inl ())))
def laws_eqVrowSF (n : Nat) (x0 : (List Vrow)) (x1 : (List Vrow)) : Option (Bool) :=
  (bif ((x0.length : Int) != (x1.length : Int)) then (some false) else ((laws_eqVrowS_L2 n n x0 x1 0).bind fun o => match o with | .inl _ => (laws_eqVrowS_J1 n) | .inr r => some r))
/-- loop.example/g00326/laws.eqVrowS -/
theorem laws_eqVrowS (n : Nat) (x0 : (List Vrow)) (x1 : (List Vrow)) (r : Bool) (H : laws_eqVrowSF n x0 x1 = some r) : LCall Try.prog 84 [.val false [.sl false 3 (CV.frzEs (x0.map Vrow.row))], .val false [.sl false 3 (CV.frzEs (x1.map Vrow.row))]] [.val false [.lit (.bool r)]] [] := by
  refine LCall.of_body tOk Try.func84 rfl (c := (.seq (.region 0 (rg Try.f84 0) false) (.seq (.seq (.region 1 (rg Try.f84 1) false) (.cond (.tmp 10) (.seq (.region 2 (rg Try.f84 2) false) .ret) .skip)) (.seq (.seq (.region 3 (rg Try.f84 3) false) (.block 0 (.loop (.seq (.seq (.region 4 (rg Try.f84 4) false) (.cond (.tmp 14) .skip (.exit 0))) (.seq (.block 1 (.seq (.region 6 (rg Try.f84 6) true) (.cond (.tmp 26) (.seq (.region 7 (rg Try.f84 7) false) .ret) .skip))) (.region 5 (rg Try.f84 5) false)))))) (.seq (.region 8 (rg Try.f84 8) false) .ret))))) (by kernel_rfl) (Nat.le_of_ble_eq_true (by kernel_rfl)) 0 (rs := [.tmp 4]) rfl [] .nil [(false, [.lit (.bool r)])] [] [] fun cx => ?_
  show Tr _ _ _ ⟨27, 0, [(0, .val false [.sl false 3 (CV.frzEs (x0.map Vrow.row))]), (1, .val false [.sl false 3 (CV.frzEs (x1.map Vrow.row))])], []⟩ _
  unfold laws_eqVrowSF at H
  refine Tr.rs ?_
  refine LAt.runU tOk 1 (by kernel_rfl) ?_
  refine LAt.doneU [4, 0, 1] [] (by kernel_rfl) ?_
  refine Tr.seq ?_
  refine Tr.rs ?_
  refine LAt.runU tOk 1 (by kernel_rfl) ?_
  refine LAt.lenE tOk (t := 27) (ty := 3) (e := 56) (x := (.tmp 6)) (d := 7) (g := none) ⟨(.slot 6), [], 0, false, 3, (CV.frzEs (x0.map Vrow.row))⟩ (x0).length _ (by kernel_rfl) (by kernel_rfl) (by kernel_rfl) (by kernel_rfl) (by kernel_rfl) (frz_len _ _) rfl ?_
  refine LAt.runU tOk 1 (by kernel_rfl) ?_
  refine LAt.lenE tOk (t := 27) (ty := 3) (e := 56) (x := (.tmp 8)) (d := 9) (g := none) ⟨(.slot 8), [], 0, false, 3, (CV.frzEs (x1.map Vrow.row))⟩ (x1).length _ (by kernel_rfl) (by kernel_rfl) (by kernel_rfl) (by kernel_rfl) (by kernel_rfl) (frz_len _ _) rfl ?_
  refine LAt.runU tOk 1 (by kernel_rfl) ?_
  refine LAt.doneU [10, 4, 0, 1] [] (by kernel_rfl) ?_
  refine Tr.to ⟨27, 0, [(10, .val false [.lit (.bool ((x0.length : Int) != (x1.length : Int)))]), (4, .val false [.lit (.bool false)]), (0, .val false [.sl false 3 (CV.frzEs (x0.map Vrow.row))]), (1, .val false [.sl false 3 (CV.frzEs (x1.map Vrow.row))])], []⟩ (by kernel_rfl) ?_
  cases h1 : ((x0.length : Int) != (x1.length : Int))
  · have H := bifF h1 H
    refine Tr.cond (b := false) (by kernel_rfl) (fun h => nomatch h) (fun _ => ?_)
    refine Tr.skip ?_
    show Tr _ _ _ _ _
    refine Tr.seq ?_
    refine Tr.rs ?_
    refine LAt.runU tOk 1 (by kernel_rfl) ?_
    refine LAt.doneU [5, 4, 0, 1] [] (by kernel_rfl) ?_
    obtain ⟨o2, eo2, Ho2⟩ := bind_some H
    clear H
    refine Tr.mid (ι := Unit) (fun v => ⟨27, 0, [(4, .val false [.lit (.bool false)])], []⟩) (fun v => laws_eqVrowS_J1 n = some r) ?_ ?_
    · refine Tr.block ?_
      refine Tr.loop (ι := Nat × (Int)) (fun v => ⟨27, 0, [(5, .val false [.lit (.int .i64 v.2)]), (4, .val false [.lit (.bool false)]), (0, .val false [.sl false 3 (CV.frzEs (x0.map Vrow.row))]), (1, .val false [.sl false 3 (CV.frzEs (x1.map Vrow.row))])], []⟩) (fun v => laws_eqVrowS_L2 n v.1 x0 x1 v.2 = some o2) (fun v => v.1) (n, 0) eo2 (St.sub_of [5, 4, 0, 1] [] (by kernel_rfl)) ?_
      rintro ⟨mo2, y1⟩ H
      have H : laws_eqVrowS_L2 n mo2 x0 x1 y1 = some o2 := H
      obtain _ | mo2 := mo2
      · cases (show (none : Option _) = some o2 from H)
      · rw [laws_eqVrowS_L2] at H
        refine Tr.seq ?_
        refine Tr.rs ?_
        refine LAt.runU tOk 2 (by kernel_rfl) ?_
        refine LAt.lenE tOk (t := 27) (ty := 3) (e := 56) (x := (.tmp 12)) (d := 13) (g := none) ⟨(.slot 12), [], 0, false, 3, (CV.frzEs (x0.map Vrow.row))⟩ (x0).length _ (by kernel_rfl) (by kernel_rfl) (by kernel_rfl) (by kernel_rfl) (by kernel_rfl) (frz_len _ _) rfl ?_
        refine LAt.runU tOk 1 (by kernel_rfl) ?_
        refine LAt.doneU [14, 13, 12, 11, 5, 4, 0, 1] [] (by kernel_rfl) ?_
        refine Tr.to ⟨27, 0, [(14, .val false [.lit (.bool (decide (y1 < (x0.length : Int))))]), (13, .val false [.lit (.int .i64 (x0.length : Int))]), (12, .val false [.sl false 3 (CV.frzEs (x0.map Vrow.row))]), (11, .val false [.lit (.int .i64 y1)]), (5, .val false [.lit (.int .i64 y1)]), (4, .val false [.lit (.bool false)]), (0, .val false [.sl false 3 (CV.frzEs (x0.map Vrow.row))]), (1, .val false [.sl false 3 (CV.frzEs (x1.map Vrow.row))])], []⟩ (by kernel_rfl) ?_
        cases h2 : (decide (y1 < (x0.length : Int)))
        · have H := bifF h2 H
          refine Tr.cond (b := false) (by kernel_rfl) (fun h => nomatch h) (fun _ => ?_)
          refine Tr.exit ?_
          refine And.intro (fun _ => ?_) (fun h => absurd rfl h)
          have H := Option.some.inj H
          subst H
          have H := Ho2
          dsimp only at H
          exact Exists.intro () (And.intro H (St.sub_of [4] [] (by kernel_rfl)))
        · have H := bifT h2 H
          refine Tr.cond (b := true) (by kernel_rfl) (fun _ => ?_) (fun h => nomatch h)
          refine Tr.skip ?_
          show Tr _ _ _ _ _
          refine Tr.seq ?_
          refine Tr.block ?_
          obtain ⟨v3, ev3, H⟩ := bind_some H
          obtain ⟨v4, ev4, H⟩ := bind_some H
          obtain ⟨r5, er5, H⟩ := bind_some H
          refine Tr.draws mixed 10 (by kernel_rfl) ⟨27, 0, [(26, .val false [.lit (.bool (!r5))]), (25, .val false [.lit (.bool r5)]), (24, .val true (Vrow.row v4)), (23, .fad ((Vrow.row v4))), (22, .val false [.lit (.int .i64 y1)]), (21, .val false [.sl false 3 (CV.frzEs (x1.map Vrow.row))]), (20, .val true (Vrow.row v3)), (19, .fad ((Vrow.row v3))), (18, .val false [.lit (.int .i64 y1)]), (17, .val false [.sl false 3 (CV.frzEs (x0.map Vrow.row))]), (14, .val false [.lit (.bool true)]), (13, .val false [.lit (.int .i64 (x0.length : Int))]), (12, .val false [.sl false 3 (CV.frzEs (x0.map Vrow.row))]), (11, .val false [.lit (.int .i64 y1)]), (5, .val false [.lit (.int .i64 y1)]), (4, .val false [.lit (.bool false)]), (0, .val false [.sl false 3 (CV.frzEs (x0.map Vrow.row))]), (1, .val false [.sl false 3 (CV.frzEs (x1.map Vrow.row))])], []⟩ (fun cx => ?_) ?_
          · refine AT.runU tOk [(0, []), (1, [])] 8 [] [1, 0] rfl (by kernel_rfl) (fun cx => ?_)
            refine AT.indexF tOk 2 (t := 27) (ty := 0) (x := (.tmp 17)) (y := (.tmp 18)) (d := 19) (g := none) ⟨(.slot 17), [], 0, false, 3, (CV.frzEs (x0.map Vrow.row))⟩ y1 (Vrow.row v3) _ (by kernel_rfl) (by kernel_rfl) (by kernel_rfl) (by kernel_rfl) (by kernel_rfl) (by kernel_rfl) rfl (idx_isF ev3) rfl (fun cx => ?_)
            refine AT.runU tOk [(3, []), (4, []), (5, [])] 4 [] [5, 4, 3, 2, 1, 0] rfl (by kernel_rfl) (fun cx => ?_)
            refine AT.indexF tOk 6 (t := 27) (ty := 0) (x := (.tmp 21)) (y := (.tmp 22)) (d := 23) (g := none) ⟨(.slot 21), [], 0, false, 3, (CV.frzEs (x1.map Vrow.row))⟩ y1 (Vrow.row v4) _ (by kernel_rfl) (by kernel_rfl) (by kernel_rfl) (by kernel_rfl) (by kernel_rfl) (by kernel_rfl) rfl (idx_isF ev4) rfl (fun cx => ?_)
            refine AT.runU tOk [(7, [])] 2 [] [7, 6, 5, 4, 3, 2, 1, 0] rfl (by kernel_rfl) (fun cx => ?_)
            refine AT.big1 tOk 8 (by kernel_rfl) (by kernel_rfl) ?_
            refine LAt.callU tOk [.rd, .rd] (f := 147) (av := #[.tmp 20, .tmp 24]) (ats := #[56, 56]) (d := (some 25)) (ty := 4) (g := none) (by kernel_rfl) (by kernel_rfl) (by kernel_rfl) [] (laws_eqVrow n v3 v4 r5 er5) (by kernel_rfl) (.inl rfl) ?_
            refine LAt.fin (by kernel_rfl) (And.intro (And.intro (by kernel_rfl) (by kernel_rfl)) ?_)
            refine AT.runU tOk [(9, [])] 0 [] [9, 8, 7, 6, 5, 4, 3, 2, 1, 0] rfl (by kernel_rfl) (fun cx => ?_)
            exact AT.done [26, 25, 24, 23, 22, 21, 20, 19, 18, 17, 14, 13, 12, 11, 5, 4, 0, 1] [] _ (by kernel_rfl) (by kernel_rfl) rfl
          · refine Tr.to ⟨27, 0, [(26, .val false [.lit (.bool (!r5))]), (25, .val false [.lit (.bool r5)]), (24, .val true (Vrow.row v4)), (23, .fad ((Vrow.row v4))), (22, .val false [.lit (.int .i64 y1)]), (21, .val false [.sl false 3 (CV.frzEs (x1.map Vrow.row))]), (20, .val true (Vrow.row v3)), (19, .fad ((Vrow.row v3))), (18, .val false [.lit (.int .i64 y1)]), (17, .val false [.sl false 3 (CV.frzEs (x0.map Vrow.row))]), (14, .val false [.lit (.bool true)]), (13, .val false [.lit (.int .i64 (x0.length : Int))]), (12, .val false [.sl false 3 (CV.frzEs (x0.map Vrow.row))]), (11, .val false [.lit (.int .i64 y1)]), (5, .val false [.lit (.int .i64 y1)]), (4, .val false [.lit (.bool false)]), (0, .val false [.sl false 3 (CV.frzEs (x0.map Vrow.row))]), (1, .val false [.sl false 3 (CV.frzEs (x1.map Vrow.row))])], []⟩ (by kernel_rfl) ?_
            cases h3 : (!r5)
            · have H := bifF h3 H
              refine Tr.cond (b := false) (by kernel_rfl) (fun h => nomatch h) (fun _ => ?_)
              refine Tr.skip ?_
              show Tr _ _ _ _ _
              refine Tr.at ?_
              refine LAt.runU tOk 3 (by kernel_rfl) ?_
              refine LAt.doneU [5, 16, 15, 26, 25, 24, 23, 22, 21, 20, 19, 18, 17, 14, 13, 12, 11, 4, 0, 1] [] (by kernel_rfl) ?_
              exact Exists.intro (mo2, (IntKind.wrap .i64 (y1 + 1))) (And.intro H (And.intro (Nat.lt_succ_self mo2) (St.sub_of [5, 4, 0, 1] [] (by kernel_rfl))))
            · have H := bifT h3 H
              refine Tr.cond (b := true) (by kernel_rfl) (fun _ => ?_) (fun h => nomatch h)
              refine Tr.rs ?_
              refine LAt.runU tOk 1 (by kernel_rfl) ?_
              refine LAt.doneU [4, 26, 25, 24, 23, 22, 21, 20, 19, 18, 17, 14, 13, 12, 11, 5, 0, 1] [] (by kernel_rfl) ?_
              refine Tr.ret ?_
              have H := Option.some.inj H
              subst H
              have H := Ho2
              dsimp only at H
              have H := Option.some.inj H
              subst H
              exact Fin.of _ [(false, [.lit (.bool false)])] (by kernel_rfl) rfl rfl
    · rintro _ H
      have H : (laws_eqVrowS_J1 n) = some r := H
      unfold laws_eqVrowS_J1 at H
      show Tr _ _ _ _ _
      refine Tr.rs ?_
      refine LAt.runU tOk 1 (by kernel_rfl) ?_
      refine LAt.doneU [4] [] (by kernel_rfl) ?_
      refine Tr.ret ?_
      have H := Option.some.inj H
      subst H
      exact Fin.of _ [(false, [.lit (.bool true)])] (by kernel_rfl) rfl rfl
  · have H := bifT h1 H
    refine Tr.cond (b := true) (by kernel_rfl) (fun _ => ?_) (fun h => nomatch h)
    refine Tr.rs ?_
    refine LAt.runU tOk 1 (by kernel_rfl) ?_
    refine LAt.doneU [4, 0, 1] [] (by kernel_rfl) ?_
    refine Tr.ret ?_
    have H := Option.some.inj H
    subst H
    exact Fin.of _ [(false, [.lit (.bool false)])] (by kernel_rfl) rfl rfl

def laws_eqIntS_J1 (n : Nat) : Option (Bool) :=
  (some true)
def laws_eqIntS_L2 (n : Nat) : Nat → (List Int) → (List Int) → Int → Option ((Unit) ⊕ (Bool))
  | 0, _, _, _ => none
  | mo2 + 1, x0, x1, y1 => (bif (decide (y1 < (x0.length : Int))) then ((idx x0 y1).bind fun v3 => ((idx x1 y1).bind fun v4 => (bif (v3 != v4) then (some (Sum.inr false)) else (laws_eqIntS_L2 n mo2 x0 x1 (IntKind.wrap .i64 (y1 + 1)))))) else (some (Sum.inl ())))
def laws_eqIntSF (n : Nat) (x0 : (List Int)) (x1 : (List Int)) : Option (Bool) :=
  (bif ((x0.length : Int) != (x1.length : Int)) then (some false) else ((laws_eqIntS_L2 n n x0 x1 0).bind fun o => match o with | .inl _ => (laws_eqIntS_J1 n) | .inr r => some r))
/-- loop.example/g00326/laws.eqIntS -/
theorem laws_eqIntS (n : Nat) (x0 : (List Int)) (x1 : (List Int)) (r : Bool) (H : laws_eqIntSF n x0 x1 = some r) : LCall Try.prog 85 [.val false [.sl false 1 (CV.frzEs (x0.map intRow))], .val false [.sl false 1 (CV.frzEs (x1.map intRow))]] [.val false [.lit (.bool r)]] [] := by
  refine LCall.of_body tOk Try.func85 rfl (c := (.seq (.region 0 (rg Try.f85 0) false) (.seq (.seq (.region 1 (rg Try.f85 1) false) (.cond (.tmp 10) (.seq (.region 2 (rg Try.f85 2) false) .ret) .skip)) (.seq (.seq (.region 3 (rg Try.f85 3) false) (.block 0 (.loop (.seq (.seq (.region 4 (rg Try.f85 4) false) (.cond (.tmp 14) .skip (.exit 0))) (.seq (.block 1 (.seq (.region 6 (rg Try.f85 6) true) (.cond (.tmp 25) (.seq (.region 7 (rg Try.f85 7) false) .ret) .skip))) (.region 5 (rg Try.f85 5) false)))))) (.seq (.region 8 (rg Try.f85 8) false) .ret))))) (by kernel_rfl) (Nat.le_of_ble_eq_true (by kernel_rfl)) 0 (rs := [.tmp 4]) rfl [] .nil [(false, [.lit (.bool r)])] [] [] fun cx => ?_
  show Tr _ _ _ ⟨26, 0, [(0, .val false [.sl false 1 (CV.frzEs (x0.map intRow))]), (1, .val false [.sl false 1 (CV.frzEs (x1.map intRow))])], []⟩ _
  unfold laws_eqIntSF at H
  refine Tr.rs ?_
  refine LAt.runU tOk 1 (by kernel_rfl) ?_
  refine LAt.doneU [4, 0, 1] [] (by kernel_rfl) ?_
  refine Tr.seq ?_
  refine Tr.rs ?_
  refine LAt.runU tOk 1 (by kernel_rfl) ?_
  refine LAt.lenE tOk (t := 23) (ty := 3) (e := 3) (x := (.tmp 6)) (d := 7) (g := none) ⟨(.slot 6), [], 0, false, 1, (CV.frzEs (x0.map intRow))⟩ (x0).length _ (by kernel_rfl) (by kernel_rfl) (by kernel_rfl) (by kernel_rfl) (by kernel_rfl) (frz_len _ _) rfl ?_
  refine LAt.runU tOk 1 (by kernel_rfl) ?_
  refine LAt.lenE tOk (t := 23) (ty := 3) (e := 3) (x := (.tmp 8)) (d := 9) (g := none) ⟨(.slot 8), [], 0, false, 1, (CV.frzEs (x1.map intRow))⟩ (x1).length _ (by kernel_rfl) (by kernel_rfl) (by kernel_rfl) (by kernel_rfl) (by kernel_rfl) (frz_len _ _) rfl ?_
  refine LAt.runU tOk 1 (by kernel_rfl) ?_
  refine LAt.doneU [10, 4, 0, 1] [] (by kernel_rfl) ?_
  refine Tr.to ⟨26, 0, [(10, .val false [.lit (.bool ((x0.length : Int) != (x1.length : Int)))]), (4, .val false [.lit (.bool false)]), (0, .val false [.sl false 1 (CV.frzEs (x0.map intRow))]), (1, .val false [.sl false 1 (CV.frzEs (x1.map intRow))])], []⟩ (by kernel_rfl) ?_
  cases h1 : ((x0.length : Int) != (x1.length : Int))
  · have H := bifF h1 H
    refine Tr.cond (b := false) (by kernel_rfl) (fun h => nomatch h) (fun _ => ?_)
    refine Tr.skip ?_
    show Tr _ _ _ _ _
    refine Tr.seq ?_
    refine Tr.rs ?_
    refine LAt.runU tOk 1 (by kernel_rfl) ?_
    refine LAt.doneU [5, 4, 0, 1] [] (by kernel_rfl) ?_
    obtain ⟨o2, eo2, Ho2⟩ := bind_some H
    clear H
    refine Tr.mid (ι := Unit) (fun v => ⟨26, 0, [(4, .val false [.lit (.bool false)])], []⟩) (fun v => laws_eqIntS_J1 n = some r) ?_ ?_
    · refine Tr.block ?_
      refine Tr.loop (ι := Nat × (Int)) (fun v => ⟨26, 0, [(5, .val false [.lit (.int .i64 v.2)]), (4, .val false [.lit (.bool false)]), (0, .val false [.sl false 1 (CV.frzEs (x0.map intRow))]), (1, .val false [.sl false 1 (CV.frzEs (x1.map intRow))])], []⟩) (fun v => laws_eqIntS_L2 n v.1 x0 x1 v.2 = some o2) (fun v => v.1) (n, 0) eo2 (St.sub_of [5, 4, 0, 1] [] (by kernel_rfl)) ?_
      rintro ⟨mo2, y1⟩ H
      have H : laws_eqIntS_L2 n mo2 x0 x1 y1 = some o2 := H
      obtain _ | mo2 := mo2
      · cases (show (none : Option _) = some o2 from H)
      · rw [laws_eqIntS_L2] at H
        refine Tr.seq ?_
        refine Tr.rs ?_
        refine LAt.runU tOk 2 (by kernel_rfl) ?_
        refine LAt.lenE tOk (t := 23) (ty := 3) (e := 3) (x := (.tmp 12)) (d := 13) (g := none) ⟨(.slot 12), [], 0, false, 1, (CV.frzEs (x0.map intRow))⟩ (x0).length _ (by kernel_rfl) (by kernel_rfl) (by kernel_rfl) (by kernel_rfl) (by kernel_rfl) (frz_len _ _) rfl ?_
        refine LAt.runU tOk 1 (by kernel_rfl) ?_
        refine LAt.doneU [14, 13, 12, 11, 5, 4, 0, 1] [] (by kernel_rfl) ?_
        refine Tr.to ⟨26, 0, [(14, .val false [.lit (.bool (decide (y1 < (x0.length : Int))))]), (13, .val false [.lit (.int .i64 (x0.length : Int))]), (12, .val false [.sl false 1 (CV.frzEs (x0.map intRow))]), (11, .val false [.lit (.int .i64 y1)]), (5, .val false [.lit (.int .i64 y1)]), (4, .val false [.lit (.bool false)]), (0, .val false [.sl false 1 (CV.frzEs (x0.map intRow))]), (1, .val false [.sl false 1 (CV.frzEs (x1.map intRow))])], []⟩ (by kernel_rfl) ?_
        cases h2 : (decide (y1 < (x0.length : Int)))
        · have H := bifF h2 H
          refine Tr.cond (b := false) (by kernel_rfl) (fun h => nomatch h) (fun _ => ?_)
          refine Tr.exit ?_
          refine And.intro (fun _ => ?_) (fun h => absurd rfl h)
          have H := Option.some.inj H
          subst H
          have H := Ho2
          dsimp only at H
          exact Exists.intro () (And.intro H (St.sub_of [4] [] (by kernel_rfl)))
        · have H := bifT h2 H
          refine Tr.cond (b := true) (by kernel_rfl) (fun _ => ?_) (fun h => nomatch h)
          refine Tr.skip ?_
          show Tr _ _ _ _ _
          refine Tr.seq ?_
          refine Tr.block ?_
          obtain ⟨v3, ev3, H⟩ := bind_some H
          obtain ⟨v4, ev4, H⟩ := bind_some H
          refine Tr.draws mixed 9 (by kernel_rfl) ⟨26, 0, [(25, .val false [.lit (.bool (v3 != v4))]), (24, .val false [.lit (.int .i64 v4)]), (23, .fad ([.lit (.int .i64 v4)])), (22, .val false [.lit (.int .i64 y1)]), (21, .val false [.sl false 1 (CV.frzEs (x1.map intRow))]), (20, .val false [.lit (.int .i64 v3)]), (19, .fad ([.lit (.int .i64 v3)])), (18, .val false [.lit (.int .i64 y1)]), (17, .val false [.sl false 1 (CV.frzEs (x0.map intRow))]), (14, .val false [.lit (.bool true)]), (13, .val false [.lit (.int .i64 (x0.length : Int))]), (12, .val false [.sl false 1 (CV.frzEs (x0.map intRow))]), (11, .val false [.lit (.int .i64 y1)]), (5, .val false [.lit (.int .i64 y1)]), (4, .val false [.lit (.bool false)]), (0, .val false [.sl false 1 (CV.frzEs (x0.map intRow))]), (1, .val false [.sl false 1 (CV.frzEs (x1.map intRow))])], []⟩ (fun cx => ?_) ?_
          · refine AT.runU tOk [(0, []), (1, [])] 7 [] [1, 0] rfl (by kernel_rfl) (fun cx => ?_)
            refine AT.indexF tOk 2 (t := 23) (ty := 0) (x := (.tmp 17)) (y := (.tmp 18)) (d := 19) (g := none) ⟨(.slot 17), [], 0, false, 1, (CV.frzEs (x0.map intRow))⟩ y1 [.lit (.int .i64 v3)] _ (by kernel_rfl) (by kernel_rfl) (by kernel_rfl) (by kernel_rfl) (by kernel_rfl) (by kernel_rfl) rfl (idx_isF ev3) rfl (fun cx => ?_)
            refine AT.runU tOk [(3, []), (4, []), (5, [])] 3 [] [5, 4, 3, 2, 1, 0] rfl (by kernel_rfl) (fun cx => ?_)
            refine AT.indexF tOk 6 (t := 23) (ty := 0) (x := (.tmp 21)) (y := (.tmp 22)) (d := 23) (g := none) ⟨(.slot 21), [], 0, false, 1, (CV.frzEs (x1.map intRow))⟩ y1 [.lit (.int .i64 v4)] _ (by kernel_rfl) (by kernel_rfl) (by kernel_rfl) (by kernel_rfl) (by kernel_rfl) (by kernel_rfl) rfl (idx_isF ev4) rfl (fun cx => ?_)
            refine AT.runU tOk [(7, []), (8, [])] 0 [] [8, 7, 6, 5, 4, 3, 2, 1, 0] rfl (by kernel_rfl) (fun cx => ?_)
            exact AT.done [25, 24, 23, 22, 21, 20, 19, 18, 17, 14, 13, 12, 11, 5, 4, 0, 1] [] _ (by kernel_rfl) (by kernel_rfl) rfl
          · refine Tr.to ⟨26, 0, [(25, .val false [.lit (.bool (v3 != v4))]), (24, .val false [.lit (.int .i64 v4)]), (23, .fad ([.lit (.int .i64 v4)])), (22, .val false [.lit (.int .i64 y1)]), (21, .val false [.sl false 1 (CV.frzEs (x1.map intRow))]), (20, .val false [.lit (.int .i64 v3)]), (19, .fad ([.lit (.int .i64 v3)])), (18, .val false [.lit (.int .i64 y1)]), (17, .val false [.sl false 1 (CV.frzEs (x0.map intRow))]), (14, .val false [.lit (.bool true)]), (13, .val false [.lit (.int .i64 (x0.length : Int))]), (12, .val false [.sl false 1 (CV.frzEs (x0.map intRow))]), (11, .val false [.lit (.int .i64 y1)]), (5, .val false [.lit (.int .i64 y1)]), (4, .val false [.lit (.bool false)]), (0, .val false [.sl false 1 (CV.frzEs (x0.map intRow))]), (1, .val false [.sl false 1 (CV.frzEs (x1.map intRow))])], []⟩ (by kernel_rfl) ?_
            cases h3 : (v3 != v4)
            · have H := bifF h3 H
              refine Tr.cond (b := false) (by kernel_rfl) (fun h => nomatch h) (fun _ => ?_)
              refine Tr.skip ?_
              show Tr _ _ _ _ _
              refine Tr.at ?_
              refine LAt.runU tOk 3 (by kernel_rfl) ?_
              refine LAt.doneU [5, 16, 15, 25, 24, 23, 22, 21, 20, 19, 18, 17, 14, 13, 12, 11, 4, 0, 1] [] (by kernel_rfl) ?_
              exact Exists.intro (mo2, (IntKind.wrap .i64 (y1 + 1))) (And.intro H (And.intro (Nat.lt_succ_self mo2) (St.sub_of [5, 4, 0, 1] [] (by kernel_rfl))))
            · have H := bifT h3 H
              refine Tr.cond (b := true) (by kernel_rfl) (fun _ => ?_) (fun h => nomatch h)
              refine Tr.rs ?_
              refine LAt.runU tOk 1 (by kernel_rfl) ?_
              refine LAt.doneU [4, 25, 24, 23, 22, 21, 20, 19, 18, 17, 14, 13, 12, 11, 5, 0, 1] [] (by kernel_rfl) ?_
              refine Tr.ret ?_
              have H := Option.some.inj H
              subst H
              have H := Ho2
              dsimp only at H
              have H := Option.some.inj H
              subst H
              exact Fin.of _ [(false, [.lit (.bool false)])] (by kernel_rfl) rfl rfl
    · rintro _ H
      have H : (laws_eqIntS_J1 n) = some r := H
      unfold laws_eqIntS_J1 at H
      show Tr _ _ _ _ _
      refine Tr.rs ?_
      refine LAt.runU tOk 1 (by kernel_rfl) ?_
      refine LAt.doneU [4] [] (by kernel_rfl) ?_
      refine Tr.ret ?_
      have H := Option.some.inj H
      subst H
      exact Fin.of _ [(false, [.lit (.bool true)])] (by kernel_rfl) rfl rfl
  · have H := bifT h1 H
    refine Tr.cond (b := true) (by kernel_rfl) (fun _ => ?_) (fun h => nomatch h)
    refine Tr.rs ?_
    refine LAt.runU tOk 1 (by kernel_rfl) ?_
    refine LAt.doneU [4, 0, 1] [] (by kernel_rfl) ?_
    refine Tr.ret ?_
    have H := Option.some.inj H
    subst H
    exact Fin.of _ [(false, [.lit (.bool false)])] (by kernel_rfl) rfl rfl

def laws_eqVtabF (n : Nat) (x0 : Vtab) (x1 : Vtab) : Option (Bool) :=
  ((laws_eqVrowSF n x0.Rows x1.Rows).bind fun r1 => (bif (!r1) then (some false) else ((laws_eqIntSF n x0.Pvid x1.Pvid).bind fun r2 => (bif (!r2) then (some false) else (some true)))))
/-- loop.example/g00326/laws.eqVtab -/
theorem laws_eqVtab (n : Nat) (x0 : Vtab) (x1 : Vtab) (r : Bool) (H : laws_eqVtabF n x0 x1 = some r) : LCall Try.prog 19 [.val true (CV.frzRow (Vtab.row x0)), .val true (CV.frzRow (Vtab.row x1))] [.val false [.lit (.bool r)]] [] := by
  refine LCall.of_body tOk Try.func19 rfl (c := (.seq (.region 0 (rg Try.f19 0) false) (.seq (.seq (.region 1 (rg Try.f19 1) false) (.cond (.tmp 10) (.seq (.region 2 (rg Try.f19 2) false) .ret) .skip)) (.seq (.seq (.region 3 (rg Try.f19 3) false) (.cond (.tmp 16) (.seq (.region 4 (rg Try.f19 4) false) .ret) .skip)) (.seq (.region 5 (rg Try.f19 5) false) .ret))))) (by kernel_rfl) (Nat.le_of_ble_eq_true (by kernel_rfl)) 0 (rs := [.tmp 4]) rfl [] .nil [(false, [.lit (.bool r)])] [] [] fun cx => ?_
  show Tr _ _ _ ⟨17, 0, [(0, .val true (CV.frzRow (Vtab.row x0))), (1, .val true (CV.frzRow (Vtab.row x1)))], []⟩ _
  unfold laws_eqVtabF at H
  refine Tr.rs ?_
  refine LAt.runU tOk 3 (by kernel_rfl) ?_
  refine LAt.doneU [4, 3, 2] [3, 2] (by kernel_rfl) ?_
  refine Tr.seq ?_
  refine Tr.rs ?_
  refine LAt.runU tOk 4 (by kernel_rfl) ?_
  obtain ⟨r1, er1, H⟩ := bind_some H
  refine LAt.callU tOk [.rd, .rd] (f := 84) (av := #[.tmp 6, .tmp 8]) (ats := #[27, 27]) (d := (some 9)) (ty := 4) (g := none) (by kernel_rfl) (by kernel_rfl) (by kernel_rfl) [] (laws_eqVrowS n x0.Rows x1.Rows r1 er1) (by kernel_rfl) (.inl rfl) ?_
  refine LAt.runU tOk 1 (by kernel_rfl) ?_
  refine LAt.doneU [10, 4, 3, 2] [3, 2] (by kernel_rfl) ?_
  refine Tr.to ⟨17, 0, [(10, .val false [.lit (.bool (!r1))]), (4, .val false [.lit (.bool false)]), (3, .adr (.box 3) [(0, 0)] 2 0), (2, .adr (.box 2) [(0, 0)] 2 0)], [(3, (CV.frzRow (Vtab.row x1))), (2, (CV.frzRow (Vtab.row x0)))]⟩ (by kernel_rfl) ?_
  cases h1 : (!r1)
  · have H := bifF h1 H
    refine Tr.cond (b := false) (by kernel_rfl) (fun h => nomatch h) (fun _ => ?_)
    refine Tr.skip ?_
    show Tr _ _ _ _ _
    refine Tr.seq ?_
    refine Tr.rs ?_
    refine LAt.runU tOk 4 (by kernel_rfl) ?_
    obtain ⟨r2, er2, H⟩ := bind_some H
    refine LAt.callU tOk [.rd, .rd] (f := 85) (av := #[.tmp 12, .tmp 14]) (ats := #[23, 23]) (d := (some 15)) (ty := 4) (g := none) (by kernel_rfl) (by kernel_rfl) (by kernel_rfl) [] (laws_eqIntS n x0.Pvid x1.Pvid r2 er2) (by kernel_rfl) (.inl rfl) ?_
    refine LAt.runU tOk 1 (by kernel_rfl) ?_
    refine LAt.doneU [16, 4] [] (by kernel_rfl) ?_
    refine Tr.to ⟨17, 0, [(16, .val false [.lit (.bool (!r2))]), (4, .val false [.lit (.bool false)])], []⟩ (by kernel_rfl) ?_
    cases h2 : (!r2)
    · have H := bifF h2 H
      refine Tr.cond (b := false) (by kernel_rfl) (fun h => nomatch h) (fun _ => ?_)
      refine Tr.skip ?_
      show Tr _ _ _ _ _
      refine Tr.rs ?_
      refine LAt.runU tOk 1 (by kernel_rfl) ?_
      refine LAt.doneU [4] [] (by kernel_rfl) ?_
      refine Tr.ret ?_
      have H := Option.some.inj H
      subst H
      exact Fin.of _ [(false, [.lit (.bool true)])] (by kernel_rfl) rfl rfl
    · have H := bifT h2 H
      refine Tr.cond (b := true) (by kernel_rfl) (fun _ => ?_) (fun h => nomatch h)
      refine Tr.rs ?_
      refine LAt.runU tOk 1 (by kernel_rfl) ?_
      refine LAt.doneU [4] [] (by kernel_rfl) ?_
      refine Tr.ret ?_
      have H := Option.some.inj H
      subst H
      exact Fin.of _ [(false, [.lit (.bool false)])] (by kernel_rfl) rfl rfl
  · have H := bifT h1 H
    refine Tr.cond (b := true) (by kernel_rfl) (fun _ => ?_) (fun h => nomatch h)
    refine Tr.rs ?_
    refine LAt.runU tOk 1 (by kernel_rfl) ?_
    refine LAt.doneU [4, 3, 2] [3, 2] (by kernel_rfl) ?_
    refine Tr.ret ?_
    have H := Option.some.inj H
    subst H
    exact Fin.of _ [(false, [.lit (.bool false)])] (by kernel_rfl) rfl rfl

def laws_eqBridgeF (n : Nat) (x0 : Bridge) (x1 : Bridge) : Option (Bool) :=
  (bif (x0.Id != x1.Id) then (some false) else (bif (!(x0.Name.toList == x1.Name.toList)) then (some false) else ((laws_eqPtSF n x0.Ports x1.Ports).bind fun r1 => (bif (!r1) then (some false) else ((laws_eqFentSF n x0.F x1.F).bind fun r2 => (bif (!r2) then (some false) else ((laws_eqVtabF n x0.V x1.V).bind fun r3 => (bif (!r3) then (some false) else (bif (x0.Ticks != x1.Ticks) then (some false) else (bif (x0.Parse != x1.Parse) then (some false) else (bif (x0.Word != x1.Word) then (some false) else (bif (x0.Drops != x1.Drops) then (some false) else (bif (x0.Vers != x1.Vers) then (some false) else (some true))))))))))))))
/-- loop.example/g00326/laws.eqBridge -/
theorem laws_eqBridge (n : Nat) (x0 : Bridge) (x1 : Bridge) (r : Bool) (H : laws_eqBridgeF n x0 x1 = some r) : LCall Try.prog 55 [.val true (CV.frzRow (Bridge.row x0)), .val true (CV.frzRow (Bridge.row x1))] [.val false [.lit (.bool r)]] [] := by
  refine LCall.of_body tOk Try.func55 rfl (c := (.seq (.region 0 (rg Try.f55 0) false) (.seq (.seq (.region 1 (rg Try.f55 1) false) (.cond (.tmp 9) (.seq (.region 2 (rg Try.f55 2) false) .ret) .skip)) (.seq (.seq (.region 3 (rg Try.f55 3) false) (.cond (.tmp 14) (.seq (.region 4 (rg Try.f55 4) false) .ret) .skip)) (.seq (.seq (.region 5 (rg Try.f55 5) false) (.cond (.tmp 20) (.seq (.region 6 (rg Try.f55 6) false) .ret) .skip)) (.seq (.seq (.region 7 (rg Try.f55 7) false) (.cond (.tmp 26) (.seq (.region 8 (rg Try.f55 8) false) .ret) .skip)) (.seq (.seq (.region 9 (rg Try.f55 9) false) (.cond (.tmp 32) (.seq (.region 10 (rg Try.f55 10) false) .ret) .skip)) (.seq (.seq (.region 11 (rg Try.f55 11) false) (.cond (.tmp 37) (.seq (.region 12 (rg Try.f55 12) false) .ret) .skip)) (.seq (.seq (.region 13 (rg Try.f55 13) false) (.cond (.tmp 42) (.seq (.region 14 (rg Try.f55 14) false) .ret) .skip)) (.seq (.seq (.region 15 (rg Try.f55 15) false) (.cond (.tmp 47) (.seq (.region 16 (rg Try.f55 16) false) .ret) .skip)) (.seq (.seq (.region 17 (rg Try.f55 17) false) (.cond (.tmp 52) (.seq (.region 18 (rg Try.f55 18) false) .ret) .skip)) (.seq (.seq (.region 19 (rg Try.f55 19) false) (.cond (.tmp 57) (.seq (.region 20 (rg Try.f55 20) false) .ret) .skip)) (.seq (.region 21 (rg Try.f55 21) false) .ret))))))))))))) (by kernel_rfl) (Nat.le_of_ble_eq_true (by kernel_rfl)) 0 (rs := [.tmp 4]) rfl [] .nil [(false, [.lit (.bool r)])] [] [] fun cx => ?_
  show Tr _ _ _ ⟨58, 0, [(0, .val true (CV.frzRow (Bridge.row x0))), (1, .val true (CV.frzRow (Bridge.row x1)))], []⟩ _
  unfold laws_eqBridgeF at H
  refine Tr.rs ?_
  refine LAt.runU tOk 3 (by kernel_rfl) ?_
  refine LAt.doneU [4, 3, 2] [3, 2] (by kernel_rfl) ?_
  refine Tr.seq ?_
  refine Tr.rs ?_
  refine LAt.runU tOk 5 (by kernel_rfl) ?_
  refine LAt.doneU [9, 4, 3, 2] [3, 2] (by kernel_rfl) ?_
  refine Tr.to ⟨58, 0, [(9, .val false [.lit (.bool (x0.Id != x1.Id))]), (4, .val false [.lit (.bool false)]), (3, .adr (.box 3) [(0, 0)] 11 0), (2, .adr (.box 2) [(0, 0)] 11 0)], [(3, (CV.frzRow (Bridge.row x1))), (2, (CV.frzRow (Bridge.row x0)))]⟩ (by kernel_rfl) ?_
  cases h1 : (x0.Id != x1.Id)
  · have H := bifF h1 H
    refine Tr.cond (b := false) (by kernel_rfl) (fun h => nomatch h) (fun _ => ?_)
    refine Tr.skip ?_
    show Tr _ _ _ _ _
    refine Tr.seq ?_
    refine Tr.rs ?_
    refine LAt.runU tOk 5 (by kernel_rfl) ?_
    refine LAt.doneU [14, 4, 3, 2] [3, 2] (by kernel_rfl) ?_
    refine Tr.to ⟨58, 0, [(14, .val false [.lit (.bool (!(x0.Name.toList == x1.Name.toList)))]), (4, .val false [.lit (.bool false)]), (3, .adr (.box 3) [(0, 0)] 11 0), (2, .adr (.box 2) [(0, 0)] 11 0)], [(3, (CV.frzRow (Bridge.row x1))), (2, (CV.frzRow (Bridge.row x0)))]⟩ (by kernel_rfl) ?_
    cases h2 : (!(x0.Name.toList == x1.Name.toList))
    · have H := bifF h2 H
      refine Tr.cond (b := false) (by kernel_rfl) (fun h => nomatch h) (fun _ => ?_)
      refine Tr.skip ?_
      show Tr _ _ _ _ _
      refine Tr.seq ?_
      refine Tr.rs ?_
      refine LAt.runU tOk 4 (by kernel_rfl) ?_
      obtain ⟨r1, er1, H⟩ := bind_some H
      refine LAt.callU tOk [.rd, .rd] (f := 120) (av := #[.tmp 16, .tmp 18]) (ats := #[43, 43]) (d := (some 19)) (ty := 4) (g := none) (by kernel_rfl) (by kernel_rfl) (by kernel_rfl) [] (laws_eqPtS n x0.Ports x1.Ports r1 er1) (by kernel_rfl) (.inl rfl) ?_
      refine LAt.runU tOk 1 (by kernel_rfl) ?_
      refine LAt.doneU [20, 4, 3, 2] [3, 2] (by kernel_rfl) ?_
      refine Tr.to ⟨58, 0, [(20, .val false [.lit (.bool (!r1))]), (4, .val false [.lit (.bool false)]), (3, .adr (.box 3) [(0, 0)] 11 0), (2, .adr (.box 2) [(0, 0)] 11 0)], [(3, (CV.frzRow (Bridge.row x1))), (2, (CV.frzRow (Bridge.row x0)))]⟩ (by kernel_rfl) ?_
      cases h3 : (!r1)
      · have H := bifF h3 H
        refine Tr.cond (b := false) (by kernel_rfl) (fun h => nomatch h) (fun _ => ?_)
        refine Tr.skip ?_
        show Tr _ _ _ _ _
        refine Tr.seq ?_
        refine Tr.rs ?_
        refine LAt.runU tOk 4 (by kernel_rfl) ?_
        obtain ⟨r2, er2, H⟩ := bind_some H
        refine LAt.callU tOk [.rd, .rd] (f := 121) (av := #[.tmp 22, .tmp 24]) (ats := #[77, 77]) (d := (some 25)) (ty := 4) (g := none) (by kernel_rfl) (by kernel_rfl) (by kernel_rfl) [] (laws_eqFentS n x0.F x1.F r2 er2) (by kernel_rfl) (.inl rfl) ?_
        refine LAt.runU tOk 1 (by kernel_rfl) ?_
        refine LAt.doneU [26, 4, 3, 2] [3, 2] (by kernel_rfl) ?_
        refine Tr.to ⟨58, 0, [(26, .val false [.lit (.bool (!r2))]), (4, .val false [.lit (.bool false)]), (3, .adr (.box 3) [(0, 0)] 11 0), (2, .adr (.box 2) [(0, 0)] 11 0)], [(3, (CV.frzRow (Bridge.row x1))), (2, (CV.frzRow (Bridge.row x0)))]⟩ (by kernel_rfl) ?_
        cases h4 : (!r2)
        · have H := bifF h4 H
          refine Tr.cond (b := false) (by kernel_rfl) (fun h => nomatch h) (fun _ => ?_)
          refine Tr.skip ?_
          show Tr _ _ _ _ _
          refine Tr.seq ?_
          refine Tr.rs ?_
          refine LAt.runU tOk 4 (by kernel_rfl) ?_
          obtain ⟨r3, er3, H⟩ := bind_some H
          refine LAt.callU tOk [.rd, .rd] (f := 19) (av := #[.tmp 28, .tmp 30]) (ats := #[29, 29]) (d := (some 31)) (ty := 4) (g := none) (by kernel_rfl) (by kernel_rfl) (by kernel_rfl) [] (laws_eqVtab n x0.V x1.V r3 er3) (by kernel_rfl) (.inl rfl) ?_
          refine LAt.runU tOk 1 (by kernel_rfl) ?_
          refine LAt.doneU [32, 4, 3, 2] [3, 2] (by kernel_rfl) ?_
          refine Tr.to ⟨58, 0, [(32, .val false [.lit (.bool (!r3))]), (4, .val false [.lit (.bool false)]), (3, .adr (.box 3) [(0, 0)] 11 0), (2, .adr (.box 2) [(0, 0)] 11 0)], [(3, (CV.frzRow (Bridge.row x1))), (2, (CV.frzRow (Bridge.row x0)))]⟩ (by kernel_rfl) ?_
          cases h5 : (!r3)
          · have H := bifF h5 H
            refine Tr.cond (b := false) (by kernel_rfl) (fun h => nomatch h) (fun _ => ?_)
            refine Tr.skip ?_
            show Tr _ _ _ _ _
            refine Tr.seq ?_
            refine Tr.rs ?_
            refine LAt.runU tOk 5 (by kernel_rfl) ?_
            refine LAt.doneU [37, 4, 3, 2] [3, 2] (by kernel_rfl) ?_
            refine Tr.to ⟨58, 0, [(37, .val false [.lit (.bool (x0.Ticks != x1.Ticks))]), (4, .val false [.lit (.bool false)]), (3, .adr (.box 3) [(0, 0)] 11 0), (2, .adr (.box 2) [(0, 0)] 11 0)], [(3, (CV.frzRow (Bridge.row x1))), (2, (CV.frzRow (Bridge.row x0)))]⟩ (by kernel_rfl) ?_
            cases h6 : (x0.Ticks != x1.Ticks)
            · have H := bifF h6 H
              refine Tr.cond (b := false) (by kernel_rfl) (fun h => nomatch h) (fun _ => ?_)
              refine Tr.skip ?_
              show Tr _ _ _ _ _
              refine Tr.seq ?_
              refine Tr.rs ?_
              refine LAt.runU tOk 5 (by kernel_rfl) ?_
              refine LAt.doneU [42, 4, 3, 2] [3, 2] (by kernel_rfl) ?_
              refine Tr.to ⟨58, 0, [(42, .val false [.lit (.bool (x0.Parse != x1.Parse))]), (4, .val false [.lit (.bool false)]), (3, .adr (.box 3) [(0, 0)] 11 0), (2, .adr (.box 2) [(0, 0)] 11 0)], [(3, (CV.frzRow (Bridge.row x1))), (2, (CV.frzRow (Bridge.row x0)))]⟩ (by kernel_rfl) ?_
              cases h7 : (x0.Parse != x1.Parse)
              · have H := bifF h7 H
                refine Tr.cond (b := false) (by kernel_rfl) (fun h => nomatch h) (fun _ => ?_)
                refine Tr.skip ?_
                show Tr _ _ _ _ _
                refine Tr.seq ?_
                refine Tr.rs ?_
                refine LAt.runU tOk 5 (by kernel_rfl) ?_
                refine LAt.doneU [47, 4, 3, 2] [3, 2] (by kernel_rfl) ?_
                refine Tr.to ⟨58, 0, [(47, .val false [.lit (.bool (x0.Word != x1.Word))]), (4, .val false [.lit (.bool false)]), (3, .adr (.box 3) [(0, 0)] 11 0), (2, .adr (.box 2) [(0, 0)] 11 0)], [(3, (CV.frzRow (Bridge.row x1))), (2, (CV.frzRow (Bridge.row x0)))]⟩ (by kernel_rfl) ?_
                cases h8 : (x0.Word != x1.Word)
                · have H := bifF h8 H
                  refine Tr.cond (b := false) (by kernel_rfl) (fun h => nomatch h) (fun _ => ?_)
                  refine Tr.skip ?_
                  show Tr _ _ _ _ _
                  refine Tr.seq ?_
                  refine Tr.rs ?_
                  refine LAt.runU tOk 5 (by kernel_rfl) ?_
                  refine LAt.doneU [52, 4, 3, 2] [3, 2] (by kernel_rfl) ?_
                  refine Tr.to ⟨58, 0, [(52, .val false [.lit (.bool (x0.Drops != x1.Drops))]), (4, .val false [.lit (.bool false)]), (3, .adr (.box 3) [(0, 0)] 11 0), (2, .adr (.box 2) [(0, 0)] 11 0)], [(3, (CV.frzRow (Bridge.row x1))), (2, (CV.frzRow (Bridge.row x0)))]⟩ (by kernel_rfl) ?_
                  cases h9 : (x0.Drops != x1.Drops)
                  · have H := bifF h9 H
                    refine Tr.cond (b := false) (by kernel_rfl) (fun h => nomatch h) (fun _ => ?_)
                    refine Tr.skip ?_
                    show Tr _ _ _ _ _
                    refine Tr.seq ?_
                    refine Tr.rs ?_
                    refine LAt.runU tOk 5 (by kernel_rfl) ?_
                    refine LAt.doneU [57, 4] [] (by kernel_rfl) ?_
                    refine Tr.to ⟨58, 0, [(57, .val false [.lit (.bool (x0.Vers != x1.Vers))]), (4, .val false [.lit (.bool false)])], []⟩ (by kernel_rfl) ?_
                    cases h10 : (x0.Vers != x1.Vers)
                    · have H := bifF h10 H
                      refine Tr.cond (b := false) (by kernel_rfl) (fun h => nomatch h) (fun _ => ?_)
                      refine Tr.skip ?_
                      show Tr _ _ _ _ _
                      refine Tr.rs ?_
                      refine LAt.runU tOk 1 (by kernel_rfl) ?_
                      refine LAt.doneU [4] [] (by kernel_rfl) ?_
                      refine Tr.ret ?_
                      have H := Option.some.inj H
                      subst H
                      exact Fin.of _ [(false, [.lit (.bool true)])] (by kernel_rfl) rfl rfl
                    · have H := bifT h10 H
                      refine Tr.cond (b := true) (by kernel_rfl) (fun _ => ?_) (fun h => nomatch h)
                      refine Tr.rs ?_
                      refine LAt.runU tOk 1 (by kernel_rfl) ?_
                      refine LAt.doneU [4] [] (by kernel_rfl) ?_
                      refine Tr.ret ?_
                      have H := Option.some.inj H
                      subst H
                      exact Fin.of _ [(false, [.lit (.bool false)])] (by kernel_rfl) rfl rfl
                  · have H := bifT h9 H
                    refine Tr.cond (b := true) (by kernel_rfl) (fun _ => ?_) (fun h => nomatch h)
                    refine Tr.rs ?_
                    refine LAt.runU tOk 1 (by kernel_rfl) ?_
                    refine LAt.doneU [4, 3, 2] [3, 2] (by kernel_rfl) ?_
                    refine Tr.ret ?_
                    have H := Option.some.inj H
                    subst H
                    exact Fin.of _ [(false, [.lit (.bool false)])] (by kernel_rfl) rfl rfl
                · have H := bifT h8 H
                  refine Tr.cond (b := true) (by kernel_rfl) (fun _ => ?_) (fun h => nomatch h)
                  refine Tr.rs ?_
                  refine LAt.runU tOk 1 (by kernel_rfl) ?_
                  refine LAt.doneU [4, 3, 2] [3, 2] (by kernel_rfl) ?_
                  refine Tr.ret ?_
                  have H := Option.some.inj H
                  subst H
                  exact Fin.of _ [(false, [.lit (.bool false)])] (by kernel_rfl) rfl rfl
              · have H := bifT h7 H
                refine Tr.cond (b := true) (by kernel_rfl) (fun _ => ?_) (fun h => nomatch h)
                refine Tr.rs ?_
                refine LAt.runU tOk 1 (by kernel_rfl) ?_
                refine LAt.doneU [4, 3, 2] [3, 2] (by kernel_rfl) ?_
                refine Tr.ret ?_
                have H := Option.some.inj H
                subst H
                exact Fin.of _ [(false, [.lit (.bool false)])] (by kernel_rfl) rfl rfl
            · have H := bifT h6 H
              refine Tr.cond (b := true) (by kernel_rfl) (fun _ => ?_) (fun h => nomatch h)
              refine Tr.rs ?_
              refine LAt.runU tOk 1 (by kernel_rfl) ?_
              refine LAt.doneU [4, 3, 2] [3, 2] (by kernel_rfl) ?_
              refine Tr.ret ?_
              have H := Option.some.inj H
              subst H
              exact Fin.of _ [(false, [.lit (.bool false)])] (by kernel_rfl) rfl rfl
          · have H := bifT h5 H
            refine Tr.cond (b := true) (by kernel_rfl) (fun _ => ?_) (fun h => nomatch h)
            refine Tr.rs ?_
            refine LAt.runU tOk 1 (by kernel_rfl) ?_
            refine LAt.doneU [4, 3, 2] [3, 2] (by kernel_rfl) ?_
            refine Tr.ret ?_
            have H := Option.some.inj H
            subst H
            exact Fin.of _ [(false, [.lit (.bool false)])] (by kernel_rfl) rfl rfl
        · have H := bifT h4 H
          refine Tr.cond (b := true) (by kernel_rfl) (fun _ => ?_) (fun h => nomatch h)
          refine Tr.rs ?_
          refine LAt.runU tOk 1 (by kernel_rfl) ?_
          refine LAt.doneU [4, 3, 2] [3, 2] (by kernel_rfl) ?_
          refine Tr.ret ?_
          have H := Option.some.inj H
          subst H
          exact Fin.of _ [(false, [.lit (.bool false)])] (by kernel_rfl) rfl rfl
      · have H := bifT h3 H
        refine Tr.cond (b := true) (by kernel_rfl) (fun _ => ?_) (fun h => nomatch h)
        refine Tr.rs ?_
        refine LAt.runU tOk 1 (by kernel_rfl) ?_
        refine LAt.doneU [4, 3, 2] [3, 2] (by kernel_rfl) ?_
        refine Tr.ret ?_
        have H := Option.some.inj H
        subst H
        exact Fin.of _ [(false, [.lit (.bool false)])] (by kernel_rfl) rfl rfl
    · have H := bifT h2 H
      refine Tr.cond (b := true) (by kernel_rfl) (fun _ => ?_) (fun h => nomatch h)
      refine Tr.rs ?_
      refine LAt.runU tOk 1 (by kernel_rfl) ?_
      refine LAt.doneU [4, 3, 2] [3, 2] (by kernel_rfl) ?_
      refine Tr.ret ?_
      have H := Option.some.inj H
      subst H
      exact Fin.of _ [(false, [.lit (.bool false)])] (by kernel_rfl) rfl rfl
  · have H := bifT h1 H
    refine Tr.cond (b := true) (by kernel_rfl) (fun _ => ?_) (fun h => nomatch h)
    refine Tr.rs ?_
    refine LAt.runU tOk 1 (by kernel_rfl) ?_
    refine LAt.doneU [4, 3, 2] [3, 2] (by kernel_rfl) ?_
    refine Tr.ret ?_
    have H := Option.some.inj H
    subst H
    exact Fin.of _ [(false, [.lit (.bool false)])] (by kernel_rfl) rfl rfl

def laws_markPtS_J1 (n : Nat) (y4 : (List Pt)) (y5 : Int) : Option (Int × (List Pt)) :=
  (some (y5, y4))
def laws_markPtS_L2 (n : Nat) : Nat → Int → (List Pt) → Int → Option (((List Pt) × Int) ⊕ (Int × (List Pt)))
  | 0, _, _, _ => none
  | mo6 + 1, y1, y2, y3 => (bif (decide (y1 < (y2.length : Int))) then (bif (decide ((3 : Int) ≠ 0)) then ((idx y2 y1).bind fun v8 => ((idx (y2.set (y1.toNat) (⟨((Int.tmod y3 3) == 0), v8.Cost, v8.Has, v8.Heard⟩ : Pt)) y1).bind fun v9 => (bif (decide ((3 : Int) ≠ 0)) then ((idx ((y2.set (y1.toNat) (⟨((Int.tmod y3 3) == 0), v8.Cost, v8.Has, v8.Heard⟩ : Pt)).set (y1.toNat) (⟨v9.Up, (IntKind.wrap .i64 (y3 + 1)), v9.Has, v9.Heard⟩ : Pt)) y1).bind fun v11 => ((idx (((y2.set (y1.toNat) (⟨((Int.tmod y3 3) == 0), v8.Cost, v8.Has, v8.Heard⟩ : Pt)).set (y1.toNat) (⟨v9.Up, (IntKind.wrap .i64 (y3 + 1)), v9.Has, v9.Heard⟩ : Pt)).set (y1.toNat) (⟨v11.Up, v11.Cost, ((Int.tmod (IntKind.wrap .i64 ((IntKind.wrap .i64 (y3 + 1)) + 1)) 3) == 0), v11.Heard⟩ : Pt)) y1).bind fun v12 => ((idx ((((y2.set (y1.toNat) (⟨((Int.tmod y3 3) == 0), v8.Cost, v8.Has, v8.Heard⟩ : Pt)).set (y1.toNat) (⟨v9.Up, (IntKind.wrap .i64 (y3 + 1)), v9.Has, v9.Heard⟩ : Pt)).set (y1.toNat) (⟨v11.Up, v11.Cost, ((Int.tmod (IntKind.wrap .i64 ((IntKind.wrap .i64 (y3 + 1)) + 1)) 3) == 0), v11.Heard⟩ : Pt)).set (y1.toNat) (⟨v12.Up, v12.Cost, v12.Has, (⟨(IntKind.wrap .i64 ((IntKind.wrap .i64 ((IntKind.wrap .i64 (y3 + 1)) + 1)) + 1)), v12.Heard.Cost, v12.Heard.Hops, v12.Heard.Bridge, v12.Heard.Port⟩ : Vec)⟩ : Pt)) y1).bind fun v13 => ((idx (((((y2.set (y1.toNat) (⟨((Int.tmod y3 3) == 0), v8.Cost, v8.Has, v8.Heard⟩ : Pt)).set (y1.toNat) (⟨v9.Up, (IntKind.wrap .i64 (y3 + 1)), v9.Has, v9.Heard⟩ : Pt)).set (y1.toNat) (⟨v11.Up, v11.Cost, ((Int.tmod (IntKind.wrap .i64 ((IntKind.wrap .i64 (y3 + 1)) + 1)) 3) == 0), v11.Heard⟩ : Pt)).set (y1.toNat) (⟨v12.Up, v12.Cost, v12.Has, (⟨(IntKind.wrap .i64 ((IntKind.wrap .i64 ((IntKind.wrap .i64 (y3 + 1)) + 1)) + 1)), v12.Heard.Cost, v12.Heard.Hops, v12.Heard.Bridge, v12.Heard.Port⟩ : Vec)⟩ : Pt)).set (y1.toNat) (⟨v13.Up, v13.Cost, v13.Has, (⟨v13.Heard.Root, (IntKind.wrap .i64 ((IntKind.wrap .i64 ((IntKind.wrap .i64 ((IntKind.wrap .i64 (y3 + 1)) + 1)) + 1)) + 1)), v13.Heard.Hops, v13.Heard.Bridge, v13.Heard.Port⟩ : Vec)⟩ : Pt)) y1).bind fun v14 => ((idx ((((((y2.set (y1.toNat) (⟨((Int.tmod y3 3) == 0), v8.Cost, v8.Has, v8.Heard⟩ : Pt)).set (y1.toNat) (⟨v9.Up, (IntKind.wrap .i64 (y3 + 1)), v9.Has, v9.Heard⟩ : Pt)).set (y1.toNat) (⟨v11.Up, v11.Cost, ((Int.tmod (IntKind.wrap .i64 ((IntKind.wrap .i64 (y3 + 1)) + 1)) 3) == 0), v11.Heard⟩ : Pt)).set (y1.toNat) (⟨v12.Up, v12.Cost, v12.Has, (⟨(IntKind.wrap .i64 ((IntKind.wrap .i64 ((IntKind.wrap .i64 (y3 + 1)) + 1)) + 1)), v12.Heard.Cost, v12.Heard.Hops, v12.Heard.Bridge, v12.Heard.Port⟩ : Vec)⟩ : Pt)).set (y1.toNat) (⟨v13.Up, v13.Cost, v13.Has, (⟨v13.Heard.Root, (IntKind.wrap .i64 ((IntKind.wrap .i64 ((IntKind.wrap .i64 ((IntKind.wrap .i64 (y3 + 1)) + 1)) + 1)) + 1)), v13.Heard.Hops, v13.Heard.Bridge, v13.Heard.Port⟩ : Vec)⟩ : Pt)).set (y1.toNat) (⟨v14.Up, v14.Cost, v14.Has, (⟨v14.Heard.Root, v14.Heard.Cost, (IntKind.wrap .i64 ((IntKind.wrap .i64 ((IntKind.wrap .i64 ((IntKind.wrap .i64 ((IntKind.wrap .i64 (y3 + 1)) + 1)) + 1)) + 1)) + 1)), v14.Heard.Bridge, v14.Heard.Port⟩ : Vec)⟩ : Pt)) y1).bind fun v15 => ((idx (((((((y2.set (y1.toNat) (⟨((Int.tmod y3 3) == 0), v8.Cost, v8.Has, v8.Heard⟩ : Pt)).set (y1.toNat) (⟨v9.Up, (IntKind.wrap .i64 (y3 + 1)), v9.Has, v9.Heard⟩ : Pt)).set (y1.toNat) (⟨v11.Up, v11.Cost, ((Int.tmod (IntKind.wrap .i64 ((IntKind.wrap .i64 (y3 + 1)) + 1)) 3) == 0), v11.Heard⟩ : Pt)).set (y1.toNat) (⟨v12.Up, v12.Cost, v12.Has, (⟨(IntKind.wrap .i64 ((IntKind.wrap .i64 ((IntKind.wrap .i64 (y3 + 1)) + 1)) + 1)), v12.Heard.Cost, v12.Heard.Hops, v12.Heard.Bridge, v12.Heard.Port⟩ : Vec)⟩ : Pt)).set (y1.toNat) (⟨v13.Up, v13.Cost, v13.Has, (⟨v13.Heard.Root, (IntKind.wrap .i64 ((IntKind.wrap .i64 ((IntKind.wrap .i64 ((IntKind.wrap .i64 (y3 + 1)) + 1)) + 1)) + 1)), v13.Heard.Hops, v13.Heard.Bridge, v13.Heard.Port⟩ : Vec)⟩ : Pt)).set (y1.toNat) (⟨v14.Up, v14.Cost, v14.Has, (⟨v14.Heard.Root, v14.Heard.Cost, (IntKind.wrap .i64 ((IntKind.wrap .i64 ((IntKind.wrap .i64 ((IntKind.wrap .i64 ((IntKind.wrap .i64 (y3 + 1)) + 1)) + 1)) + 1)) + 1)), v14.Heard.Bridge, v14.Heard.Port⟩ : Vec)⟩ : Pt)).set (y1.toNat) (⟨v15.Up, v15.Cost, v15.Has, (⟨v15.Heard.Root, v15.Heard.Cost, v15.Heard.Hops, (IntKind.wrap .i64 ((IntKind.wrap .i64 ((IntKind.wrap .i64 ((IntKind.wrap .i64 ((IntKind.wrap .i64 ((IntKind.wrap .i64 (y3 + 1)) + 1)) + 1)) + 1)) + 1)) + 1)), v15.Heard.Port⟩ : Vec)⟩ : Pt)) y1).bind fun v16 => (laws_markPtS_L2 n mo6 (IntKind.wrap .i64 (y1 + 1)) ((((((((y2.set (y1.toNat) (⟨((Int.tmod y3 3) == 0), v8.Cost, v8.Has, v8.Heard⟩ : Pt)).set (y1.toNat) (⟨v9.Up, (IntKind.wrap .i64 (y3 + 1)), v9.Has, v9.Heard⟩ : Pt)).set (y1.toNat) (⟨v11.Up, v11.Cost, ((Int.tmod (IntKind.wrap .i64 ((IntKind.wrap .i64 (y3 + 1)) + 1)) 3) == 0), v11.Heard⟩ : Pt)).set (y1.toNat) (⟨v12.Up, v12.Cost, v12.Has, (⟨(IntKind.wrap .i64 ((IntKind.wrap .i64 ((IntKind.wrap .i64 (y3 + 1)) + 1)) + 1)), v12.Heard.Cost, v12.Heard.Hops, v12.Heard.Bridge, v12.Heard.Port⟩ : Vec)⟩ : Pt)).set (y1.toNat) (⟨v13.Up, v13.Cost, v13.Has, (⟨v13.Heard.Root, (IntKind.wrap .i64 ((IntKind.wrap .i64 ((IntKind.wrap .i64 ((IntKind.wrap .i64 (y3 + 1)) + 1)) + 1)) + 1)), v13.Heard.Hops, v13.Heard.Bridge, v13.Heard.Port⟩ : Vec)⟩ : Pt)).set (y1.toNat) (⟨v14.Up, v14.Cost, v14.Has, (⟨v14.Heard.Root, v14.Heard.Cost, (IntKind.wrap .i64 ((IntKind.wrap .i64 ((IntKind.wrap .i64 ((IntKind.wrap .i64 ((IntKind.wrap .i64 (y3 + 1)) + 1)) + 1)) + 1)) + 1)), v14.Heard.Bridge, v14.Heard.Port⟩ : Vec)⟩ : Pt)).set (y1.toNat) (⟨v15.Up, v15.Cost, v15.Has, (⟨v15.Heard.Root, v15.Heard.Cost, v15.Heard.Hops, (IntKind.wrap .i64 ((IntKind.wrap .i64 ((IntKind.wrap .i64 ((IntKind.wrap .i64 ((IntKind.wrap .i64 ((IntKind.wrap .i64 (y3 + 1)) + 1)) + 1)) + 1)) + 1)) + 1)), v15.Heard.Port⟩ : Vec)⟩ : Pt)).set (y1.toNat) (⟨v16.Up, v16.Cost, v16.Has, (⟨v16.Heard.Root, v16.Heard.Cost, v16.Heard.Hops, v16.Heard.Bridge, (IntKind.wrap .i64 ((IntKind.wrap .i64 ((IntKind.wrap .i64 ((IntKind.wrap .i64 ((IntKind.wrap .i64 ((IntKind.wrap .i64 ((IntKind.wrap .i64 (y3 + 1)) + 1)) + 1)) + 1)) + 1)) + 1)) + 1))⟩ : Vec)⟩ : Pt)) (IntKind.wrap .i64 ((IntKind.wrap .i64 ((IntKind.wrap .i64 ((IntKind.wrap .i64 ((IntKind.wrap .i64 ((IntKind.wrap .i64 ((IntKind.wrap .i64 ((IntKind.wrap .i64 (y3 + 1)) + 1)) + 1)) + 1)) + 1)) + 1)) + 1)) + 1))))))))) else none))) else none) else (some (Sum.inl (y2, y3))))
def laws_markPtSF (n : Nat) (x0 : (List Pt)) (x1 : Int) : Option (Int × (List Pt)) :=
  ((laws_markPtS_L2 n n 0 x0 x1).bind fun o => match o with | .inl (y4, y5) => (laws_markPtS_J1 n y4 y5) | .inr r => some r)
/-- loop.example/g00326/laws.markPtS -/
theorem laws_markPtS (n : Nat) (x0 : (List Pt)) (x1 : Int) (r : Int × (List Pt)) (H : laws_markPtSF n x0 x1 = some r) : LCall Try.prog 122 [.io false [.sl true 8 (x0.map Pt.row)], .val false [.lit (.int .i64 x1)]] [.val false [.lit (.int .i64 r.1)]] [(0, [.sl true 8 (r.2.map Pt.row)])] := by
  refine LCall.of_body tOk Try.func122 rfl (c := (.seq (.region 0 (rg Try.f122 0) false) (.seq (.seq (.region 1 (rg Try.f122 1) false) (.block 0 (.loop (.seq (.seq (.region 2 (rg Try.f122 2) false) (.cond (.tmp 9) .skip (.exit 0))) (.seq (.block 1 (.seq (.region 4 (rg Try.f122 4) false) (.seq (.region 5 (rg Try.f122 5) false) (.seq (.region 6 (rg Try.f122 6) false) (.seq (.region 7 (rg Try.f122 7) false) (.seq (.region 8 (rg Try.f122 8) false) (.seq (.region 9 (rg Try.f122 9) false) (.seq (.region 10 (rg Try.f122 10) false) (.seq (.region 11 (rg Try.f122 11) false) (.seq (.region 12 (rg Try.f122 12) false) (.seq (.region 13 (rg Try.f122 13) false) (.seq (.region 14 (rg Try.f122 14) false) (.seq (.region 15 (rg Try.f122 15) false) (.seq (.region 16 (rg Try.f122 16) false) (.seq (.region 17 (rg Try.f122 17) false) (.seq (.region 18 (rg Try.f122 18) false) (.region 19 (rg Try.f122 19) false))))))))))))))))) (.region 3 (rg Try.f122 3) false)))))) (.seq (.region 20 (rg Try.f122 20) false) .ret)))) (by kernel_rfl) (Nat.le_of_ble_eq_true (by kernel_rfl)) 1 (rs := [.tmp 4]) rfl [0] (by decide) [(false, [.lit (.int .i64 r.1)])] [[.sl true 8 (r.2.map Pt.row)]] [] fun cx => ?_
  show Tr _ _ _ ⟨78, 1, [(0, .val false [.sl true 8 (x0.map Pt.row)]), (1, .val false [.lit (.int .i64 x1)])], []⟩ _
  unfold laws_markPtSF at H
  refine Tr.rs ?_
  refine LAt.runU tOk 1 (by kernel_rfl) ?_
  refine LAt.doneU [4, 0, 1] [] (by kernel_rfl) ?_
  refine Tr.seq ?_
  refine Tr.rs ?_
  refine LAt.runU tOk 1 (by kernel_rfl) ?_
  refine LAt.doneU [5, 4, 0, 1] [] (by kernel_rfl) ?_
  obtain ⟨o6, eo6, Ho6⟩ := bind_some H
  clear H
  refine Tr.mid (ι := (List Pt) × Int) (fun v => ⟨78, 1, [(4, .val false [.lit (.int .i64 0)]), (0, .val false [.sl true 8 (v.1.map Pt.row)]), (1, .val false [.lit (.int .i64 v.2)])], []⟩) (fun v => laws_markPtS_J1 n v.1 v.2 = some r) ?_ ?_
  · refine Tr.block ?_
    refine Tr.loop (ι := Nat × (Int × (List Pt) × Int)) (fun v => ⟨78, 1, [(5, .val false [.lit (.int .i64 v.2.1)]), (4, .val false [.lit (.int .i64 0)]), (0, .val false [.sl true 8 (v.2.2.1.map Pt.row)]), (1, .val false [.lit (.int .i64 v.2.2.2)])], []⟩) (fun v => laws_markPtS_L2 n v.1 v.2.1 v.2.2.1 v.2.2.2 = some o6) (fun v => v.1) (n, (0, x0, x1)) eo6 (St.sub_of [5, 4, 0, 1] [] (by kernel_rfl)) ?_
    rintro ⟨mo6, y1, y2, y3⟩ H
    have H : laws_markPtS_L2 n mo6 y1 y2 y3 = some o6 := H
    obtain _ | mo6 := mo6
    · cases (show (none : Option _) = some o6 from H)
    · rw [laws_markPtS_L2] at H
      refine Tr.seq ?_
      refine Tr.rs ?_
      refine LAt.runU tOk 2 (by kernel_rfl) ?_
      refine LAt.lenE tOk (t := 43) (ty := 3) (e := 41) (x := (.tmp 7)) (d := 8) (g := none) ⟨(.slot 0), [], 0, true, 8, (y2.map Pt.row)⟩ (y2).length _ (by kernel_rfl) (by kernel_rfl) (by kernel_rfl) (by kernel_rfl) (by kernel_rfl) (map_len _ _) rfl ?_
      refine LAt.runU tOk 1 (by kernel_rfl) ?_
      refine LAt.doneU [9, 8, 7, 6, 5, 4, 0, 1] [] (by kernel_rfl) ?_
      refine Tr.to ⟨78, 1, [(9, .val false [.lit (.bool (decide (y1 < (y2.length : Int))))]), (8, .val false [.lit (.int .i64 (y2.length : Int))]), (7, .ref (.slot 0) [] 0 0 1 false), (6, .val false [.lit (.int .i64 y1)]), (5, .val false [.lit (.int .i64 y1)]), (4, .val false [.lit (.int .i64 0)]), (0, .val false [.sl true 8 (y2.map Pt.row)]), (1, .val false [.lit (.int .i64 y3)])], []⟩ (by kernel_rfl) ?_
      cases h1 : (decide (y1 < (y2.length : Int)))
      · have H := bifF h1 H
        refine Tr.cond (b := false) (by kernel_rfl) (fun h => nomatch h) (fun _ => ?_)
        refine Tr.exit ?_
        refine And.intro (fun _ => ?_) (fun h => absurd rfl h)
        have H := Option.some.inj H
        subst H
        have H := Ho6
        dsimp only at H
        exact Exists.intro (y2, y3) (And.intro H (St.sub_of [4, 0, 1] [] (by kernel_rfl)))
      · have H := bifT h1 H
        refine Tr.cond (b := true) (by kernel_rfl) (fun _ => ?_) (fun h => nomatch h)
        refine Tr.skip ?_
        show Tr _ _ _ _ _
        refine Tr.seq ?_
        refine Tr.block ?_
        refine Tr.rs ?_
        refine LAt.runU tOk 3 (by kernel_rfl) ?_
        obtain ⟨hg7, H⟩ := guard_some H
        refine LAt.binC tOk (op := .rem) (t := 3) (ty := 3) (ty' := 3) (x := (.tmp 14)) (y := (.const (.int .i64 3))) (d := 15) (g := none) (.int .i64 y3) (.int .i64 3) (.int .i64 (Int.tmod y3 3)) _ (by kernel_rfl) (by kernel_rfl) (by kernel_rfl) (by kernel_rfl) (by kernel_rfl) (φ := (IntKind.i64 = IntKind.i64 ∧ (3 : Int) ≠ 0)) (by kernel_rfl) (⟨rfl, of_decide_eq_true hg7⟩) rfl ?_
        refine LAt.runU tOk 1 (by kernel_rfl) ?_
        obtain ⟨v8, ev8, H⟩ := bind_some H
        refine LAt.indexO tOk (t := 43) (ty := 0) (x := (.tmp 12)) (y := (.tmp 13)) (d := 17) (g := none) ⟨(.slot 0), [], 0, true, 8, (y2.map Pt.row)⟩ y1 (y1.toNat) (Pt.row v8) _ (by kernel_rfl) (by kernel_rfl) (by kernel_rfl) (by kernel_rfl) rfl (by kernel_rfl) (idx_isE ev8) rfl rfl ?_
        refine LAt.runU tOk 1 (by kernel_rfl) ?_
        refine LAt.storeU tOk (t := 4) (ty := 0) (ad := (.tmp 18)) (x := (.tmp 16)) (g := none) ⟨.bool, 1, 1, [.lit (.bool false)]⟩ false [.lit (.bool ((Int.tmod y3 3) == 0))] (.slot 0) [(0, (y1.toNat))] [(0, (y1.toNat))] 8 0 [.sl true 8 (y2.map Pt.row)] (Pt.row v8) [.sl true 8 (y2.map Pt.row)] [.sl true 8 ((y2.set (y1.toNat) (⟨((Int.tmod y3 3) == 0), v8.Cost, v8.Has, v8.Heard⟩ : Pt)).map Pt.row)] (by kernel_rfl) (by kernel_rfl) (by kernel_rfl) (by kernel_rfl) (by kernel_rfl) (by kernel_rfl) (getQ_elem rfl (idx_get ev8).2) rfl (by intro h; cases h) (by kernel_rfl) (by kernel_rfl) (by kernel_rfl) (modQ_elem (new := (⟨((Int.tmod y3 3) == 0), v8.Cost, v8.Has, v8.Heard⟩ : Pt)) rfl (idx_get ev8).2 rfl) (by kernel_rfl) ?_
        refine LAt.doneU [0, 18, 17, 16, 15, 14, 13, 9, 8, 6, 5, 4, 1] [] (by kernel_rfl) ?_
        refine Tr.rs ?_
        refine LAt.runU tOk 3 (by kernel_rfl) ?_
        refine LAt.doneU [1, 20, 19, 0, 18, 17, 16, 15, 14, 13, 9, 8, 6, 5, 4] [] (by kernel_rfl) ?_
        refine Tr.rs ?_
        refine LAt.runU tOk 3 (by kernel_rfl) ?_
        obtain ⟨v9, ev9, H⟩ := bind_some H
        refine LAt.indexO tOk (t := 43) (ty := 0) (x := (.tmp 21)) (y := (.tmp 22)) (d := 24) (g := none) ⟨(.slot 0), [], 0, true, 8, ((y2.set (y1.toNat) (⟨((Int.tmod y3 3) == 0), v8.Cost, v8.Has, v8.Heard⟩ : Pt)).map Pt.row)⟩ y1 (y1.toNat) (Pt.row v9) _ (by kernel_rfl) (by kernel_rfl) (by kernel_rfl) (by kernel_rfl) rfl (by kernel_rfl) (idx_isE ev9) rfl rfl ?_
        refine LAt.runU tOk 1 (by kernel_rfl) ?_
        refine LAt.storeU tOk (t := 3) (ty := 0) (ad := (.tmp 25)) (x := (.tmp 23)) (g := none) ⟨.int .i64, 1, 8, [.lit (.int .i64 0)]⟩ false [.lit (.int .i64 (IntKind.wrap .i64 (y3 + 1)))] (.slot 0) [(0, (y1.toNat))] [(0, (y1.toNat))] 8 1 [.sl true 8 ((y2.set (y1.toNat) (⟨((Int.tmod y3 3) == 0), v8.Cost, v8.Has, v8.Heard⟩ : Pt)).map Pt.row)] (Pt.row v9) [.sl true 8 ((y2.set (y1.toNat) (⟨((Int.tmod y3 3) == 0), v8.Cost, v8.Has, v8.Heard⟩ : Pt)).map Pt.row)] [.sl true 8 (((y2.set (y1.toNat) (⟨((Int.tmod y3 3) == 0), v8.Cost, v8.Has, v8.Heard⟩ : Pt)).set (y1.toNat) (⟨v9.Up, (IntKind.wrap .i64 (y3 + 1)), v9.Has, v9.Heard⟩ : Pt)).map Pt.row)] (by kernel_rfl) (by kernel_rfl) (by kernel_rfl) (by kernel_rfl) (by kernel_rfl) (by kernel_rfl) (getQ_elem rfl (idx_get ev9).2) rfl (by intro h; cases h) (by kernel_rfl) (by kernel_rfl) (by kernel_rfl) (modQ_elem (new := (⟨v9.Up, (IntKind.wrap .i64 (y3 + 1)), v9.Has, v9.Heard⟩ : Pt)) rfl (idx_get ev9).2 rfl) (by kernel_rfl) ?_
        refine LAt.doneU [0, 25, 24, 23, 22, 1, 20, 19, 18, 17, 16, 15, 14, 13, 9, 8, 6, 5, 4] [] (by kernel_rfl) ?_
        refine Tr.rs ?_
        refine LAt.runU tOk 3 (by kernel_rfl) ?_
        refine LAt.doneU [1, 27, 26, 0, 25, 24, 23, 22, 20, 19, 18, 17, 16, 15, 14, 13, 9, 8, 6, 5, 4] [] (by kernel_rfl) ?_
        refine Tr.rs ?_
        refine LAt.runU tOk 3 (by kernel_rfl) ?_
        obtain ⟨hg10, H⟩ := guard_some H
        refine LAt.binC tOk (op := .rem) (t := 3) (ty := 3) (ty' := 3) (x := (.tmp 30)) (y := (.const (.int .i64 3))) (d := 31) (g := none) (.int .i64 (IntKind.wrap .i64 ((IntKind.wrap .i64 (y3 + 1)) + 1))) (.int .i64 3) (.int .i64 (Int.tmod (IntKind.wrap .i64 ((IntKind.wrap .i64 (y3 + 1)) + 1)) 3)) _ (by kernel_rfl) (by kernel_rfl) (by kernel_rfl) (by kernel_rfl) (by kernel_rfl) (φ := (IntKind.i64 = IntKind.i64 ∧ (3 : Int) ≠ 0)) (by kernel_rfl) (⟨rfl, of_decide_eq_true hg10⟩) rfl ?_
        refine LAt.runU tOk 1 (by kernel_rfl) ?_
        obtain ⟨v11, ev11, H⟩ := bind_some H
        refine LAt.indexO tOk (t := 43) (ty := 0) (x := (.tmp 28)) (y := (.tmp 29)) (d := 33) (g := none) ⟨(.slot 0), [], 0, true, 8, (((y2.set (y1.toNat) (⟨((Int.tmod y3 3) == 0), v8.Cost, v8.Has, v8.Heard⟩ : Pt)).set (y1.toNat) (⟨v9.Up, (IntKind.wrap .i64 (y3 + 1)), v9.Has, v9.Heard⟩ : Pt)).map Pt.row)⟩ y1 (y1.toNat) (Pt.row v11) _ (by kernel_rfl) (by kernel_rfl) (by kernel_rfl) (by kernel_rfl) rfl (by kernel_rfl) (idx_isE ev11) rfl rfl ?_
        refine LAt.runU tOk 1 (by kernel_rfl) ?_
        refine LAt.storeU tOk (t := 4) (ty := 0) (ad := (.tmp 34)) (x := (.tmp 32)) (g := none) ⟨.bool, 1, 1, [.lit (.bool false)]⟩ false [.lit (.bool ((Int.tmod (IntKind.wrap .i64 ((IntKind.wrap .i64 (y3 + 1)) + 1)) 3) == 0))] (.slot 0) [(0, (y1.toNat))] [(0, (y1.toNat))] 8 2 [.sl true 8 (((y2.set (y1.toNat) (⟨((Int.tmod y3 3) == 0), v8.Cost, v8.Has, v8.Heard⟩ : Pt)).set (y1.toNat) (⟨v9.Up, (IntKind.wrap .i64 (y3 + 1)), v9.Has, v9.Heard⟩ : Pt)).map Pt.row)] (Pt.row v11) [.sl true 8 (((y2.set (y1.toNat) (⟨((Int.tmod y3 3) == 0), v8.Cost, v8.Has, v8.Heard⟩ : Pt)).set (y1.toNat) (⟨v9.Up, (IntKind.wrap .i64 (y3 + 1)), v9.Has, v9.Heard⟩ : Pt)).map Pt.row)] [.sl true 8 ((((y2.set (y1.toNat) (⟨((Int.tmod y3 3) == 0), v8.Cost, v8.Has, v8.Heard⟩ : Pt)).set (y1.toNat) (⟨v9.Up, (IntKind.wrap .i64 (y3 + 1)), v9.Has, v9.Heard⟩ : Pt)).set (y1.toNat) (⟨v11.Up, v11.Cost, ((Int.tmod (IntKind.wrap .i64 ((IntKind.wrap .i64 (y3 + 1)) + 1)) 3) == 0), v11.Heard⟩ : Pt)).map Pt.row)] (by kernel_rfl) (by kernel_rfl) (by kernel_rfl) (by kernel_rfl) (by kernel_rfl) (by kernel_rfl) (getQ_elem rfl (idx_get ev11).2) rfl (by intro h; cases h) (by kernel_rfl) (by kernel_rfl) (by kernel_rfl) (modQ_elem (new := (⟨v11.Up, v11.Cost, ((Int.tmod (IntKind.wrap .i64 ((IntKind.wrap .i64 (y3 + 1)) + 1)) 3) == 0), v11.Heard⟩ : Pt)) rfl (idx_get ev11).2 rfl) (by kernel_rfl) ?_
        refine LAt.doneU [0, 34, 33, 32, 31, 30, 29, 1, 27, 26, 25, 24, 23, 22, 20, 19, 18, 17, 16, 15, 14, 13, 9, 8, 6, 5, 4] [] (by kernel_rfl) ?_
        refine Tr.rs ?_
        refine LAt.runU tOk 3 (by kernel_rfl) ?_
        refine LAt.doneU [1, 36, 35, 0, 34, 33, 32, 31, 30, 29, 27, 26, 25, 24, 23, 22, 20, 19, 18, 17, 16, 15, 14, 13, 9, 8, 6, 5, 4] [] (by kernel_rfl) ?_
        refine Tr.rs ?_
        refine LAt.runU tOk 3 (by kernel_rfl) ?_
        obtain ⟨v12, ev12, H⟩ := bind_some H
        refine LAt.indexO tOk (t := 43) (ty := 0) (x := (.tmp 37)) (y := (.tmp 38)) (d := 40) (g := none) ⟨(.slot 0), [], 0, true, 8, ((((y2.set (y1.toNat) (⟨((Int.tmod y3 3) == 0), v8.Cost, v8.Has, v8.Heard⟩ : Pt)).set (y1.toNat) (⟨v9.Up, (IntKind.wrap .i64 (y3 + 1)), v9.Has, v9.Heard⟩ : Pt)).set (y1.toNat) (⟨v11.Up, v11.Cost, ((Int.tmod (IntKind.wrap .i64 ((IntKind.wrap .i64 (y3 + 1)) + 1)) 3) == 0), v11.Heard⟩ : Pt)).map Pt.row)⟩ y1 (y1.toNat) (Pt.row v12) _ (by kernel_rfl) (by kernel_rfl) (by kernel_rfl) (by kernel_rfl) rfl (by kernel_rfl) (idx_isE ev12) rfl rfl ?_
        refine LAt.runU tOk 2 (by kernel_rfl) ?_
        refine LAt.storeU tOk (t := 3) (ty := 0) (ad := (.tmp 42)) (x := (.tmp 39)) (g := none) ⟨.int .i64, 1, 8, [.lit (.int .i64 0)]⟩ false [.lit (.int .i64 (IntKind.wrap .i64 ((IntKind.wrap .i64 ((IntKind.wrap .i64 (y3 + 1)) + 1)) + 1)))] (.slot 0) [(0, (y1.toNat))] [(0, (y1.toNat))] 8 3 [.sl true 8 ((((y2.set (y1.toNat) (⟨((Int.tmod y3 3) == 0), v8.Cost, v8.Has, v8.Heard⟩ : Pt)).set (y1.toNat) (⟨v9.Up, (IntKind.wrap .i64 (y3 + 1)), v9.Has, v9.Heard⟩ : Pt)).set (y1.toNat) (⟨v11.Up, v11.Cost, ((Int.tmod (IntKind.wrap .i64 ((IntKind.wrap .i64 (y3 + 1)) + 1)) 3) == 0), v11.Heard⟩ : Pt)).map Pt.row)] (Pt.row v12) [.sl true 8 ((((y2.set (y1.toNat) (⟨((Int.tmod y3 3) == 0), v8.Cost, v8.Has, v8.Heard⟩ : Pt)).set (y1.toNat) (⟨v9.Up, (IntKind.wrap .i64 (y3 + 1)), v9.Has, v9.Heard⟩ : Pt)).set (y1.toNat) (⟨v11.Up, v11.Cost, ((Int.tmod (IntKind.wrap .i64 ((IntKind.wrap .i64 (y3 + 1)) + 1)) 3) == 0), v11.Heard⟩ : Pt)).map Pt.row)] [.sl true 8 (((((y2.set (y1.toNat) (⟨((Int.tmod y3 3) == 0), v8.Cost, v8.Has, v8.Heard⟩ : Pt)).set (y1.toNat) (⟨v9.Up, (IntKind.wrap .i64 (y3 + 1)), v9.Has, v9.Heard⟩ : Pt)).set (y1.toNat) (⟨v11.Up, v11.Cost, ((Int.tmod (IntKind.wrap .i64 ((IntKind.wrap .i64 (y3 + 1)) + 1)) 3) == 0), v11.Heard⟩ : Pt)).set (y1.toNat) (⟨v12.Up, v12.Cost, v12.Has, (⟨(IntKind.wrap .i64 ((IntKind.wrap .i64 ((IntKind.wrap .i64 (y3 + 1)) + 1)) + 1)), v12.Heard.Cost, v12.Heard.Hops, v12.Heard.Bridge, v12.Heard.Port⟩ : Vec)⟩ : Pt)).map Pt.row)] (by kernel_rfl) (by kernel_rfl) (by kernel_rfl) (by kernel_rfl) (by kernel_rfl) (by kernel_rfl) (getQ_elem rfl (idx_get ev12).2) rfl (by intro h; cases h) (by kernel_rfl) (by kernel_rfl) (by kernel_rfl) (modQ_elem (new := (⟨v12.Up, v12.Cost, v12.Has, (⟨(IntKind.wrap .i64 ((IntKind.wrap .i64 ((IntKind.wrap .i64 (y3 + 1)) + 1)) + 1)), v12.Heard.Cost, v12.Heard.Hops, v12.Heard.Bridge, v12.Heard.Port⟩ : Vec)⟩ : Pt)) rfl (idx_get ev12).2 rfl) (by kernel_rfl) ?_
        refine LAt.doneU [0, 42, 41, 40, 39, 38, 1, 36, 35, 34, 33, 32, 31, 30, 29, 27, 26, 25, 24, 23, 22, 20, 19, 18, 17, 16, 15, 14, 13, 9, 8, 6, 5, 4] [] (by kernel_rfl) ?_
        refine Tr.rs ?_
        refine LAt.runU tOk 3 (by kernel_rfl) ?_
        refine LAt.doneU [1, 44, 43, 0, 42, 41, 40, 39, 38, 36, 35, 34, 33, 32, 31, 30, 29, 27, 26, 25, 24, 23, 22, 20, 19, 18, 17, 16, 15, 14, 13, 9, 8, 6, 5, 4] [] (by kernel_rfl) ?_
        refine Tr.rs ?_
        refine LAt.runU tOk 3 (by kernel_rfl) ?_
        obtain ⟨v13, ev13, H⟩ := bind_some H
        refine LAt.indexO tOk (t := 43) (ty := 0) (x := (.tmp 45)) (y := (.tmp 46)) (d := 48) (g := none) ⟨(.slot 0), [], 0, true, 8, (((((y2.set (y1.toNat) (⟨((Int.tmod y3 3) == 0), v8.Cost, v8.Has, v8.Heard⟩ : Pt)).set (y1.toNat) (⟨v9.Up, (IntKind.wrap .i64 (y3 + 1)), v9.Has, v9.Heard⟩ : Pt)).set (y1.toNat) (⟨v11.Up, v11.Cost, ((Int.tmod (IntKind.wrap .i64 ((IntKind.wrap .i64 (y3 + 1)) + 1)) 3) == 0), v11.Heard⟩ : Pt)).set (y1.toNat) (⟨v12.Up, v12.Cost, v12.Has, (⟨(IntKind.wrap .i64 ((IntKind.wrap .i64 ((IntKind.wrap .i64 (y3 + 1)) + 1)) + 1)), v12.Heard.Cost, v12.Heard.Hops, v12.Heard.Bridge, v12.Heard.Port⟩ : Vec)⟩ : Pt)).map Pt.row)⟩ y1 (y1.toNat) (Pt.row v13) _ (by kernel_rfl) (by kernel_rfl) (by kernel_rfl) (by kernel_rfl) rfl (by kernel_rfl) (idx_isE ev13) rfl rfl ?_
        refine LAt.runU tOk 2 (by kernel_rfl) ?_
        refine LAt.storeU tOk (t := 3) (ty := 0) (ad := (.tmp 50)) (x := (.tmp 47)) (g := none) ⟨.int .i64, 1, 8, [.lit (.int .i64 0)]⟩ false [.lit (.int .i64 (IntKind.wrap .i64 ((IntKind.wrap .i64 ((IntKind.wrap .i64 ((IntKind.wrap .i64 (y3 + 1)) + 1)) + 1)) + 1)))] (.slot 0) [(0, (y1.toNat))] [(0, (y1.toNat))] 8 4 [.sl true 8 (((((y2.set (y1.toNat) (⟨((Int.tmod y3 3) == 0), v8.Cost, v8.Has, v8.Heard⟩ : Pt)).set (y1.toNat) (⟨v9.Up, (IntKind.wrap .i64 (y3 + 1)), v9.Has, v9.Heard⟩ : Pt)).set (y1.toNat) (⟨v11.Up, v11.Cost, ((Int.tmod (IntKind.wrap .i64 ((IntKind.wrap .i64 (y3 + 1)) + 1)) 3) == 0), v11.Heard⟩ : Pt)).set (y1.toNat) (⟨v12.Up, v12.Cost, v12.Has, (⟨(IntKind.wrap .i64 ((IntKind.wrap .i64 ((IntKind.wrap .i64 (y3 + 1)) + 1)) + 1)), v12.Heard.Cost, v12.Heard.Hops, v12.Heard.Bridge, v12.Heard.Port⟩ : Vec)⟩ : Pt)).map Pt.row)] (Pt.row v13) [.sl true 8 (((((y2.set (y1.toNat) (⟨((Int.tmod y3 3) == 0), v8.Cost, v8.Has, v8.Heard⟩ : Pt)).set (y1.toNat) (⟨v9.Up, (IntKind.wrap .i64 (y3 + 1)), v9.Has, v9.Heard⟩ : Pt)).set (y1.toNat) (⟨v11.Up, v11.Cost, ((Int.tmod (IntKind.wrap .i64 ((IntKind.wrap .i64 (y3 + 1)) + 1)) 3) == 0), v11.Heard⟩ : Pt)).set (y1.toNat) (⟨v12.Up, v12.Cost, v12.Has, (⟨(IntKind.wrap .i64 ((IntKind.wrap .i64 ((IntKind.wrap .i64 (y3 + 1)) + 1)) + 1)), v12.Heard.Cost, v12.Heard.Hops, v12.Heard.Bridge, v12.Heard.Port⟩ : Vec)⟩ : Pt)).map Pt.row)] [.sl true 8 ((((((y2.set (y1.toNat) (⟨((Int.tmod y3 3) == 0), v8.Cost, v8.Has, v8.Heard⟩ : Pt)).set (y1.toNat) (⟨v9.Up, (IntKind.wrap .i64 (y3 + 1)), v9.Has, v9.Heard⟩ : Pt)).set (y1.toNat) (⟨v11.Up, v11.Cost, ((Int.tmod (IntKind.wrap .i64 ((IntKind.wrap .i64 (y3 + 1)) + 1)) 3) == 0), v11.Heard⟩ : Pt)).set (y1.toNat) (⟨v12.Up, v12.Cost, v12.Has, (⟨(IntKind.wrap .i64 ((IntKind.wrap .i64 ((IntKind.wrap .i64 (y3 + 1)) + 1)) + 1)), v12.Heard.Cost, v12.Heard.Hops, v12.Heard.Bridge, v12.Heard.Port⟩ : Vec)⟩ : Pt)).set (y1.toNat) (⟨v13.Up, v13.Cost, v13.Has, (⟨v13.Heard.Root, (IntKind.wrap .i64 ((IntKind.wrap .i64 ((IntKind.wrap .i64 ((IntKind.wrap .i64 (y3 + 1)) + 1)) + 1)) + 1)), v13.Heard.Hops, v13.Heard.Bridge, v13.Heard.Port⟩ : Vec)⟩ : Pt)).map Pt.row)] (by kernel_rfl) (by kernel_rfl) (by kernel_rfl) (by kernel_rfl) (by kernel_rfl) (by kernel_rfl) (getQ_elem rfl (idx_get ev13).2) rfl (by intro h; cases h) (by kernel_rfl) (by kernel_rfl) (by kernel_rfl) (modQ_elem (new := (⟨v13.Up, v13.Cost, v13.Has, (⟨v13.Heard.Root, (IntKind.wrap .i64 ((IntKind.wrap .i64 ((IntKind.wrap .i64 ((IntKind.wrap .i64 (y3 + 1)) + 1)) + 1)) + 1)), v13.Heard.Hops, v13.Heard.Bridge, v13.Heard.Port⟩ : Vec)⟩ : Pt)) rfl (idx_get ev13).2 rfl) (by kernel_rfl) ?_
        refine LAt.doneU [0, 50, 49, 48, 47, 46, 1, 44, 43, 42, 41, 40, 39, 38, 36, 35, 34, 33, 32, 31, 30, 29, 27, 26, 25, 24, 23, 22, 20, 19, 18, 17, 16, 15, 14, 13, 9, 8, 6, 5, 4] [] (by kernel_rfl) ?_
        refine Tr.rs ?_
        refine LAt.runU tOk 3 (by kernel_rfl) ?_
        refine LAt.doneU [1, 52, 51, 0, 50, 49, 48, 47, 46, 44, 43, 42, 41, 40, 39, 38, 36, 35, 34, 33, 32, 31, 30, 29, 27, 26, 25, 24, 23, 22, 20, 19, 18, 17, 16, 15, 14, 13, 9, 8, 6, 5, 4] [] (by kernel_rfl) ?_
        refine Tr.rs ?_
        refine LAt.runU tOk 3 (by kernel_rfl) ?_
        obtain ⟨v14, ev14, H⟩ := bind_some H
        refine LAt.indexO tOk (t := 43) (ty := 0) (x := (.tmp 53)) (y := (.tmp 54)) (d := 56) (g := none) ⟨(.slot 0), [], 0, true, 8, ((((((y2.set (y1.toNat) (⟨((Int.tmod y3 3) == 0), v8.Cost, v8.Has, v8.Heard⟩ : Pt)).set (y1.toNat) (⟨v9.Up, (IntKind.wrap .i64 (y3 + 1)), v9.Has, v9.Heard⟩ : Pt)).set (y1.toNat) (⟨v11.Up, v11.Cost, ((Int.tmod (IntKind.wrap .i64 ((IntKind.wrap .i64 (y3 + 1)) + 1)) 3) == 0), v11.Heard⟩ : Pt)).set (y1.toNat) (⟨v12.Up, v12.Cost, v12.Has, (⟨(IntKind.wrap .i64 ((IntKind.wrap .i64 ((IntKind.wrap .i64 (y3 + 1)) + 1)) + 1)), v12.Heard.Cost, v12.Heard.Hops, v12.Heard.Bridge, v12.Heard.Port⟩ : Vec)⟩ : Pt)).set (y1.toNat) (⟨v13.Up, v13.Cost, v13.Has, (⟨v13.Heard.Root, (IntKind.wrap .i64 ((IntKind.wrap .i64 ((IntKind.wrap .i64 ((IntKind.wrap .i64 (y3 + 1)) + 1)) + 1)) + 1)), v13.Heard.Hops, v13.Heard.Bridge, v13.Heard.Port⟩ : Vec)⟩ : Pt)).map Pt.row)⟩ y1 (y1.toNat) (Pt.row v14) _ (by kernel_rfl) (by kernel_rfl) (by kernel_rfl) (by kernel_rfl) rfl (by kernel_rfl) (idx_isE ev14) rfl rfl ?_
        refine LAt.runU tOk 2 (by kernel_rfl) ?_
        refine LAt.storeU tOk (t := 3) (ty := 0) (ad := (.tmp 58)) (x := (.tmp 55)) (g := none) ⟨.int .i64, 1, 8, [.lit (.int .i64 0)]⟩ false [.lit (.int .i64 (IntKind.wrap .i64 ((IntKind.wrap .i64 ((IntKind.wrap .i64 ((IntKind.wrap .i64 ((IntKind.wrap .i64 (y3 + 1)) + 1)) + 1)) + 1)) + 1)))] (.slot 0) [(0, (y1.toNat))] [(0, (y1.toNat))] 8 5 [.sl true 8 ((((((y2.set (y1.toNat) (⟨((Int.tmod y3 3) == 0), v8.Cost, v8.Has, v8.Heard⟩ : Pt)).set (y1.toNat) (⟨v9.Up, (IntKind.wrap .i64 (y3 + 1)), v9.Has, v9.Heard⟩ : Pt)).set (y1.toNat) (⟨v11.Up, v11.Cost, ((Int.tmod (IntKind.wrap .i64 ((IntKind.wrap .i64 (y3 + 1)) + 1)) 3) == 0), v11.Heard⟩ : Pt)).set (y1.toNat) (⟨v12.Up, v12.Cost, v12.Has, (⟨(IntKind.wrap .i64 ((IntKind.wrap .i64 ((IntKind.wrap .i64 (y3 + 1)) + 1)) + 1)), v12.Heard.Cost, v12.Heard.Hops, v12.Heard.Bridge, v12.Heard.Port⟩ : Vec)⟩ : Pt)).set (y1.toNat) (⟨v13.Up, v13.Cost, v13.Has, (⟨v13.Heard.Root, (IntKind.wrap .i64 ((IntKind.wrap .i64 ((IntKind.wrap .i64 ((IntKind.wrap .i64 (y3 + 1)) + 1)) + 1)) + 1)), v13.Heard.Hops, v13.Heard.Bridge, v13.Heard.Port⟩ : Vec)⟩ : Pt)).map Pt.row)] (Pt.row v14) [.sl true 8 ((((((y2.set (y1.toNat) (⟨((Int.tmod y3 3) == 0), v8.Cost, v8.Has, v8.Heard⟩ : Pt)).set (y1.toNat) (⟨v9.Up, (IntKind.wrap .i64 (y3 + 1)), v9.Has, v9.Heard⟩ : Pt)).set (y1.toNat) (⟨v11.Up, v11.Cost, ((Int.tmod (IntKind.wrap .i64 ((IntKind.wrap .i64 (y3 + 1)) + 1)) 3) == 0), v11.Heard⟩ : Pt)).set (y1.toNat) (⟨v12.Up, v12.Cost, v12.Has, (⟨(IntKind.wrap .i64 ((IntKind.wrap .i64 ((IntKind.wrap .i64 (y3 + 1)) + 1)) + 1)), v12.Heard.Cost, v12.Heard.Hops, v12.Heard.Bridge, v12.Heard.Port⟩ : Vec)⟩ : Pt)).set (y1.toNat) (⟨v13.Up, v13.Cost, v13.Has, (⟨v13.Heard.Root, (IntKind.wrap .i64 ((IntKind.wrap .i64 ((IntKind.wrap .i64 ((IntKind.wrap .i64 (y3 + 1)) + 1)) + 1)) + 1)), v13.Heard.Hops, v13.Heard.Bridge, v13.Heard.Port⟩ : Vec)⟩ : Pt)).map Pt.row)] [.sl true 8 (((((((y2.set (y1.toNat) (⟨((Int.tmod y3 3) == 0), v8.Cost, v8.Has, v8.Heard⟩ : Pt)).set (y1.toNat) (⟨v9.Up, (IntKind.wrap .i64 (y3 + 1)), v9.Has, v9.Heard⟩ : Pt)).set (y1.toNat) (⟨v11.Up, v11.Cost, ((Int.tmod (IntKind.wrap .i64 ((IntKind.wrap .i64 (y3 + 1)) + 1)) 3) == 0), v11.Heard⟩ : Pt)).set (y1.toNat) (⟨v12.Up, v12.Cost, v12.Has, (⟨(IntKind.wrap .i64 ((IntKind.wrap .i64 ((IntKind.wrap .i64 (y3 + 1)) + 1)) + 1)), v12.Heard.Cost, v12.Heard.Hops, v12.Heard.Bridge, v12.Heard.Port⟩ : Vec)⟩ : Pt)).set (y1.toNat) (⟨v13.Up, v13.Cost, v13.Has, (⟨v13.Heard.Root, (IntKind.wrap .i64 ((IntKind.wrap .i64 ((IntKind.wrap .i64 ((IntKind.wrap .i64 (y3 + 1)) + 1)) + 1)) + 1)), v13.Heard.Hops, v13.Heard.Bridge, v13.Heard.Port⟩ : Vec)⟩ : Pt)).set (y1.toNat) (⟨v14.Up, v14.Cost, v14.Has, (⟨v14.Heard.Root, v14.Heard.Cost, (IntKind.wrap .i64 ((IntKind.wrap .i64 ((IntKind.wrap .i64 ((IntKind.wrap .i64 ((IntKind.wrap .i64 (y3 + 1)) + 1)) + 1)) + 1)) + 1)), v14.Heard.Bridge, v14.Heard.Port⟩ : Vec)⟩ : Pt)).map Pt.row)] (by kernel_rfl) (by kernel_rfl) (by kernel_rfl) (by kernel_rfl) (by kernel_rfl) (by kernel_rfl) (getQ_elem rfl (idx_get ev14).2) rfl (by intro h; cases h) (by kernel_rfl) (by kernel_rfl) (by kernel_rfl) (modQ_elem (new := (⟨v14.Up, v14.Cost, v14.Has, (⟨v14.Heard.Root, v14.Heard.Cost, (IntKind.wrap .i64 ((IntKind.wrap .i64 ((IntKind.wrap .i64 ((IntKind.wrap .i64 ((IntKind.wrap .i64 (y3 + 1)) + 1)) + 1)) + 1)) + 1)), v14.Heard.Bridge, v14.Heard.Port⟩ : Vec)⟩ : Pt)) rfl (idx_get ev14).2 rfl) (by kernel_rfl) ?_
        refine LAt.doneU [0, 58, 57, 56, 55, 54, 1, 52, 51, 50, 49, 48, 47, 46, 44, 43, 42, 41, 40, 39, 38, 36, 35, 34, 33, 32, 31, 30, 29, 27, 26, 25, 24, 23, 22, 20, 19, 18, 17, 16, 15, 14, 13, 9, 8, 6, 5, 4] [] (by kernel_rfl) ?_
        refine Tr.rs ?_
        refine LAt.runU tOk 3 (by kernel_rfl) ?_
        refine LAt.doneU [1, 60, 59, 0, 58, 57, 56, 55, 54, 52, 51, 50, 49, 48, 47, 46, 44, 43, 42, 41, 40, 39, 38, 36, 35, 34, 33, 32, 31, 30, 29, 27, 26, 25, 24, 23, 22, 20, 19, 18, 17, 16, 15, 14, 13, 9, 8, 6, 5, 4] [] (by kernel_rfl) ?_
        refine Tr.rs ?_
        refine LAt.runU tOk 3 (by kernel_rfl) ?_
        obtain ⟨v15, ev15, H⟩ := bind_some H
        refine LAt.indexO tOk (t := 43) (ty := 0) (x := (.tmp 61)) (y := (.tmp 62)) (d := 64) (g := none) ⟨(.slot 0), [], 0, true, 8, (((((((y2.set (y1.toNat) (⟨((Int.tmod y3 3) == 0), v8.Cost, v8.Has, v8.Heard⟩ : Pt)).set (y1.toNat) (⟨v9.Up, (IntKind.wrap .i64 (y3 + 1)), v9.Has, v9.Heard⟩ : Pt)).set (y1.toNat) (⟨v11.Up, v11.Cost, ((Int.tmod (IntKind.wrap .i64 ((IntKind.wrap .i64 (y3 + 1)) + 1)) 3) == 0), v11.Heard⟩ : Pt)).set (y1.toNat) (⟨v12.Up, v12.Cost, v12.Has, (⟨(IntKind.wrap .i64 ((IntKind.wrap .i64 ((IntKind.wrap .i64 (y3 + 1)) + 1)) + 1)), v12.Heard.Cost, v12.Heard.Hops, v12.Heard.Bridge, v12.Heard.Port⟩ : Vec)⟩ : Pt)).set (y1.toNat) (⟨v13.Up, v13.Cost, v13.Has, (⟨v13.Heard.Root, (IntKind.wrap .i64 ((IntKind.wrap .i64 ((IntKind.wrap .i64 ((IntKind.wrap .i64 (y3 + 1)) + 1)) + 1)) + 1)), v13.Heard.Hops, v13.Heard.Bridge, v13.Heard.Port⟩ : Vec)⟩ : Pt)).set (y1.toNat) (⟨v14.Up, v14.Cost, v14.Has, (⟨v14.Heard.Root, v14.Heard.Cost, (IntKind.wrap .i64 ((IntKind.wrap .i64 ((IntKind.wrap .i64 ((IntKind.wrap .i64 ((IntKind.wrap .i64 (y3 + 1)) + 1)) + 1)) + 1)) + 1)), v14.Heard.Bridge, v14.Heard.Port⟩ : Vec)⟩ : Pt)).map Pt.row)⟩ y1 (y1.toNat) (Pt.row v15) _ (by kernel_rfl) (by kernel_rfl) (by kernel_rfl) (by kernel_rfl) rfl (by kernel_rfl) (idx_isE ev15) rfl rfl ?_
        refine LAt.runU tOk 2 (by kernel_rfl) ?_
        refine LAt.storeU tOk (t := 3) (ty := 0) (ad := (.tmp 66)) (x := (.tmp 63)) (g := none) ⟨.int .i64, 1, 8, [.lit (.int .i64 0)]⟩ false [.lit (.int .i64 (IntKind.wrap .i64 ((IntKind.wrap .i64 ((IntKind.wrap .i64 ((IntKind.wrap .i64 ((IntKind.wrap .i64 ((IntKind.wrap .i64 (y3 + 1)) + 1)) + 1)) + 1)) + 1)) + 1)))] (.slot 0) [(0, (y1.toNat))] [(0, (y1.toNat))] 8 6 [.sl true 8 (((((((y2.set (y1.toNat) (⟨((Int.tmod y3 3) == 0), v8.Cost, v8.Has, v8.Heard⟩ : Pt)).set (y1.toNat) (⟨v9.Up, (IntKind.wrap .i64 (y3 + 1)), v9.Has, v9.Heard⟩ : Pt)).set (y1.toNat) (⟨v11.Up, v11.Cost, ((Int.tmod (IntKind.wrap .i64 ((IntKind.wrap .i64 (y3 + 1)) + 1)) 3) == 0), v11.Heard⟩ : Pt)).set (y1.toNat) (⟨v12.Up, v12.Cost, v12.Has, (⟨(IntKind.wrap .i64 ((IntKind.wrap .i64 ((IntKind.wrap .i64 (y3 + 1)) + 1)) + 1)), v12.Heard.Cost, v12.Heard.Hops, v12.Heard.Bridge, v12.Heard.Port⟩ : Vec)⟩ : Pt)).set (y1.toNat) (⟨v13.Up, v13.Cost, v13.Has, (⟨v13.Heard.Root, (IntKind.wrap .i64 ((IntKind.wrap .i64 ((IntKind.wrap .i64 ((IntKind.wrap .i64 (y3 + 1)) + 1)) + 1)) + 1)), v13.Heard.Hops, v13.Heard.Bridge, v13.Heard.Port⟩ : Vec)⟩ : Pt)).set (y1.toNat) (⟨v14.Up, v14.Cost, v14.Has, (⟨v14.Heard.Root, v14.Heard.Cost, (IntKind.wrap .i64 ((IntKind.wrap .i64 ((IntKind.wrap .i64 ((IntKind.wrap .i64 ((IntKind.wrap .i64 (y3 + 1)) + 1)) + 1)) + 1)) + 1)), v14.Heard.Bridge, v14.Heard.Port⟩ : Vec)⟩ : Pt)).map Pt.row)] (Pt.row v15) [.sl true 8 (((((((y2.set (y1.toNat) (⟨((Int.tmod y3 3) == 0), v8.Cost, v8.Has, v8.Heard⟩ : Pt)).set (y1.toNat) (⟨v9.Up, (IntKind.wrap .i64 (y3 + 1)), v9.Has, v9.Heard⟩ : Pt)).set (y1.toNat) (⟨v11.Up, v11.Cost, ((Int.tmod (IntKind.wrap .i64 ((IntKind.wrap .i64 (y3 + 1)) + 1)) 3) == 0), v11.Heard⟩ : Pt)).set (y1.toNat) (⟨v12.Up, v12.Cost, v12.Has, (⟨(IntKind.wrap .i64 ((IntKind.wrap .i64 ((IntKind.wrap .i64 (y3 + 1)) + 1)) + 1)), v12.Heard.Cost, v12.Heard.Hops, v12.Heard.Bridge, v12.Heard.Port⟩ : Vec)⟩ : Pt)).set (y1.toNat) (⟨v13.Up, v13.Cost, v13.Has, (⟨v13.Heard.Root, (IntKind.wrap .i64 ((IntKind.wrap .i64 ((IntKind.wrap .i64 ((IntKind.wrap .i64 (y3 + 1)) + 1)) + 1)) + 1)), v13.Heard.Hops, v13.Heard.Bridge, v13.Heard.Port⟩ : Vec)⟩ : Pt)).set (y1.toNat) (⟨v14.Up, v14.Cost, v14.Has, (⟨v14.Heard.Root, v14.Heard.Cost, (IntKind.wrap .i64 ((IntKind.wrap .i64 ((IntKind.wrap .i64 ((IntKind.wrap .i64 ((IntKind.wrap .i64 (y3 + 1)) + 1)) + 1)) + 1)) + 1)), v14.Heard.Bridge, v14.Heard.Port⟩ : Vec)⟩ : Pt)).map Pt.row)] [.sl true 8 ((((((((y2.set (y1.toNat) (⟨((Int.tmod y3 3) == 0), v8.Cost, v8.Has, v8.Heard⟩ : Pt)).set (y1.toNat) (⟨v9.Up, (IntKind.wrap .i64 (y3 + 1)), v9.Has, v9.Heard⟩ : Pt)).set (y1.toNat) (⟨v11.Up, v11.Cost, ((Int.tmod (IntKind.wrap .i64 ((IntKind.wrap .i64 (y3 + 1)) + 1)) 3) == 0), v11.Heard⟩ : Pt)).set (y1.toNat) (⟨v12.Up, v12.Cost, v12.Has, (⟨(IntKind.wrap .i64 ((IntKind.wrap .i64 ((IntKind.wrap .i64 (y3 + 1)) + 1)) + 1)), v12.Heard.Cost, v12.Heard.Hops, v12.Heard.Bridge, v12.Heard.Port⟩ : Vec)⟩ : Pt)).set (y1.toNat) (⟨v13.Up, v13.Cost, v13.Has, (⟨v13.Heard.Root, (IntKind.wrap .i64 ((IntKind.wrap .i64 ((IntKind.wrap .i64 ((IntKind.wrap .i64 (y3 + 1)) + 1)) + 1)) + 1)), v13.Heard.Hops, v13.Heard.Bridge, v13.Heard.Port⟩ : Vec)⟩ : Pt)).set (y1.toNat) (⟨v14.Up, v14.Cost, v14.Has, (⟨v14.Heard.Root, v14.Heard.Cost, (IntKind.wrap .i64 ((IntKind.wrap .i64 ((IntKind.wrap .i64 ((IntKind.wrap .i64 ((IntKind.wrap .i64 (y3 + 1)) + 1)) + 1)) + 1)) + 1)), v14.Heard.Bridge, v14.Heard.Port⟩ : Vec)⟩ : Pt)).set (y1.toNat) (⟨v15.Up, v15.Cost, v15.Has, (⟨v15.Heard.Root, v15.Heard.Cost, v15.Heard.Hops, (IntKind.wrap .i64 ((IntKind.wrap .i64 ((IntKind.wrap .i64 ((IntKind.wrap .i64 ((IntKind.wrap .i64 ((IntKind.wrap .i64 (y3 + 1)) + 1)) + 1)) + 1)) + 1)) + 1)), v15.Heard.Port⟩ : Vec)⟩ : Pt)).map Pt.row)] (by kernel_rfl) (by kernel_rfl) (by kernel_rfl) (by kernel_rfl) (by kernel_rfl) (by kernel_rfl) (getQ_elem rfl (idx_get ev15).2) rfl (by intro h; cases h) (by kernel_rfl) (by kernel_rfl) (by kernel_rfl) (modQ_elem (new := (⟨v15.Up, v15.Cost, v15.Has, (⟨v15.Heard.Root, v15.Heard.Cost, v15.Heard.Hops, (IntKind.wrap .i64 ((IntKind.wrap .i64 ((IntKind.wrap .i64 ((IntKind.wrap .i64 ((IntKind.wrap .i64 ((IntKind.wrap .i64 (y3 + 1)) + 1)) + 1)) + 1)) + 1)) + 1)), v15.Heard.Port⟩ : Vec)⟩ : Pt)) rfl (idx_get ev15).2 rfl) (by kernel_rfl) ?_
        refine LAt.doneU [0, 66, 65, 64, 63, 62, 1, 60, 59, 58, 57, 56, 55, 54, 52, 51, 50, 49, 48, 47, 46, 44, 43, 42, 41, 40, 39, 38, 36, 35, 34, 33, 32, 31, 30, 29, 27, 26, 25, 24, 23, 22, 20, 19, 18, 17, 16, 15, 14, 13, 9, 8, 6, 5, 4] [] (by kernel_rfl) ?_
        refine Tr.rs ?_
        refine LAt.runU tOk 3 (by kernel_rfl) ?_
        refine LAt.doneU [1, 68, 67, 0, 66, 65, 64, 63, 62, 60, 59, 58, 57, 56, 55, 54, 52, 51, 50, 49, 48, 47, 46, 44, 43, 42, 41, 40, 39, 38, 36, 35, 34, 33, 32, 31, 30, 29, 27, 26, 25, 24, 23, 22, 20, 19, 18, 17, 16, 15, 14, 13, 9, 8, 6, 5, 4] [] (by kernel_rfl) ?_
        refine Tr.rs ?_
        refine LAt.runU tOk 3 (by kernel_rfl) ?_
        obtain ⟨v16, ev16, H⟩ := bind_some H
        refine LAt.indexO tOk (t := 43) (ty := 0) (x := (.tmp 69)) (y := (.tmp 70)) (d := 72) (g := none) ⟨(.slot 0), [], 0, true, 8, ((((((((y2.set (y1.toNat) (⟨((Int.tmod y3 3) == 0), v8.Cost, v8.Has, v8.Heard⟩ : Pt)).set (y1.toNat) (⟨v9.Up, (IntKind.wrap .i64 (y3 + 1)), v9.Has, v9.Heard⟩ : Pt)).set (y1.toNat) (⟨v11.Up, v11.Cost, ((Int.tmod (IntKind.wrap .i64 ((IntKind.wrap .i64 (y3 + 1)) + 1)) 3) == 0), v11.Heard⟩ : Pt)).set (y1.toNat) (⟨v12.Up, v12.Cost, v12.Has, (⟨(IntKind.wrap .i64 ((IntKind.wrap .i64 ((IntKind.wrap .i64 (y3 + 1)) + 1)) + 1)), v12.Heard.Cost, v12.Heard.Hops, v12.Heard.Bridge, v12.Heard.Port⟩ : Vec)⟩ : Pt)).set (y1.toNat) (⟨v13.Up, v13.Cost, v13.Has, (⟨v13.Heard.Root, (IntKind.wrap .i64 ((IntKind.wrap .i64 ((IntKind.wrap .i64 ((IntKind.wrap .i64 (y3 + 1)) + 1)) + 1)) + 1)), v13.Heard.Hops, v13.Heard.Bridge, v13.Heard.Port⟩ : Vec)⟩ : Pt)).set (y1.toNat) (⟨v14.Up, v14.Cost, v14.Has, (⟨v14.Heard.Root, v14.Heard.Cost, (IntKind.wrap .i64 ((IntKind.wrap .i64 ((IntKind.wrap .i64 ((IntKind.wrap .i64 ((IntKind.wrap .i64 (y3 + 1)) + 1)) + 1)) + 1)) + 1)), v14.Heard.Bridge, v14.Heard.Port⟩ : Vec)⟩ : Pt)).set (y1.toNat) (⟨v15.Up, v15.Cost, v15.Has, (⟨v15.Heard.Root, v15.Heard.Cost, v15.Heard.Hops, (IntKind.wrap .i64 ((IntKind.wrap .i64 ((IntKind.wrap .i64 ((IntKind.wrap .i64 ((IntKind.wrap .i64 ((IntKind.wrap .i64 (y3 + 1)) + 1)) + 1)) + 1)) + 1)) + 1)), v15.Heard.Port⟩ : Vec)⟩ : Pt)).map Pt.row)⟩ y1 (y1.toNat) (Pt.row v16) _ (by kernel_rfl) (by kernel_rfl) (by kernel_rfl) (by kernel_rfl) rfl (by kernel_rfl) (idx_isE ev16) rfl rfl ?_
        refine LAt.runU tOk 2 (by kernel_rfl) ?_
        refine LAt.storeU tOk (t := 3) (ty := 0) (ad := (.tmp 74)) (x := (.tmp 71)) (g := none) ⟨.int .i64, 1, 8, [.lit (.int .i64 0)]⟩ false [.lit (.int .i64 (IntKind.wrap .i64 ((IntKind.wrap .i64 ((IntKind.wrap .i64 ((IntKind.wrap .i64 ((IntKind.wrap .i64 ((IntKind.wrap .i64 ((IntKind.wrap .i64 (y3 + 1)) + 1)) + 1)) + 1)) + 1)) + 1)) + 1)))] (.slot 0) [(0, (y1.toNat))] [(0, (y1.toNat))] 8 7 [.sl true 8 ((((((((y2.set (y1.toNat) (⟨((Int.tmod y3 3) == 0), v8.Cost, v8.Has, v8.Heard⟩ : Pt)).set (y1.toNat) (⟨v9.Up, (IntKind.wrap .i64 (y3 + 1)), v9.Has, v9.Heard⟩ : Pt)).set (y1.toNat) (⟨v11.Up, v11.Cost, ((Int.tmod (IntKind.wrap .i64 ((IntKind.wrap .i64 (y3 + 1)) + 1)) 3) == 0), v11.Heard⟩ : Pt)).set (y1.toNat) (⟨v12.Up, v12.Cost, v12.Has, (⟨(IntKind.wrap .i64 ((IntKind.wrap .i64 ((IntKind.wrap .i64 (y3 + 1)) + 1)) + 1)), v12.Heard.Cost, v12.Heard.Hops, v12.Heard.Bridge, v12.Heard.Port⟩ : Vec)⟩ : Pt)).set (y1.toNat) (⟨v13.Up, v13.Cost, v13.Has, (⟨v13.Heard.Root, (IntKind.wrap .i64 ((IntKind.wrap .i64 ((IntKind.wrap .i64 ((IntKind.wrap .i64 (y3 + 1)) + 1)) + 1)) + 1)), v13.Heard.Hops, v13.Heard.Bridge, v13.Heard.Port⟩ : Vec)⟩ : Pt)).set (y1.toNat) (⟨v14.Up, v14.Cost, v14.Has, (⟨v14.Heard.Root, v14.Heard.Cost, (IntKind.wrap .i64 ((IntKind.wrap .i64 ((IntKind.wrap .i64 ((IntKind.wrap .i64 ((IntKind.wrap .i64 (y3 + 1)) + 1)) + 1)) + 1)) + 1)), v14.Heard.Bridge, v14.Heard.Port⟩ : Vec)⟩ : Pt)).set (y1.toNat) (⟨v15.Up, v15.Cost, v15.Has, (⟨v15.Heard.Root, v15.Heard.Cost, v15.Heard.Hops, (IntKind.wrap .i64 ((IntKind.wrap .i64 ((IntKind.wrap .i64 ((IntKind.wrap .i64 ((IntKind.wrap .i64 ((IntKind.wrap .i64 (y3 + 1)) + 1)) + 1)) + 1)) + 1)) + 1)), v15.Heard.Port⟩ : Vec)⟩ : Pt)).map Pt.row)] (Pt.row v16) [.sl true 8 ((((((((y2.set (y1.toNat) (⟨((Int.tmod y3 3) == 0), v8.Cost, v8.Has, v8.Heard⟩ : Pt)).set (y1.toNat) (⟨v9.Up, (IntKind.wrap .i64 (y3 + 1)), v9.Has, v9.Heard⟩ : Pt)).set (y1.toNat) (⟨v11.Up, v11.Cost, ((Int.tmod (IntKind.wrap .i64 ((IntKind.wrap .i64 (y3 + 1)) + 1)) 3) == 0), v11.Heard⟩ : Pt)).set (y1.toNat) (⟨v12.Up, v12.Cost, v12.Has, (⟨(IntKind.wrap .i64 ((IntKind.wrap .i64 ((IntKind.wrap .i64 (y3 + 1)) + 1)) + 1)), v12.Heard.Cost, v12.Heard.Hops, v12.Heard.Bridge, v12.Heard.Port⟩ : Vec)⟩ : Pt)).set (y1.toNat) (⟨v13.Up, v13.Cost, v13.Has, (⟨v13.Heard.Root, (IntKind.wrap .i64 ((IntKind.wrap .i64 ((IntKind.wrap .i64 ((IntKind.wrap .i64 (y3 + 1)) + 1)) + 1)) + 1)), v13.Heard.Hops, v13.Heard.Bridge, v13.Heard.Port⟩ : Vec)⟩ : Pt)).set (y1.toNat) (⟨v14.Up, v14.Cost, v14.Has, (⟨v14.Heard.Root, v14.Heard.Cost, (IntKind.wrap .i64 ((IntKind.wrap .i64 ((IntKind.wrap .i64 ((IntKind.wrap .i64 ((IntKind.wrap .i64 (y3 + 1)) + 1)) + 1)) + 1)) + 1)), v14.Heard.Bridge, v14.Heard.Port⟩ : Vec)⟩ : Pt)).set (y1.toNat) (⟨v15.Up, v15.Cost, v15.Has, (⟨v15.Heard.Root, v15.Heard.Cost, v15.Heard.Hops, (IntKind.wrap .i64 ((IntKind.wrap .i64 ((IntKind.wrap .i64 ((IntKind.wrap .i64 ((IntKind.wrap .i64 ((IntKind.wrap .i64 (y3 + 1)) + 1)) + 1)) + 1)) + 1)) + 1)), v15.Heard.Port⟩ : Vec)⟩ : Pt)).map Pt.row)] [.sl true 8 (((((((((y2.set (y1.toNat) (⟨((Int.tmod y3 3) == 0), v8.Cost, v8.Has, v8.Heard⟩ : Pt)).set (y1.toNat) (⟨v9.Up, (IntKind.wrap .i64 (y3 + 1)), v9.Has, v9.Heard⟩ : Pt)).set (y1.toNat) (⟨v11.Up, v11.Cost, ((Int.tmod (IntKind.wrap .i64 ((IntKind.wrap .i64 (y3 + 1)) + 1)) 3) == 0), v11.Heard⟩ : Pt)).set (y1.toNat) (⟨v12.Up, v12.Cost, v12.Has, (⟨(IntKind.wrap .i64 ((IntKind.wrap .i64 ((IntKind.wrap .i64 (y3 + 1)) + 1)) + 1)), v12.Heard.Cost, v12.Heard.Hops, v12.Heard.Bridge, v12.Heard.Port⟩ : Vec)⟩ : Pt)).set (y1.toNat) (⟨v13.Up, v13.Cost, v13.Has, (⟨v13.Heard.Root, (IntKind.wrap .i64 ((IntKind.wrap .i64 ((IntKind.wrap .i64 ((IntKind.wrap .i64 (y3 + 1)) + 1)) + 1)) + 1)), v13.Heard.Hops, v13.Heard.Bridge, v13.Heard.Port⟩ : Vec)⟩ : Pt)).set (y1.toNat) (⟨v14.Up, v14.Cost, v14.Has, (⟨v14.Heard.Root, v14.Heard.Cost, (IntKind.wrap .i64 ((IntKind.wrap .i64 ((IntKind.wrap .i64 ((IntKind.wrap .i64 ((IntKind.wrap .i64 (y3 + 1)) + 1)) + 1)) + 1)) + 1)), v14.Heard.Bridge, v14.Heard.Port⟩ : Vec)⟩ : Pt)).set (y1.toNat) (⟨v15.Up, v15.Cost, v15.Has, (⟨v15.Heard.Root, v15.Heard.Cost, v15.Heard.Hops, (IntKind.wrap .i64 ((IntKind.wrap .i64 ((IntKind.wrap .i64 ((IntKind.wrap .i64 ((IntKind.wrap .i64 ((IntKind.wrap .i64 (y3 + 1)) + 1)) + 1)) + 1)) + 1)) + 1)), v15.Heard.Port⟩ : Vec)⟩ : Pt)).set (y1.toNat) (⟨v16.Up, v16.Cost, v16.Has, (⟨v16.Heard.Root, v16.Heard.Cost, v16.Heard.Hops, v16.Heard.Bridge, (IntKind.wrap .i64 ((IntKind.wrap .i64 ((IntKind.wrap .i64 ((IntKind.wrap .i64 ((IntKind.wrap .i64 ((IntKind.wrap .i64 ((IntKind.wrap .i64 (y3 + 1)) + 1)) + 1)) + 1)) + 1)) + 1)) + 1))⟩ : Vec)⟩ : Pt)).map Pt.row)] (by kernel_rfl) (by kernel_rfl) (by kernel_rfl) (by kernel_rfl) (by kernel_rfl) (by kernel_rfl) (getQ_elem rfl (idx_get ev16).2) rfl (by intro h; cases h) (by kernel_rfl) (by kernel_rfl) (by kernel_rfl) (modQ_elem (new := (⟨v16.Up, v16.Cost, v16.Has, (⟨v16.Heard.Root, v16.Heard.Cost, v16.Heard.Hops, v16.Heard.Bridge, (IntKind.wrap .i64 ((IntKind.wrap .i64 ((IntKind.wrap .i64 ((IntKind.wrap .i64 ((IntKind.wrap .i64 ((IntKind.wrap .i64 ((IntKind.wrap .i64 (y3 + 1)) + 1)) + 1)) + 1)) + 1)) + 1)) + 1))⟩ : Vec)⟩ : Pt)) rfl (idx_get ev16).2 rfl) (by kernel_rfl) ?_
        refine LAt.doneU [0, 74, 73, 72, 71, 70, 1, 68, 67, 66, 65, 64, 63, 62, 60, 59, 58, 57, 56, 55, 54, 52, 51, 50, 49, 48, 47, 46, 44, 43, 42, 41, 40, 39, 38, 36, 35, 34, 33, 32, 31, 30, 29, 27, 26, 25, 24, 23, 22, 20, 19, 18, 17, 16, 15, 14, 13, 9, 8, 6, 5, 4] [] (by kernel_rfl) ?_
        refine Tr.at ?_
        refine LAt.runU tOk 3 (by kernel_rfl) ?_
        refine LAt.doneU [1, 76, 75, 0, 74, 73, 72, 71, 70, 68, 67, 66, 65, 64, 63, 62, 60, 59, 58, 57, 56, 55, 54, 52, 51, 50, 49, 48, 47, 46, 44, 43, 42, 41, 40, 39, 38, 36, 35, 34, 33, 32, 31, 30, 29, 27, 26, 25, 24, 23, 22, 20, 19, 18, 17, 16, 15, 14, 13, 9, 8, 6, 5, 4] [] (by kernel_rfl) ?_
        show Tr _ _ _ _ _
        refine Tr.at ?_
        refine LAt.runU tOk 3 (by kernel_rfl) ?_
        refine LAt.doneU [5, 11, 10, 1, 76, 75, 0, 74, 73, 72, 71, 70, 68, 67, 66, 65, 64, 63, 62, 60, 59, 58, 57, 56, 55, 54, 52, 51, 50, 49, 48, 47, 46, 44, 43, 42, 41, 40, 39, 38, 36, 35, 34, 33, 32, 31, 30, 29, 27, 26, 25, 24, 23, 22, 20, 19, 18, 17, 16, 15, 14, 13, 9, 8, 6, 4] [] (by kernel_rfl) ?_
        exact Exists.intro (mo6, ((IntKind.wrap .i64 (y1 + 1)), ((((((((y2.set (y1.toNat) (⟨((Int.tmod y3 3) == 0), v8.Cost, v8.Has, v8.Heard⟩ : Pt)).set (y1.toNat) (⟨v9.Up, (IntKind.wrap .i64 (y3 + 1)), v9.Has, v9.Heard⟩ : Pt)).set (y1.toNat) (⟨v11.Up, v11.Cost, ((Int.tmod (IntKind.wrap .i64 ((IntKind.wrap .i64 (y3 + 1)) + 1)) 3) == 0), v11.Heard⟩ : Pt)).set (y1.toNat) (⟨v12.Up, v12.Cost, v12.Has, (⟨(IntKind.wrap .i64 ((IntKind.wrap .i64 ((IntKind.wrap .i64 (y3 + 1)) + 1)) + 1)), v12.Heard.Cost, v12.Heard.Hops, v12.Heard.Bridge, v12.Heard.Port⟩ : Vec)⟩ : Pt)).set (y1.toNat) (⟨v13.Up, v13.Cost, v13.Has, (⟨v13.Heard.Root, (IntKind.wrap .i64 ((IntKind.wrap .i64 ((IntKind.wrap .i64 ((IntKind.wrap .i64 (y3 + 1)) + 1)) + 1)) + 1)), v13.Heard.Hops, v13.Heard.Bridge, v13.Heard.Port⟩ : Vec)⟩ : Pt)).set (y1.toNat) (⟨v14.Up, v14.Cost, v14.Has, (⟨v14.Heard.Root, v14.Heard.Cost, (IntKind.wrap .i64 ((IntKind.wrap .i64 ((IntKind.wrap .i64 ((IntKind.wrap .i64 ((IntKind.wrap .i64 (y3 + 1)) + 1)) + 1)) + 1)) + 1)), v14.Heard.Bridge, v14.Heard.Port⟩ : Vec)⟩ : Pt)).set (y1.toNat) (⟨v15.Up, v15.Cost, v15.Has, (⟨v15.Heard.Root, v15.Heard.Cost, v15.Heard.Hops, (IntKind.wrap .i64 ((IntKind.wrap .i64 ((IntKind.wrap .i64 ((IntKind.wrap .i64 ((IntKind.wrap .i64 ((IntKind.wrap .i64 (y3 + 1)) + 1)) + 1)) + 1)) + 1)) + 1)), v15.Heard.Port⟩ : Vec)⟩ : Pt)).set (y1.toNat) (⟨v16.Up, v16.Cost, v16.Has, (⟨v16.Heard.Root, v16.Heard.Cost, v16.Heard.Hops, v16.Heard.Bridge, (IntKind.wrap .i64 ((IntKind.wrap .i64 ((IntKind.wrap .i64 ((IntKind.wrap .i64 ((IntKind.wrap .i64 ((IntKind.wrap .i64 ((IntKind.wrap .i64 (y3 + 1)) + 1)) + 1)) + 1)) + 1)) + 1)) + 1))⟩ : Vec)⟩ : Pt)), (IntKind.wrap .i64 ((IntKind.wrap .i64 ((IntKind.wrap .i64 ((IntKind.wrap .i64 ((IntKind.wrap .i64 ((IntKind.wrap .i64 ((IntKind.wrap .i64 ((IntKind.wrap .i64 (y3 + 1)) + 1)) + 1)) + 1)) + 1)) + 1)) + 1)) + 1)))) (And.intro H (And.intro (Nat.lt_succ_self mo6) (St.sub_of [5, 4, 0, 1] [] (by kernel_rfl))))
  · rintro ⟨y4, y5⟩ H
    have H : (laws_markPtS_J1 n y4 y5) = some r := H
    unfold laws_markPtS_J1 at H
    show Tr _ _ _ _ _
    refine Tr.rs ?_
    refine LAt.runU tOk 2 (by kernel_rfl) ?_
    refine LAt.doneU [4, 0] [] (by kernel_rfl) ?_
    refine Tr.ret ?_
    have H := Option.some.inj H
    subst H
    exact Fin.ofY _ [(false, [.lit (.int .i64 y5)])] [false] _ [[.sl true 8 (y4.map Pt.row)]] _ [] (by kernel_rfl) rfl rfl rfl (by kernel_rfl) (by kernel_rfl) (by kernel_rfl) (by kernel_rfl) rfl rfl rfl

def laws_markFentS_J1 (n : Nat) (y4 : (List Fent)) (y5 : Int) : Option (Int × (List Fent)) :=
  (some (y5, y4))
def laws_markFentS_L2 (n : Nat) : Nat → Int → (List Fent) → Int → Option (((List Fent) × Int) ⊕ (Int × (List Fent)))
  | 0, _, _, _ => none
  | mo6 + 1, y1, y2, y3 => (bif (decide (y1 < (y2.length : Int))) then ((idx y2 y1).bind fun v7 => ((idx (y2.set (y1.toNat) (⟨y3, v7.Mac, v7.Port, v7.Age, v7.Static⟩ : Fent)) y1).bind fun v8 => ((idx ((y2.set (y1.toNat) (⟨y3, v7.Mac, v7.Port, v7.Age, v7.Static⟩ : Fent)).set (y1.toNat) (⟨v8.Tag, (IntKind.wrap .i64 (y3 + 1)), v8.Port, v8.Age, v8.Static⟩ : Fent)) y1).bind fun v9 => ((idx (((y2.set (y1.toNat) (⟨y3, v7.Mac, v7.Port, v7.Age, v7.Static⟩ : Fent)).set (y1.toNat) (⟨v8.Tag, (IntKind.wrap .i64 (y3 + 1)), v8.Port, v8.Age, v8.Static⟩ : Fent)).set (y1.toNat) (⟨v9.Tag, v9.Mac, (IntKind.wrap .i64 ((IntKind.wrap .i64 (y3 + 1)) + 1)), v9.Age, v9.Static⟩ : Fent)) y1).bind fun v10 => (bif (decide ((3 : Int) ≠ 0)) then ((idx ((((y2.set (y1.toNat) (⟨y3, v7.Mac, v7.Port, v7.Age, v7.Static⟩ : Fent)).set (y1.toNat) (⟨v8.Tag, (IntKind.wrap .i64 (y3 + 1)), v8.Port, v8.Age, v8.Static⟩ : Fent)).set (y1.toNat) (⟨v9.Tag, v9.Mac, (IntKind.wrap .i64 ((IntKind.wrap .i64 (y3 + 1)) + 1)), v9.Age, v9.Static⟩ : Fent)).set (y1.toNat) (⟨v10.Tag, v10.Mac, v10.Port, (IntKind.wrap .i64 ((IntKind.wrap .i64 ((IntKind.wrap .i64 (y3 + 1)) + 1)) + 1)), v10.Static⟩ : Fent)) y1).bind fun v12 => (laws_markFentS_L2 n mo6 (IntKind.wrap .i64 (y1 + 1)) (((((y2.set (y1.toNat) (⟨y3, v7.Mac, v7.Port, v7.Age, v7.Static⟩ : Fent)).set (y1.toNat) (⟨v8.Tag, (IntKind.wrap .i64 (y3 + 1)), v8.Port, v8.Age, v8.Static⟩ : Fent)).set (y1.toNat) (⟨v9.Tag, v9.Mac, (IntKind.wrap .i64 ((IntKind.wrap .i64 (y3 + 1)) + 1)), v9.Age, v9.Static⟩ : Fent)).set (y1.toNat) (⟨v10.Tag, v10.Mac, v10.Port, (IntKind.wrap .i64 ((IntKind.wrap .i64 ((IntKind.wrap .i64 (y3 + 1)) + 1)) + 1)), v10.Static⟩ : Fent)).set (y1.toNat) (⟨v12.Tag, v12.Mac, v12.Port, v12.Age, ((Int.tmod (IntKind.wrap .i64 ((IntKind.wrap .i64 ((IntKind.wrap .i64 ((IntKind.wrap .i64 (y3 + 1)) + 1)) + 1)) + 1)) 3) == 0)⟩ : Fent)) (IntKind.wrap .i64 ((IntKind.wrap .i64 ((IntKind.wrap .i64 ((IntKind.wrap .i64 ((IntKind.wrap .i64 (y3 + 1)) + 1)) + 1)) + 1)) + 1)))) else none))))) else (some (Sum.inl (y2, y3))))
def laws_markFentSF (n : Nat) (x0 : (List Fent)) (x1 : Int) : Option (Int × (List Fent)) :=
  ((laws_markFentS_L2 n n 0 x0 x1).bind fun o => match o with | .inl (y4, y5) => (laws_markFentS_J1 n y4 y5) | .inr r => some r)
/-- loop.example/g00326/laws.markFentS -/
theorem laws_markFentS (n : Nat) (x0 : (List Fent)) (x1 : Int) (r : Int × (List Fent)) (H : laws_markFentSF n x0 x1 = some r) : LCall Try.prog 123 [.io false [.sl true 5 (x0.map Fent.row)], .val false [.lit (.int .i64 x1)]] [.val false [.lit (.int .i64 r.1)]] [(0, [.sl true 5 (r.2.map Fent.row)])] := by
  refine LCall.of_body tOk Try.func123 rfl (c := (.seq (.region 0 (rg Try.f123 0) false) (.seq (.seq (.region 1 (rg Try.f123 1) false) (.block 0 (.loop (.seq (.seq (.region 2 (rg Try.f123 2) false) (.cond (.tmp 9) .skip (.exit 0))) (.seq (.block 1 (.seq (.region 4 (rg Try.f123 4) false) (.seq (.region 5 (rg Try.f123 5) false) (.seq (.region 6 (rg Try.f123 6) false) (.seq (.region 7 (rg Try.f123 7) false) (.seq (.region 8 (rg Try.f123 8) false) (.seq (.region 9 (rg Try.f123 9) false) (.seq (.region 10 (rg Try.f123 10) false) (.seq (.region 11 (rg Try.f123 11) false) (.seq (.region 12 (rg Try.f123 12) false) (.region 13 (rg Try.f123 13) false))))))))))) (.region 3 (rg Try.f123 3) false)))))) (.seq (.region 14 (rg Try.f123 14) false) .ret)))) (by kernel_rfl) (Nat.le_of_ble_eq_true (by kernel_rfl)) 1 (rs := [.tmp 4]) rfl [0] (by decide) [(false, [.lit (.int .i64 r.1)])] [[.sl true 5 (r.2.map Fent.row)]] [] fun cx => ?_
  show Tr _ _ _ ⟨50, 1, [(0, .val false [.sl true 5 (x0.map Fent.row)]), (1, .val false [.lit (.int .i64 x1)])], []⟩ _
  unfold laws_markFentSF at H
  refine Tr.rs ?_
  refine LAt.runU tOk 1 (by kernel_rfl) ?_
  refine LAt.doneU [4, 0, 1] [] (by kernel_rfl) ?_
  refine Tr.seq ?_
  refine Tr.rs ?_
  refine LAt.runU tOk 1 (by kernel_rfl) ?_
  refine LAt.doneU [5, 4, 0, 1] [] (by kernel_rfl) ?_
  obtain ⟨o6, eo6, Ho6⟩ := bind_some H
  clear H
  refine Tr.mid (ι := (List Fent) × Int) (fun v => ⟨50, 1, [(4, .val false [.lit (.int .i64 0)]), (0, .val false [.sl true 5 (v.1.map Fent.row)]), (1, .val false [.lit (.int .i64 v.2)])], []⟩) (fun v => laws_markFentS_J1 n v.1 v.2 = some r) ?_ ?_
  · refine Tr.block ?_
    refine Tr.loop (ι := Nat × (Int × (List Fent) × Int)) (fun v => ⟨50, 1, [(5, .val false [.lit (.int .i64 v.2.1)]), (4, .val false [.lit (.int .i64 0)]), (0, .val false [.sl true 5 (v.2.2.1.map Fent.row)]), (1, .val false [.lit (.int .i64 v.2.2.2)])], []⟩) (fun v => laws_markFentS_L2 n v.1 v.2.1 v.2.2.1 v.2.2.2 = some o6) (fun v => v.1) (n, (0, x0, x1)) eo6 (St.sub_of [5, 4, 0, 1] [] (by kernel_rfl)) ?_
    rintro ⟨mo6, y1, y2, y3⟩ H
    have H : laws_markFentS_L2 n mo6 y1 y2 y3 = some o6 := H
    obtain _ | mo6 := mo6
    · cases (show (none : Option _) = some o6 from H)
    · rw [laws_markFentS_L2] at H
      refine Tr.seq ?_
      refine Tr.rs ?_
      refine LAt.runU tOk 2 (by kernel_rfl) ?_
      refine LAt.lenE tOk (t := 77) (ty := 3) (e := 147) (x := (.tmp 7)) (d := 8) (g := none) ⟨(.slot 0), [], 0, true, 5, (y2.map Fent.row)⟩ (y2).length _ (by kernel_rfl) (by kernel_rfl) (by kernel_rfl) (by kernel_rfl) (by kernel_rfl) (map_len _ _) rfl ?_
      refine LAt.runU tOk 1 (by kernel_rfl) ?_
      refine LAt.doneU [9, 8, 7, 6, 5, 4, 0, 1] [] (by kernel_rfl) ?_
      refine Tr.to ⟨50, 1, [(9, .val false [.lit (.bool (decide (y1 < (y2.length : Int))))]), (8, .val false [.lit (.int .i64 (y2.length : Int))]), (7, .ref (.slot 0) [] 0 0 1 false), (6, .val false [.lit (.int .i64 y1)]), (5, .val false [.lit (.int .i64 y1)]), (4, .val false [.lit (.int .i64 0)]), (0, .val false [.sl true 5 (y2.map Fent.row)]), (1, .val false [.lit (.int .i64 y3)])], []⟩ (by kernel_rfl) ?_
      cases h1 : (decide (y1 < (y2.length : Int)))
      · have H := bifF h1 H
        refine Tr.cond (b := false) (by kernel_rfl) (fun h => nomatch h) (fun _ => ?_)
        refine Tr.exit ?_
        refine And.intro (fun _ => ?_) (fun h => absurd rfl h)
        have H := Option.some.inj H
        subst H
        have H := Ho6
        dsimp only at H
        exact Exists.intro (y2, y3) (And.intro H (St.sub_of [4, 0, 1] [] (by kernel_rfl)))
      · have H := bifT h1 H
        refine Tr.cond (b := true) (by kernel_rfl) (fun _ => ?_) (fun h => nomatch h)
        refine Tr.skip ?_
        show Tr _ _ _ _ _
        refine Tr.seq ?_
        refine Tr.block ?_
        refine Tr.rs ?_
        refine LAt.runU tOk 3 (by kernel_rfl) ?_
        obtain ⟨v7, ev7, H⟩ := bind_some H
        refine LAt.indexO tOk (t := 77) (ty := 0) (x := (.tmp 12)) (y := (.tmp 13)) (d := 15) (g := none) ⟨(.slot 0), [], 0, true, 5, (y2.map Fent.row)⟩ y1 (y1.toNat) (Fent.row v7) _ (by kernel_rfl) (by kernel_rfl) (by kernel_rfl) (by kernel_rfl) rfl (by kernel_rfl) (idx_isE ev7) rfl rfl ?_
        refine LAt.runU tOk 1 (by kernel_rfl) ?_
        refine LAt.storeU tOk (t := 3) (ty := 0) (ad := (.tmp 16)) (x := (.tmp 14)) (g := none) ⟨.int .i64, 1, 8, [.lit (.int .i64 0)]⟩ false [.lit (.int .i64 y3)] (.slot 0) [(0, (y1.toNat))] [(0, (y1.toNat))] 5 0 [.sl true 5 (y2.map Fent.row)] (Fent.row v7) [.sl true 5 (y2.map Fent.row)] [.sl true 5 ((y2.set (y1.toNat) (⟨y3, v7.Mac, v7.Port, v7.Age, v7.Static⟩ : Fent)).map Fent.row)] (by kernel_rfl) (by kernel_rfl) (by kernel_rfl) (by kernel_rfl) (by kernel_rfl) (by kernel_rfl) (getQ_elem rfl (idx_get ev7).2) rfl (by intro h; cases h) (by kernel_rfl) (by kernel_rfl) (by kernel_rfl) (modQ_elem (new := (⟨y3, v7.Mac, v7.Port, v7.Age, v7.Static⟩ : Fent)) rfl (idx_get ev7).2 rfl) (by kernel_rfl) ?_
        refine LAt.doneU [0, 16, 15, 14, 13, 9, 8, 6, 5, 4, 1] [] (by kernel_rfl) ?_
        refine Tr.rs ?_
        refine LAt.runU tOk 3 (by kernel_rfl) ?_
        refine LAt.doneU [1, 18, 17, 0, 16, 15, 14, 13, 9, 8, 6, 5, 4] [] (by kernel_rfl) ?_
        refine Tr.rs ?_
        refine LAt.runU tOk 3 (by kernel_rfl) ?_
        obtain ⟨v8, ev8, H⟩ := bind_some H
        refine LAt.indexO tOk (t := 77) (ty := 0) (x := (.tmp 19)) (y := (.tmp 20)) (d := 22) (g := none) ⟨(.slot 0), [], 0, true, 5, ((y2.set (y1.toNat) (⟨y3, v7.Mac, v7.Port, v7.Age, v7.Static⟩ : Fent)).map Fent.row)⟩ y1 (y1.toNat) (Fent.row v8) _ (by kernel_rfl) (by kernel_rfl) (by kernel_rfl) (by kernel_rfl) rfl (by kernel_rfl) (idx_isE ev8) rfl rfl ?_
        refine LAt.runU tOk 1 (by kernel_rfl) ?_
        refine LAt.storeU tOk (t := 3) (ty := 0) (ad := (.tmp 23)) (x := (.tmp 21)) (g := none) ⟨.int .i64, 1, 8, [.lit (.int .i64 0)]⟩ false [.lit (.int .i64 (IntKind.wrap .i64 (y3 + 1)))] (.slot 0) [(0, (y1.toNat))] [(0, (y1.toNat))] 5 1 [.sl true 5 ((y2.set (y1.toNat) (⟨y3, v7.Mac, v7.Port, v7.Age, v7.Static⟩ : Fent)).map Fent.row)] (Fent.row v8) [.sl true 5 ((y2.set (y1.toNat) (⟨y3, v7.Mac, v7.Port, v7.Age, v7.Static⟩ : Fent)).map Fent.row)] [.sl true 5 (((y2.set (y1.toNat) (⟨y3, v7.Mac, v7.Port, v7.Age, v7.Static⟩ : Fent)).set (y1.toNat) (⟨v8.Tag, (IntKind.wrap .i64 (y3 + 1)), v8.Port, v8.Age, v8.Static⟩ : Fent)).map Fent.row)] (by kernel_rfl) (by kernel_rfl) (by kernel_rfl) (by kernel_rfl) (by kernel_rfl) (by kernel_rfl) (getQ_elem rfl (idx_get ev8).2) rfl (by intro h; cases h) (by kernel_rfl) (by kernel_rfl) (by kernel_rfl) (modQ_elem (new := (⟨v8.Tag, (IntKind.wrap .i64 (y3 + 1)), v8.Port, v8.Age, v8.Static⟩ : Fent)) rfl (idx_get ev8).2 rfl) (by kernel_rfl) ?_
        refine LAt.doneU [0, 23, 22, 21, 20, 1, 18, 17, 16, 15, 14, 13, 9, 8, 6, 5, 4] [] (by kernel_rfl) ?_
        refine Tr.rs ?_
        refine LAt.runU tOk 3 (by kernel_rfl) ?_
        refine LAt.doneU [1, 25, 24, 0, 23, 22, 21, 20, 18, 17, 16, 15, 14, 13, 9, 8, 6, 5, 4] [] (by kernel_rfl) ?_
        refine Tr.rs ?_
        refine LAt.runU tOk 3 (by kernel_rfl) ?_
        obtain ⟨v9, ev9, H⟩ := bind_some H
        refine LAt.indexO tOk (t := 77) (ty := 0) (x := (.tmp 26)) (y := (.tmp 27)) (d := 29) (g := none) ⟨(.slot 0), [], 0, true, 5, (((y2.set (y1.toNat) (⟨y3, v7.Mac, v7.Port, v7.Age, v7.Static⟩ : Fent)).set (y1.toNat) (⟨v8.Tag, (IntKind.wrap .i64 (y3 + 1)), v8.Port, v8.Age, v8.Static⟩ : Fent)).map Fent.row)⟩ y1 (y1.toNat) (Fent.row v9) _ (by kernel_rfl) (by kernel_rfl) (by kernel_rfl) (by kernel_rfl) rfl (by kernel_rfl) (idx_isE ev9) rfl rfl ?_
        refine LAt.runU tOk 1 (by kernel_rfl) ?_
        refine LAt.storeU tOk (t := 3) (ty := 0) (ad := (.tmp 30)) (x := (.tmp 28)) (g := none) ⟨.int .i64, 1, 8, [.lit (.int .i64 0)]⟩ false [.lit (.int .i64 (IntKind.wrap .i64 ((IntKind.wrap .i64 (y3 + 1)) + 1)))] (.slot 0) [(0, (y1.toNat))] [(0, (y1.toNat))] 5 2 [.sl true 5 (((y2.set (y1.toNat) (⟨y3, v7.Mac, v7.Port, v7.Age, v7.Static⟩ : Fent)).set (y1.toNat) (⟨v8.Tag, (IntKind.wrap .i64 (y3 + 1)), v8.Port, v8.Age, v8.Static⟩ : Fent)).map Fent.row)] (Fent.row v9) [.sl true 5 (((y2.set (y1.toNat) (⟨y3, v7.Mac, v7.Port, v7.Age, v7.Static⟩ : Fent)).set (y1.toNat) (⟨v8.Tag, (IntKind.wrap .i64 (y3 + 1)), v8.Port, v8.Age, v8.Static⟩ : Fent)).map Fent.row)] [.sl true 5 ((((y2.set (y1.toNat) (⟨y3, v7.Mac, v7.Port, v7.Age, v7.Static⟩ : Fent)).set (y1.toNat) (⟨v8.Tag, (IntKind.wrap .i64 (y3 + 1)), v8.Port, v8.Age, v8.Static⟩ : Fent)).set (y1.toNat) (⟨v9.Tag, v9.Mac, (IntKind.wrap .i64 ((IntKind.wrap .i64 (y3 + 1)) + 1)), v9.Age, v9.Static⟩ : Fent)).map Fent.row)] (by kernel_rfl) (by kernel_rfl) (by kernel_rfl) (by kernel_rfl) (by kernel_rfl) (by kernel_rfl) (getQ_elem rfl (idx_get ev9).2) rfl (by intro h; cases h) (by kernel_rfl) (by kernel_rfl) (by kernel_rfl) (modQ_elem (new := (⟨v9.Tag, v9.Mac, (IntKind.wrap .i64 ((IntKind.wrap .i64 (y3 + 1)) + 1)), v9.Age, v9.Static⟩ : Fent)) rfl (idx_get ev9).2 rfl) (by kernel_rfl) ?_
        refine LAt.doneU [0, 30, 29, 28, 27, 1, 25, 24, 23, 22, 21, 20, 18, 17, 16, 15, 14, 13, 9, 8, 6, 5, 4] [] (by kernel_rfl) ?_
        refine Tr.rs ?_
        refine LAt.runU tOk 3 (by kernel_rfl) ?_
        refine LAt.doneU [1, 32, 31, 0, 30, 29, 28, 27, 25, 24, 23, 22, 21, 20, 18, 17, 16, 15, 14, 13, 9, 8, 6, 5, 4] [] (by kernel_rfl) ?_
        refine Tr.rs ?_
        refine LAt.runU tOk 3 (by kernel_rfl) ?_
        obtain ⟨v10, ev10, H⟩ := bind_some H
        refine LAt.indexO tOk (t := 77) (ty := 0) (x := (.tmp 33)) (y := (.tmp 34)) (d := 36) (g := none) ⟨(.slot 0), [], 0, true, 5, ((((y2.set (y1.toNat) (⟨y3, v7.Mac, v7.Port, v7.Age, v7.Static⟩ : Fent)).set (y1.toNat) (⟨v8.Tag, (IntKind.wrap .i64 (y3 + 1)), v8.Port, v8.Age, v8.Static⟩ : Fent)).set (y1.toNat) (⟨v9.Tag, v9.Mac, (IntKind.wrap .i64 ((IntKind.wrap .i64 (y3 + 1)) + 1)), v9.Age, v9.Static⟩ : Fent)).map Fent.row)⟩ y1 (y1.toNat) (Fent.row v10) _ (by kernel_rfl) (by kernel_rfl) (by kernel_rfl) (by kernel_rfl) rfl (by kernel_rfl) (idx_isE ev10) rfl rfl ?_
        refine LAt.runU tOk 1 (by kernel_rfl) ?_
        refine LAt.storeU tOk (t := 3) (ty := 0) (ad := (.tmp 37)) (x := (.tmp 35)) (g := none) ⟨.int .i64, 1, 8, [.lit (.int .i64 0)]⟩ false [.lit (.int .i64 (IntKind.wrap .i64 ((IntKind.wrap .i64 ((IntKind.wrap .i64 (y3 + 1)) + 1)) + 1)))] (.slot 0) [(0, (y1.toNat))] [(0, (y1.toNat))] 5 3 [.sl true 5 ((((y2.set (y1.toNat) (⟨y3, v7.Mac, v7.Port, v7.Age, v7.Static⟩ : Fent)).set (y1.toNat) (⟨v8.Tag, (IntKind.wrap .i64 (y3 + 1)), v8.Port, v8.Age, v8.Static⟩ : Fent)).set (y1.toNat) (⟨v9.Tag, v9.Mac, (IntKind.wrap .i64 ((IntKind.wrap .i64 (y3 + 1)) + 1)), v9.Age, v9.Static⟩ : Fent)).map Fent.row)] (Fent.row v10) [.sl true 5 ((((y2.set (y1.toNat) (⟨y3, v7.Mac, v7.Port, v7.Age, v7.Static⟩ : Fent)).set (y1.toNat) (⟨v8.Tag, (IntKind.wrap .i64 (y3 + 1)), v8.Port, v8.Age, v8.Static⟩ : Fent)).set (y1.toNat) (⟨v9.Tag, v9.Mac, (IntKind.wrap .i64 ((IntKind.wrap .i64 (y3 + 1)) + 1)), v9.Age, v9.Static⟩ : Fent)).map Fent.row)] [.sl true 5 (((((y2.set (y1.toNat) (⟨y3, v7.Mac, v7.Port, v7.Age, v7.Static⟩ : Fent)).set (y1.toNat) (⟨v8.Tag, (IntKind.wrap .i64 (y3 + 1)), v8.Port, v8.Age, v8.Static⟩ : Fent)).set (y1.toNat) (⟨v9.Tag, v9.Mac, (IntKind.wrap .i64 ((IntKind.wrap .i64 (y3 + 1)) + 1)), v9.Age, v9.Static⟩ : Fent)).set (y1.toNat) (⟨v10.Tag, v10.Mac, v10.Port, (IntKind.wrap .i64 ((IntKind.wrap .i64 ((IntKind.wrap .i64 (y3 + 1)) + 1)) + 1)), v10.Static⟩ : Fent)).map Fent.row)] (by kernel_rfl) (by kernel_rfl) (by kernel_rfl) (by kernel_rfl) (by kernel_rfl) (by kernel_rfl) (getQ_elem rfl (idx_get ev10).2) rfl (by intro h; cases h) (by kernel_rfl) (by kernel_rfl) (by kernel_rfl) (modQ_elem (new := (⟨v10.Tag, v10.Mac, v10.Port, (IntKind.wrap .i64 ((IntKind.wrap .i64 ((IntKind.wrap .i64 (y3 + 1)) + 1)) + 1)), v10.Static⟩ : Fent)) rfl (idx_get ev10).2 rfl) (by kernel_rfl) ?_
        refine LAt.doneU [0, 37, 36, 35, 34, 1, 32, 31, 30, 29, 28, 27, 25, 24, 23, 22, 21, 20, 18, 17, 16, 15, 14, 13, 9, 8, 6, 5, 4] [] (by kernel_rfl) ?_
        refine Tr.rs ?_
        refine LAt.runU tOk 3 (by kernel_rfl) ?_
        refine LAt.doneU [1, 39, 38, 0, 37, 36, 35, 34, 32, 31, 30, 29, 28, 27, 25, 24, 23, 22, 21, 20, 18, 17, 16, 15, 14, 13, 9, 8, 6, 5, 4] [] (by kernel_rfl) ?_
        refine Tr.rs ?_
        refine LAt.runU tOk 3 (by kernel_rfl) ?_
        obtain ⟨hg11, H⟩ := guard_some H
        refine LAt.binC tOk (op := .rem) (t := 3) (ty := 3) (ty' := 3) (x := (.tmp 42)) (y := (.const (.int .i64 3))) (d := 43) (g := none) (.int .i64 (IntKind.wrap .i64 ((IntKind.wrap .i64 ((IntKind.wrap .i64 ((IntKind.wrap .i64 (y3 + 1)) + 1)) + 1)) + 1))) (.int .i64 3) (.int .i64 (Int.tmod (IntKind.wrap .i64 ((IntKind.wrap .i64 ((IntKind.wrap .i64 ((IntKind.wrap .i64 (y3 + 1)) + 1)) + 1)) + 1)) 3)) _ (by kernel_rfl) (by kernel_rfl) (by kernel_rfl) (by kernel_rfl) (by kernel_rfl) (φ := (IntKind.i64 = IntKind.i64 ∧ (3 : Int) ≠ 0)) (by kernel_rfl) (⟨rfl, of_decide_eq_true hg11⟩) rfl ?_
        refine LAt.runU tOk 1 (by kernel_rfl) ?_
        obtain ⟨v12, ev12, H⟩ := bind_some H
        refine LAt.indexO tOk (t := 77) (ty := 0) (x := (.tmp 40)) (y := (.tmp 41)) (d := 45) (g := none) ⟨(.slot 0), [], 0, true, 5, (((((y2.set (y1.toNat) (⟨y3, v7.Mac, v7.Port, v7.Age, v7.Static⟩ : Fent)).set (y1.toNat) (⟨v8.Tag, (IntKind.wrap .i64 (y3 + 1)), v8.Port, v8.Age, v8.Static⟩ : Fent)).set (y1.toNat) (⟨v9.Tag, v9.Mac, (IntKind.wrap .i64 ((IntKind.wrap .i64 (y3 + 1)) + 1)), v9.Age, v9.Static⟩ : Fent)).set (y1.toNat) (⟨v10.Tag, v10.Mac, v10.Port, (IntKind.wrap .i64 ((IntKind.wrap .i64 ((IntKind.wrap .i64 (y3 + 1)) + 1)) + 1)), v10.Static⟩ : Fent)).map Fent.row)⟩ y1 (y1.toNat) (Fent.row v12) _ (by kernel_rfl) (by kernel_rfl) (by kernel_rfl) (by kernel_rfl) rfl (by kernel_rfl) (idx_isE ev12) rfl rfl ?_
        refine LAt.runU tOk 1 (by kernel_rfl) ?_
        refine LAt.storeU tOk (t := 4) (ty := 0) (ad := (.tmp 46)) (x := (.tmp 44)) (g := none) ⟨.bool, 1, 1, [.lit (.bool false)]⟩ false [.lit (.bool ((Int.tmod (IntKind.wrap .i64 ((IntKind.wrap .i64 ((IntKind.wrap .i64 ((IntKind.wrap .i64 (y3 + 1)) + 1)) + 1)) + 1)) 3) == 0))] (.slot 0) [(0, (y1.toNat))] [(0, (y1.toNat))] 5 4 [.sl true 5 (((((y2.set (y1.toNat) (⟨y3, v7.Mac, v7.Port, v7.Age, v7.Static⟩ : Fent)).set (y1.toNat) (⟨v8.Tag, (IntKind.wrap .i64 (y3 + 1)), v8.Port, v8.Age, v8.Static⟩ : Fent)).set (y1.toNat) (⟨v9.Tag, v9.Mac, (IntKind.wrap .i64 ((IntKind.wrap .i64 (y3 + 1)) + 1)), v9.Age, v9.Static⟩ : Fent)).set (y1.toNat) (⟨v10.Tag, v10.Mac, v10.Port, (IntKind.wrap .i64 ((IntKind.wrap .i64 ((IntKind.wrap .i64 (y3 + 1)) + 1)) + 1)), v10.Static⟩ : Fent)).map Fent.row)] (Fent.row v12) [.sl true 5 (((((y2.set (y1.toNat) (⟨y3, v7.Mac, v7.Port, v7.Age, v7.Static⟩ : Fent)).set (y1.toNat) (⟨v8.Tag, (IntKind.wrap .i64 (y3 + 1)), v8.Port, v8.Age, v8.Static⟩ : Fent)).set (y1.toNat) (⟨v9.Tag, v9.Mac, (IntKind.wrap .i64 ((IntKind.wrap .i64 (y3 + 1)) + 1)), v9.Age, v9.Static⟩ : Fent)).set (y1.toNat) (⟨v10.Tag, v10.Mac, v10.Port, (IntKind.wrap .i64 ((IntKind.wrap .i64 ((IntKind.wrap .i64 (y3 + 1)) + 1)) + 1)), v10.Static⟩ : Fent)).map Fent.row)] [.sl true 5 ((((((y2.set (y1.toNat) (⟨y3, v7.Mac, v7.Port, v7.Age, v7.Static⟩ : Fent)).set (y1.toNat) (⟨v8.Tag, (IntKind.wrap .i64 (y3 + 1)), v8.Port, v8.Age, v8.Static⟩ : Fent)).set (y1.toNat) (⟨v9.Tag, v9.Mac, (IntKind.wrap .i64 ((IntKind.wrap .i64 (y3 + 1)) + 1)), v9.Age, v9.Static⟩ : Fent)).set (y1.toNat) (⟨v10.Tag, v10.Mac, v10.Port, (IntKind.wrap .i64 ((IntKind.wrap .i64 ((IntKind.wrap .i64 (y3 + 1)) + 1)) + 1)), v10.Static⟩ : Fent)).set (y1.toNat) (⟨v12.Tag, v12.Mac, v12.Port, v12.Age, ((Int.tmod (IntKind.wrap .i64 ((IntKind.wrap .i64 ((IntKind.wrap .i64 ((IntKind.wrap .i64 (y3 + 1)) + 1)) + 1)) + 1)) 3) == 0)⟩ : Fent)).map Fent.row)] (by kernel_rfl) (by kernel_rfl) (by kernel_rfl) (by kernel_rfl) (by kernel_rfl) (by kernel_rfl) (getQ_elem rfl (idx_get ev12).2) rfl (by intro h; cases h) (by kernel_rfl) (by kernel_rfl) (by kernel_rfl) (modQ_elem (new := (⟨v12.Tag, v12.Mac, v12.Port, v12.Age, ((Int.tmod (IntKind.wrap .i64 ((IntKind.wrap .i64 ((IntKind.wrap .i64 ((IntKind.wrap .i64 (y3 + 1)) + 1)) + 1)) + 1)) 3) == 0)⟩ : Fent)) rfl (idx_get ev12).2 rfl) (by kernel_rfl) ?_
        refine LAt.doneU [0, 46, 45, 44, 43, 42, 41, 1, 39, 38, 37, 36, 35, 34, 32, 31, 30, 29, 28, 27, 25, 24, 23, 22, 21, 20, 18, 17, 16, 15, 14, 13, 9, 8, 6, 5, 4] [] (by kernel_rfl) ?_
        refine Tr.at ?_
        refine LAt.runU tOk 3 (by kernel_rfl) ?_
        refine LAt.doneU [1, 48, 47, 0, 46, 45, 44, 43, 42, 41, 39, 38, 37, 36, 35, 34, 32, 31, 30, 29, 28, 27, 25, 24, 23, 22, 21, 20, 18, 17, 16, 15, 14, 13, 9, 8, 6, 5, 4] [] (by kernel_rfl) ?_
        show Tr _ _ _ _ _
        refine Tr.at ?_
        refine LAt.runU tOk 3 (by kernel_rfl) ?_
        refine LAt.doneU [5, 11, 10, 1, 48, 47, 0, 46, 45, 44, 43, 42, 41, 39, 38, 37, 36, 35, 34, 32, 31, 30, 29, 28, 27, 25, 24, 23, 22, 21, 20, 18, 17, 16, 15, 14, 13, 9, 8, 6, 4] [] (by kernel_rfl) ?_
        exact Exists.intro (mo6, ((IntKind.wrap .i64 (y1 + 1)), (((((y2.set (y1.toNat) (⟨y3, v7.Mac, v7.Port, v7.Age, v7.Static⟩ : Fent)).set (y1.toNat) (⟨v8.Tag, (IntKind.wrap .i64 (y3 + 1)), v8.Port, v8.Age, v8.Static⟩ : Fent)).set (y1.toNat) (⟨v9.Tag, v9.Mac, (IntKind.wrap .i64 ((IntKind.wrap .i64 (y3 + 1)) + 1)), v9.Age, v9.Static⟩ : Fent)).set (y1.toNat) (⟨v10.Tag, v10.Mac, v10.Port, (IntKind.wrap .i64 ((IntKind.wrap .i64 ((IntKind.wrap .i64 (y3 + 1)) + 1)) + 1)), v10.Static⟩ : Fent)).set (y1.toNat) (⟨v12.Tag, v12.Mac, v12.Port, v12.Age, ((Int.tmod (IntKind.wrap .i64 ((IntKind.wrap .i64 ((IntKind.wrap .i64 ((IntKind.wrap .i64 (y3 + 1)) + 1)) + 1)) + 1)) 3) == 0)⟩ : Fent)), (IntKind.wrap .i64 ((IntKind.wrap .i64 ((IntKind.wrap .i64 ((IntKind.wrap .i64 ((IntKind.wrap .i64 (y3 + 1)) + 1)) + 1)) + 1)) + 1)))) (And.intro H (And.intro (Nat.lt_succ_self mo6) (St.sub_of [5, 4, 0, 1] [] (by kernel_rfl))))
  · rintro ⟨y4, y5⟩ H
    have H : (laws_markFentS_J1 n y4 y5) = some r := H
    unfold laws_markFentS_J1 at H
    show Tr _ _ _ _ _
    refine Tr.rs ?_
    refine LAt.runU tOk 2 (by kernel_rfl) ?_
    refine LAt.doneU [4, 0] [] (by kernel_rfl) ?_
    refine Tr.ret ?_
    have H := Option.some.inj H
    subst H
    exact Fin.ofY _ [(false, [.lit (.int .i64 y5)])] [false] _ [[.sl true 5 (y4.map Fent.row)]] _ [] (by kernel_rfl) rfl rfl rfl (by kernel_rfl) (by kernel_rfl) (by kernel_rfl) (by kernel_rfl) rfl rfl rfl
end Go.Proofs.Ytgpcfaiacggoiaa.Tw
