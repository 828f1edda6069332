/- Functions of the program, over trees. -/
import Derived.Test.YtgpcfaiacggoiaaProg
import Derived.Test.YtgpcfaiacggoiaaTlRule
import Derived.Test.YtgpcfaiacggoiaaTlU3
import Derived.WalkKit
set_option linter.unusedVariables false
set_option linter.unusedSimpArgs false
set_option maxRecDepth 100000
set_option maxHeartbeats 1000000
namespace Go.Proofs.Ytgpcfaiacggoiaa.Tw
open Go Go.TL Go.Proofs
def tab : List (Nat × TI) := [(2, ⟨.int .i64, 1, 8, [.lit (.int .i64 0)]⟩),
  (3, ⟨.int .i64, 1, 8, [.lit (.int .i64 0)]⟩),
  (4, ⟨.bool, 1, 1, [.lit (.bool false)]⟩),
  (5, ⟨.int .u8, 1, 1, [.lit (.int .u8 0)]⟩),
  (6, ⟨.int .u8, 1, 1, [.lit (.int .u8 0)]⟩),
  (7, ⟨.st [(0, 1, 2), (1, 1, 3), (2, 1, 4), (3, 1, 6)], 4, 24, [.lit (.int .i64 0), .lit (.int .i64 0), .lit (.bool false), .lit (.int .u8 0)]⟩),
  (8, ⟨.st [(0, 1, 2), (1, 1, 3), (2, 1, 4), (3, 1, 6)], 4, 24, [.lit (.int .i64 0), .lit (.int .i64 0), .lit (.bool false), .lit (.int .u8 0)]⟩),
  (9, ⟨.str, 1, 16, [.lit (.string ⟨#[]⟩)]⟩),
  (22, ⟨.sl 62, 1, 24, [.sl true 3 []]⟩),
  (23, ⟨.sl 3, 1, 24, [.sl true 1 []]⟩),
  (25, ⟨.st [(0, 1, 22), (1, 1, 23)], 2, 48, [.sl true 3 [], .sl true 1 []]⟩),
  (27, ⟨.sl 56, 1, 24, [.sl true 3 []]⟩),
  (29, ⟨.st [(0, 1, 27), (1, 1, 23)], 2, 48, [.sl true 3 [], .sl true 1 []]⟩),
  (39, ⟨.st [(0, 1, 3), (1, 1, 3), (2, 1, 3), (3, 1, 3), (4, 1, 3)], 5, 40, [.lit (.int .i64 0), .lit (.int .i64 0), .lit (.int .i64 0), .lit (.int .i64 0), .lit (.int .i64 0)]⟩),
  (41, ⟨.st [(0, 1, 4), (1, 1, 3), (2, 1, 4), (3, 5, 39)], 8, 64, [.lit (.bool false), .lit (.int .i64 0), .lit (.bool false), .lit (.int .i64 0), .lit (.int .i64 0), .lit (.int .i64 0), .lit (.int .i64 0), .lit (.int .i64 0)]⟩),
  (43, ⟨.sl 41, 1, 24, [.sl true 8 []]⟩),
  (56, ⟨.st [(0, 1, 3), (1, 1, 3), (2, 1, 3)], 3, 24, [.lit (.int .i64 0), .lit (.int .i64 0), .lit (.int .i64 0)]⟩),
  (62, ⟨.st [(0, 1, 3), (1, 1, 3), (2, 1, 3)], 3, 24, [.lit (.int .i64 0), .lit (.int .i64 0), .lit (.int .i64 0)]⟩),
  (71, ⟨.sl 184, 1, 24, [.sl true 8 []]⟩),
  (72, ⟨.sl 186, 1, 24, [.sl true 5 []]⟩),
  (74, ⟨.st [(0, 1, 3), (1, 1, 9), (2, 1, 71), (3, 1, 72), (4, 2, 25), (6, 1, 3), (7, 1, 3), (8, 1, 3), (9, 1, 3), (10, 1, 3)], 11, 160, [.lit (.int .i64 0), .lit (.string ⟨#[]⟩), .sl true 8 [], .sl true 5 [], .sl true 3 [], .sl true 1 [], .lit (.int .i64 0), .lit (.int .i64 0), .lit (.int .i64 0), .lit (.int .i64 0), .lit (.int .i64 0)]⟩),
  (77, ⟨.sl 147, 1, 24, [.sl true 5 []]⟩),
  (79, ⟨.st [(0, 1, 3), (1, 1, 9), (2, 1, 43), (3, 1, 77), (4, 2, 29), (6, 1, 3), (7, 1, 3), (8, 1, 3), (9, 1, 3), (10, 1, 3)], 11, 160, [.lit (.int .i64 0), .lit (.string ⟨#[]⟩), .sl true 8 [], .sl true 5 [], .sl true 3 [], .sl true 1 [], .lit (.int .i64 0), .lit (.int .i64 0), .lit (.int .i64 0), .lit (.int .i64 0), .lit (.int .i64 0)]⟩),
  (136, ⟨.int .u64, 1, 8, [.lit (.int .u64 0)]⟩),
  (147, ⟨.st [(0, 1, 3), (1, 1, 3), (2, 1, 3), (3, 1, 3), (4, 1, 4)], 5, 40, [.lit (.int .i64 0), .lit (.int .i64 0), .lit (.int .i64 0), .lit (.int .i64 0), .lit (.bool false)]⟩),
  (182, ⟨.st [(0, 1, 3), (1, 1, 3), (2, 1, 3), (3, 1, 3), (4, 1, 3)], 5, 40, [.lit (.int .i64 0), .lit (.int .i64 0), .lit (.int .i64 0), .lit (.int .i64 0), .lit (.int .i64 0)]⟩),
  (184, ⟨.st [(0, 1, 4), (1, 1, 3), (2, 1, 4), (3, 5, 182)], 8, 64, [.lit (.bool false), .lit (.int .i64 0), .lit (.bool false), .lit (.int .i64 0), .lit (.int .i64 0), .lit (.int .i64 0), .lit (.int .i64 0), .lit (.int .i64 0)]⟩),
  (186, ⟨.st [(0, 1, 3), (1, 1, 3), (2, 1, 3), (3, 1, 3), (4, 1, 4)], 5, 40, [.lit (.int .i64 0), .lit (.int .i64 0), .lit (.int .i64 0), .lit (.int .i64 0), .lit (.bool false)]⟩)]
theorem mixed : Try.prog.follows .mixedOrders = true := by kernel_rfl
theorem tOk : TOk Try.prog (lk tab) := tok_of (by kernel_rfl)

structure Vec where
  Root : Int
  Cost : Int
  Hops : Int
  Bridge : Int
  Port : Int
def Vec.row (v : Vec) : List CV := [.lit (.int .i64 v.Root), .lit (.int .i64 v.Cost), .lit (.int .i64 v.Hops), .lit (.int .i64 v.Bridge), .lit (.int .i64 v.Port)]
def Vec.wf (v : Vec) : Prop := intWf v.Root ∧ intWf v.Cost ∧ intWf v.Hops ∧ intWf v.Bridge ∧ intWf v.Port ∧ True
theorem Vec.enc : Enc Vec [.int .i64, .int .i64, .int .i64, .int .i64, .int .i64] Vec.row Vec.wf := fun cs h => by
  obtain ⟨c0, r0, rfl, k0, h⟩ := fitR_cons h
  obtain ⟨c1, r1, rfl, k1, h⟩ := fitR_cons h
  obtain ⟨c2, r2, rfl, k2, h⟩ := fitR_cons h
  obtain ⟨c3, r3, rfl, k3, h⟩ := fitR_cons h
  obtain ⟨c4, r4, rfl, k4, h⟩ := fitR_cons h
  obtain rfl := fitR_nil h
  obtain ⟨x0, rfl, w0⟩ := fitC_int k0
  obtain ⟨x1, rfl, w1⟩ := fitC_int k1
  obtain ⟨x2, rfl, w2⟩ := fitC_int k2
  obtain ⟨x3, rfl, w3⟩ := fitC_int k3
  obtain ⟨x4, rfl, w4⟩ := fitC_int k4
  exact ⟨⟨x0, x1, x2, x3, x4⟩, rfl, ⟨w0, w1, w2, w3, w4, trivial⟩⟩
theorem Vec.row_mine (v : Vec) : CV.mineRow (Vec.row v) := mine_cons mine_lit (mine_cons mine_lit (mine_cons mine_lit (mine_cons mine_lit (mine_cons mine_lit (mine_nil)))))

structure Pt where
  Up : Bool
  Cost : Int
  Has : Bool
  Heard : Vec
def Pt.row (v : Pt) : List CV := [.lit (.bool v.Up), .lit (.int .i64 v.Cost), .lit (.bool v.Has), .lit (.int .i64 v.Heard.Root), .lit (.int .i64 v.Heard.Cost), .lit (.int .i64 v.Heard.Hops), .lit (.int .i64 v.Heard.Bridge), .lit (.int .i64 v.Heard.Port)]
def Pt.wf (v : Pt) : Prop := intWf v.Cost ∧ intWf v.Heard.Root ∧ intWf v.Heard.Cost ∧ intWf v.Heard.Hops ∧ intWf v.Heard.Bridge ∧ intWf v.Heard.Port ∧ True
theorem Pt.enc : Enc Pt [.bool, .int .i64, .bool, .int .i64, .int .i64, .int .i64, .int .i64, .int .i64] Pt.row Pt.wf := fun cs h => by
  obtain ⟨c0, r0, rfl, k0, h⟩ := fitR_cons h
  obtain ⟨c1, r1, rfl, k1, h⟩ := fitR_cons h
  obtain ⟨c2, r2, rfl, k2, h⟩ := fitR_cons h
  obtain ⟨c3, r3, rfl, k3, h⟩ := fitR_cons h
  obtain ⟨c4, r4, rfl, k4, h⟩ := fitR_cons h
  obtain ⟨c5, r5, rfl, k5, h⟩ := fitR_cons h
  obtain ⟨c6, r6, rfl, k6, h⟩ := fitR_cons h
  obtain ⟨c7, r7, rfl, k7, h⟩ := fitR_cons h
  obtain rfl := fitR_nil h
  obtain ⟨x0, rfl⟩ := fitC_bool k0
  obtain ⟨x1, rfl, w1⟩ := fitC_int k1
  obtain ⟨x2, rfl⟩ := fitC_bool k2
  obtain ⟨x3, rfl, w3⟩ := fitC_int k3
  obtain ⟨x4, rfl, w4⟩ := fitC_int k4
  obtain ⟨x5, rfl, w5⟩ := fitC_int k5
  obtain ⟨x6, rfl, w6⟩ := fitC_int k6
  obtain ⟨x7, rfl, w7⟩ := fitC_int k7
  exact ⟨⟨x0, x1, x2, ⟨x3, x4, x5, x6, x7⟩⟩, rfl, ⟨w1, w3, w4, w5, w6, w7, trivial⟩⟩
theorem Pt.row_mine (v : Pt) : CV.mineRow (Pt.row v) := mine_cons mine_lit (mine_cons mine_lit (mine_cons mine_lit (mine_cons mine_lit (mine_cons mine_lit (mine_cons mine_lit (mine_cons mine_lit (mine_cons mine_lit (mine_nil))))))))

structure Fent where
  Tag : Int
  Mac : Int
  Port : Int
  Age : Int
  Static : Bool
def Fent.row (v : Fent) : List CV := [.lit (.int .i64 v.Tag), .lit (.int .i64 v.Mac), .lit (.int .i64 v.Port), .lit (.int .i64 v.Age), .lit (.bool v.Static)]
def Fent.wf (v : Fent) : Prop := intWf v.Tag ∧ intWf v.Mac ∧ intWf v.Port ∧ intWf v.Age ∧ True
theorem Fent.enc : Enc Fent [.int .i64, .int .i64, .int .i64, .int .i64, .bool] Fent.row Fent.wf := fun cs h => by
  obtain ⟨c0, r0, rfl, k0, h⟩ := fitR_cons h
  obtain ⟨c1, r1, rfl, k1, h⟩ := fitR_cons h
  obtain ⟨c2, r2, rfl, k2, h⟩ := fitR_cons h
  obtain ⟨c3, r3, rfl, k3, h⟩ := fitR_cons h
  obtain ⟨c4, r4, rfl, k4, h⟩ := fitR_cons h
  obtain rfl := fitR_nil h
  obtain ⟨x0, rfl, w0⟩ := fitC_int k0
  obtain ⟨x1, rfl, w1⟩ := fitC_int k1
  obtain ⟨x2, rfl, w2⟩ := fitC_int k2
  obtain ⟨x3, rfl, w3⟩ := fitC_int k3
  obtain ⟨x4, rfl⟩ := fitC_bool k4
  exact ⟨⟨x0, x1, x2, x3, x4⟩, rfl, ⟨w0, w1, w2, w3, trivial⟩⟩
theorem Fent.row_mine (v : Fent) : CV.mineRow (Fent.row v) := mine_cons mine_lit (mine_cons mine_lit (mine_cons mine_lit (mine_cons mine_lit (mine_cons mine_lit (mine_nil)))))

structure Vrow where
  Id : Int
  Members : Int
  Bare : Int
def Vrow.row (v : Vrow) : List CV := [.lit (.int .i64 v.Id), .lit (.int .i64 v.Members), .lit (.int .i64 v.Bare)]
def Vrow.wf (v : Vrow) : Prop := intWf v.Id ∧ intWf v.Members ∧ intWf v.Bare ∧ True
theorem Vrow.enc : Enc Vrow [.int .i64, .int .i64, .int .i64] Vrow.row Vrow.wf := fun cs h => by
  obtain ⟨c0, r0, rfl, k0, h⟩ := fitR_cons h
  obtain ⟨c1, r1, rfl, k1, h⟩ := fitR_cons h
  obtain ⟨c2, r2, rfl, k2, h⟩ := fitR_cons h
  obtain rfl := fitR_nil h
  obtain ⟨x0, rfl, w0⟩ := fitC_int k0
  obtain ⟨x1, rfl, w1⟩ := fitC_int k1
  obtain ⟨x2, rfl, w2⟩ := fitC_int k2
  exact ⟨⟨x0, x1, x2⟩, rfl, ⟨w0, w1, w2, trivial⟩⟩
theorem Vrow.row_mine (v : Vrow) : CV.mineRow (Vrow.row v) := mine_cons mine_lit (mine_cons mine_lit (mine_cons mine_lit (mine_nil)))

structure Vtab where
  Rows : (List Vrow)
  Pvid : (List Int)
def Vtab.row (v : Vtab) : List CV := [.sl true 3 (v.Rows.map Vrow.row), .sl true 1 (v.Pvid.map intRow)]
def Vtab.wf (v : Vtab) : Prop := listWf Vrow.wf v.Rows ∧ listWf intWf v.Pvid ∧ True
theorem Vtab.enc : Enc Vtab [.sl 3 [.int .i64, .int .i64, .int .i64], .sl 1 [.int .i64]] Vtab.row Vtab.wf := fun cs h => by
  obtain ⟨c0, r0, rfl, k0, h⟩ := fitR_cons h
  obtain ⟨c1, r1, rfl, k1, h⟩ := fitR_cons h
  obtain rfl := fitR_nil h
  obtain ⟨x0, rfl, w0⟩ := Enc.sl Vrow.enc k0
  obtain ⟨x1, rfl, w1⟩ := Enc.sl encInt k1
  exact ⟨⟨x0, x1⟩, rfl, ⟨w0, w1, trivial⟩⟩
theorem Vtab.row_mine (v : Vtab) : CV.mineRow (Vtab.row v) := mine_cons (mine_sl (mine_map Vrow.row_mine _)) (mine_cons (mine_sl (mine_map intRow_mine _)) (mine_nil))

structure Bridge where
  Id : Int
  Name : ByteArray
  Ports : (List Pt)
  F : (List Fent)
  V : Vtab
  Ticks : Int
  Parse : Int
  Word : Int
  Drops : Int
  Vers : Int
def Bridge.row (v : Bridge) : List CV := [.lit (.int .i64 v.Id), .lit (.string v.Name), .sl true 8 (v.Ports.map Pt.row), .sl true 5 (v.F.map Fent.row), .sl true 3 (v.V.Rows.map Vrow.row), .sl true 1 (v.V.Pvid.map intRow), .lit (.int .i64 v.Ticks), .lit (.int .i64 v.Parse), .lit (.int .i64 v.Word), .lit (.int .i64 v.Drops), .lit (.int .i64 v.Vers)]
def Bridge.wf (v : Bridge) : Prop := intWf v.Id ∧ v.Name.size ≤ maxLen ∧ listWf Pt.wf v.Ports ∧ listWf Fent.wf v.F ∧ listWf Vrow.wf v.V.Rows ∧ listWf intWf v.V.Pvid ∧ intWf v.Ticks ∧ intWf v.Parse ∧ intWf v.Word ∧ intWf v.Drops ∧ intWf v.Vers ∧ True
theorem Bridge.enc : Enc Bridge [.int .i64, .str, .sl 8 [.bool, .int .i64, .bool, .int .i64, .int .i64, .int .i64, .int .i64, .int .i64], .sl 5 [.int .i64, .int .i64, .int .i64, .int .i64, .bool], .sl 3 [.int .i64, .int .i64, .int .i64], .sl 1 [.int .i64], .int .i64, .int .i64, .int .i64, .int .i64, .int .i64] Bridge.row Bridge.wf := fun cs h => by
  obtain ⟨c0, r0, rfl, k0, h⟩ := fitR_cons h
  obtain ⟨c1, r1, rfl, k1, h⟩ := fitR_cons h
  obtain ⟨c2, r2, rfl, k2, h⟩ := fitR_cons h
  obtain ⟨c3, r3, rfl, k3, h⟩ := fitR_cons h
  obtain ⟨c4, r4, rfl, k4, h⟩ := fitR_cons h
  obtain ⟨c5, r5, rfl, k5, h⟩ := fitR_cons h
  obtain ⟨c6, r6, rfl, k6, h⟩ := fitR_cons h
  obtain ⟨c7, r7, rfl, k7, h⟩ := fitR_cons h
  obtain ⟨c8, r8, rfl, k8, h⟩ := fitR_cons h
  obtain ⟨c9, r9, rfl, k9, h⟩ := fitR_cons h
  obtain ⟨c10, r10, rfl, k10, h⟩ := fitR_cons h
  obtain rfl := fitR_nil h
  obtain ⟨x0, rfl, w0⟩ := fitC_int k0
  obtain ⟨x1, rfl, w1⟩ := fitC_str k1
  obtain ⟨x2, rfl, w2⟩ := Enc.sl Pt.enc k2
  obtain ⟨x3, rfl, w3⟩ := Enc.sl Fent.enc k3
  obtain ⟨x4, rfl, w4⟩ := Enc.sl Vrow.enc k4
  obtain ⟨x5, rfl, w5⟩ := Enc.sl encInt k5
  obtain ⟨x6, rfl, w6⟩ := fitC_int k6
  obtain ⟨x7, rfl, w7⟩ := fitC_int k7
  obtain ⟨x8, rfl, w8⟩ := fitC_int k8
  obtain ⟨x9, rfl, w9⟩ := fitC_int k9
  obtain ⟨x10, rfl, w10⟩ := fitC_int k10
  exact ⟨⟨x0, x1, x2, x3, ⟨x4, x5⟩, x6, x7, x8, x9, x10⟩, rfl, ⟨w0, w1, w2, w3, w4, w5, w6, w7, w8, w9, w10, trivial⟩⟩
theorem Bridge.row_mine (v : Bridge) : CV.mineRow (Bridge.row v) := mine_cons mine_lit (mine_cons mine_lit (mine_cons (mine_sl (mine_map Pt.row_mine _)) (mine_cons (mine_sl (mine_map Fent.row_mine _)) (mine_cons (mine_sl (mine_map Vrow.row_mine _)) (mine_cons (mine_sl (mine_map intRow_mine _)) (mine_cons mine_lit (mine_cons mine_lit (mine_cons mine_lit (mine_cons mine_lit (mine_cons mine_lit (mine_nil)))))))))))

def laws_szPtSF (n : Nat) (x0 : (List Pt)) (x1 : Int) : Option (Int) :=
  (bif (decide ((IntKind.wrap .i64 (x1 - (x0.length : Int))) < 0)) then (some (-1)) else (some (IntKind.wrap .i64 (x1 - (x0.length : Int)))))
/-- loop.example/g00326/laws.szPtS -/
theorem laws_szPtS (n : Nat) (x0 : (List Pt)) (x1 : Int) (r : Int) (H : laws_szPtSF n x0 x1 = some r) : LCall Try.prog 113 [.val false [.sl false 8 (CV.frzEs (x0.map Pt.row))], .val false [.lit (.int .i64 x1)]] [.val false [.lit (.int .i64 r)]] [] := by
  refine LCall.of_body tOk Try.func113 rfl (c := (.seq (.region 0 (rg Try.f113 0) false) (.seq (.region 1 (rg Try.f113 1) false) (.seq (.seq (.region 2 (rg Try.f113 2) false) (.cond (.tmp 10) (.seq (.region 3 (rg Try.f113 3) false) .ret) .skip)) (.seq (.region 4 (rg Try.f113 4) false) .ret))))) (by kernel_rfl) (Nat.le_of_ble_eq_true (by kernel_rfl)) 0 (rs := [.tmp 4]) rfl [] .nil [(false, [.lit (.int .i64 r)])] [] [] fun cx => ?_
  show Tr _ _ _ ⟨12, 0, [(0, .val false [.sl false 8 (CV.frzEs (x0.map Pt.row))]), (1, .val false [.lit (.int .i64 x1)])], []⟩ _
  unfold laws_szPtSF at H
  refine Tr.rs ?_
  refine LAt.runU tOk 1 (by kernel_rfl) ?_
  refine LAt.doneU [4, 0, 1] [] (by kernel_rfl) ?_
  refine Tr.rs ?_
  refine LAt.runU tOk 2 (by kernel_rfl) ?_
  refine LAt.lenE tOk (t := 71) (ty := 3) (e := 184) (x := (.tmp 6)) (d := 7) (g := none) ⟨(.slot 6), [], 0, false, 8, (CV.frzEs (x0.map Pt.row))⟩ (x0).length _ (by kernel_rfl) (by kernel_rfl) (by kernel_rfl) (by kernel_rfl) (by kernel_rfl) (frz_len _ _) rfl ?_
  refine LAt.runU tOk 2 (by kernel_rfl) ?_
  refine LAt.doneU [1, 4] [] (by kernel_rfl) ?_
  refine Tr.seq ?_
  refine Tr.rs ?_
  refine LAt.runU tOk 2 (by kernel_rfl) ?_
  refine LAt.doneU [10, 1, 4] [] (by kernel_rfl) ?_
  refine Tr.to ⟨12, 0, [(10, .val false [.lit (.bool (decide ((IntKind.wrap .i64 (x1 - (x0.length : Int))) < 0)))]), (1, .val false [.lit (.int .i64 (IntKind.wrap .i64 (x1 - (x0.length : Int))))]), (4, .val false [.lit (.int .i64 0)])], []⟩ (by kernel_rfl) ?_
  cases h1 : (decide ((IntKind.wrap .i64 (x1 - (x0.length : Int))) < 0))
  · have H := bifF h1 H
    refine Tr.cond (b := false) (by kernel_rfl) (fun h => nomatch h) (fun _ => ?_)
    refine Tr.skip ?_
    show Tr _ _ _ _ _
    refine Tr.rs ?_
    refine LAt.runU tOk 2 (by kernel_rfl) ?_
    refine LAt.doneU [4] [] (by kernel_rfl) ?_
    refine Tr.ret ?_
    have H := Option.some.inj H
    subst H
    exact Fin.of _ [(false, [.lit (.int .i64 (IntKind.wrap .i64 (x1 - (x0.length : Int))))])] (by kernel_rfl) rfl rfl
  · have H := bifT h1 H
    refine Tr.cond (b := true) (by kernel_rfl) (fun _ => ?_) (fun h => nomatch h)
    refine Tr.rs ?_
    refine LAt.runU tOk 1 (by kernel_rfl) ?_
    refine LAt.doneU [4, 1] [] (by kernel_rfl) ?_
    refine Tr.ret ?_
    have H := Option.some.inj H
    subst H
    exact Fin.of _ [(false, [.lit (.int .i64 (-1))])] (by kernel_rfl) rfl rfl

def laws_szFentSF (n : Nat) (x0 : (List Fent)) (x1 : Int) : Option (Int) :=
  (bif (decide ((IntKind.wrap .i64 (x1 - (x0.length : Int))) < 0)) then (some (-1)) else (some (IntKind.wrap .i64 (x1 - (x0.length : Int)))))
/-- loop.example/g00326/laws.szFentS -/
theorem laws_szFentS (n : Nat) (x0 : (List Fent)) (x1 : Int) (r : Int) (H : laws_szFentSF n x0 x1 = some r) : LCall Try.prog 114 [.val false [.sl false 5 (CV.frzEs (x0.map Fent.row))], .val false [.lit (.int .i64 x1)]] [.val false [.lit (.int .i64 r)]] [] := by
  refine LCall.of_body tOk Try.func114 rfl (c := (.seq (.region 0 (rg Try.f114 0) false) (.seq (.region 1 (rg Try.f114 1) false) (.seq (.seq (.region 2 (rg Try.f114 2) false) (.cond (.tmp 10) (.seq (.region 3 (rg Try.f114 3) false) .ret) .skip)) (.seq (.region 4 (rg Try.f114 4) false) .ret))))) (by kernel_rfl) (Nat.le_of_ble_eq_true (by kernel_rfl)) 0 (rs := [.tmp 4]) rfl [] .nil [(false, [.lit (.int .i64 r)])] [] [] fun cx => ?_
  show Tr _ _ _ ⟨12, 0, [(0, .val false [.sl false 5 (CV.frzEs (x0.map Fent.row))]), (1, .val false [.lit (.int .i64 x1)])], []⟩ _
  unfold laws_szFentSF at H
  refine Tr.rs ?_
  refine LAt.runU tOk 1 (by kernel_rfl) ?_
  refine LAt.doneU [4, 0, 1] [] (by kernel_rfl) ?_
  refine Tr.rs ?_
  refine LAt.runU tOk 2 (by kernel_rfl) ?_
  refine LAt.lenE tOk (t := 72) (ty := 3) (e := 186) (x := (.tmp 6)) (d := 7) (g := none) ⟨(.slot 6), [], 0, false, 5, (CV.frzEs (x0.map Fent.row))⟩ (x0).length _ (by kernel_rfl) (by kernel_rfl) (by kernel_rfl) (by kernel_rfl) (by kernel_rfl) (frz_len _ _) rfl ?_
  refine LAt.runU tOk 2 (by kernel_rfl) ?_
  refine LAt.doneU [1, 4] [] (by kernel_rfl) ?_
  refine Tr.seq ?_
  refine Tr.rs ?_
  refine LAt.runU tOk 2 (by kernel_rfl) ?_
  refine LAt.doneU [10, 1, 4] [] (by kernel_rfl) ?_
  refine Tr.to ⟨12, 0, [(10, .val false [.lit (.bool (decide ((IntKind.wrap .i64 (x1 - (x0.length : Int))) < 0)))]), (1, .val false [.lit (.int .i64 (IntKind.wrap .i64 (x1 - (x0.length : Int))))]), (4, .val false [.lit (.int .i64 0)])], []⟩ (by kernel_rfl) ?_
  cases h1 : (decide ((IntKind.wrap .i64 (x1 - (x0.length : Int))) < 0))
  · have H := bifF h1 H
    refine Tr.cond (b := false) (by kernel_rfl) (fun h => nomatch h) (fun _ => ?_)
    refine Tr.skip ?_
    show Tr _ _ _ _ _
    refine Tr.rs ?_
    refine LAt.runU tOk 2 (by kernel_rfl) ?_
    refine LAt.doneU [4] [] (by kernel_rfl) ?_
    refine Tr.ret ?_
    have H := Option.some.inj H
    subst H
    exact Fin.of _ [(false, [.lit (.int .i64 (IntKind.wrap .i64 (x1 - (x0.length : Int))))])] (by kernel_rfl) rfl rfl
  · have H := bifT h1 H
    refine Tr.cond (b := true) (by kernel_rfl) (fun _ => ?_) (fun h => nomatch h)
    refine Tr.rs ?_
    refine LAt.runU tOk 1 (by kernel_rfl) ?_
    refine LAt.doneU [4, 1] [] (by kernel_rfl) ?_
    refine Tr.ret ?_
    have H := Option.some.inj H
    subst H
    exact Fin.of _ [(false, [.lit (.int .i64 (-1))])] (by kernel_rfl) rfl rfl

def laws_szVrowSF (n : Nat) (x0 : (List Vrow)) (x1 : Int) : Option (Int) :=
  (bif (decide ((IntKind.wrap .i64 (x1 - (x0.length : Int))) < 0)) then (some (-1)) else (some (IntKind.wrap .i64 (x1 - (x0.length : Int)))))
/-- loop.example/g00326/laws.szVrowS -/
theorem laws_szVrowS (n : Nat) (x0 : (List Vrow)) (x1 : Int) (r : Int) (H : laws_szVrowSF n x0 x1 = some r) : LCall Try.prog 74 [.val false [.sl false 3 (CV.frzEs (x0.map Vrow.row))], .val false [.lit (.int .i64 x1)]] [.val false [.lit (.int .i64 r)]] [] := by
  refine LCall.of_body tOk Try.func74 rfl (c := (.seq (.region 0 (rg Try.f74 0) false) (.seq (.region 1 (rg Try.f74 1) false) (.seq (.seq (.region 2 (rg Try.f74 2) false) (.cond (.tmp 10) (.seq (.region 3 (rg Try.f74 3) false) .ret) .skip)) (.seq (.region 4 (rg Try.f74 4) false) .ret))))) (by kernel_rfl) (Nat.le_of_ble_eq_true (by kernel_rfl)) 0 (rs := [.tmp 4]) rfl [] .nil [(false, [.lit (.int .i64 r)])] [] [] fun cx => ?_
  show Tr _ _ _ ⟨12, 0, [(0, .val false [.sl false 3 (CV.frzEs (x0.map Vrow.row))]), (1, .val false [.lit (.int .i64 x1)])], []⟩ _
  unfold laws_szVrowSF at H
  refine Tr.rs ?_
  refine LAt.runU tOk 1 (by kernel_rfl) ?_
  refine LAt.doneU [4, 0, 1] [] (by kernel_rfl) ?_
  refine Tr.rs ?_
  refine LAt.runU tOk 2 (by kernel_rfl) ?_
  refine LAt.lenE tOk (t := 22) (ty := 3) (e := 62) (x := (.tmp 6)) (d := 7) (g := none) ⟨(.slot 6), [], 0, false, 3, (CV.frzEs (x0.map Vrow.row))⟩ (x0).length _ (by kernel_rfl) (by kernel_rfl) (by kernel_rfl) (by kernel_rfl) (by kernel_rfl) (frz_len _ _) rfl ?_
  refine LAt.runU tOk 2 (by kernel_rfl) ?_
  refine LAt.doneU [1, 4] [] (by kernel_rfl) ?_
  refine Tr.seq ?_
  refine Tr.rs ?_
  refine LAt.runU tOk 2 (by kernel_rfl) ?_
  refine LAt.doneU [10, 1, 4] [] (by kernel_rfl) ?_
  refine Tr.to ⟨12, 0, [(10, .val false [.lit (.bool (decide ((IntKind.wrap .i64 (x1 - (x0.length : Int))) < 0)))]), (1, .val false [.lit (.int .i64 (IntKind.wrap .i64 (x1 - (x0.length : Int))))]), (4, .val false [.lit (.int .i64 0)])], []⟩ (by kernel_rfl) ?_
  cases h1 : (decide ((IntKind.wrap .i64 (x1 - (x0.length : Int))) < 0))
  · have H := bifF h1 H
    refine Tr.cond (b := false) (by kernel_rfl) (fun h => nomatch h) (fun _ => ?_)
    refine Tr.skip ?_
    show Tr _ _ _ _ _
    refine Tr.rs ?_
    refine LAt.runU tOk 2 (by kernel_rfl) ?_
    refine LAt.doneU [4] [] (by kernel_rfl) ?_
    refine Tr.ret ?_
    have H := Option.some.inj H
    subst H
    exact Fin.of _ [(false, [.lit (.int .i64 (IntKind.wrap .i64 (x1 - (x0.length : Int))))])] (by kernel_rfl) rfl rfl
  · have H := bifT h1 H
    refine Tr.cond (b := true) (by kernel_rfl) (fun _ => ?_) (fun h => nomatch h)
    refine Tr.rs ?_
    refine LAt.runU tOk 1 (by kernel_rfl) ?_
    refine LAt.doneU [4, 1] [] (by kernel_rfl) ?_
    refine Tr.ret ?_
    have H := Option.some.inj H
    subst H
    exact Fin.of _ [(false, [.lit (.int .i64 (-1))])] (by kernel_rfl) rfl rfl

def laws_szIntSF (n : Nat) (x0 : (List Int)) (x1 : Int) : Option (Int) :=
  (bif (decide ((IntKind.wrap .i64 (x1 - (x0.length : Int))) < 0)) then (some (-1)) else (some (IntKind.wrap .i64 (x1 - (x0.length : Int)))))
/-- loop.example/g00326/laws.szIntS -/
theorem laws_szIntS (n : Nat) (x0 : (List Int)) (x1 : Int) (r : Int) (H : laws_szIntSF n x0 x1 = some r) : LCall Try.prog 75 [.val false [.sl false 1 (CV.frzEs (x0.map intRow))], .val false [.lit (.int .i64 x1)]] [.val false [.lit (.int .i64 r)]] [] := by
  refine LCall.of_body tOk Try.func75 rfl (c := (.seq (.region 0 (rg Try.f75 0) false) (.seq (.region 1 (rg Try.f75 1) false) (.seq (.seq (.region 2 (rg Try.f75 2) false) (.cond (.tmp 10) (.seq (.region 3 (rg Try.f75 3) false) .ret) .skip)) (.seq (.region 4 (rg Try.f75 4) false) .ret))))) (by kernel_rfl) (Nat.le_of_ble_eq_true (by kernel_rfl)) 0 (rs := [.tmp 4]) rfl [] .nil [(false, [.lit (.int .i64 r)])] [] [] fun cx => ?_
  show Tr _ _ _ ⟨12, 0, [(0, .val false [.sl false 1 (CV.frzEs (x0.map intRow))]), (1, .val false [.lit (.int .i64 x1)])], []⟩ _
  unfold laws_szIntSF at H
  refine Tr.rs ?_
  refine LAt.runU tOk 1 (by kernel_rfl) ?_
  refine LAt.doneU [4, 0, 1] [] (by kernel_rfl) ?_
  refine Tr.rs ?_
  refine LAt.runU tOk 2 (by kernel_rfl) ?_
  refine LAt.lenE tOk (t := 23) (ty := 3) (e := 3) (x := (.tmp 6)) (d := 7) (g := none) ⟨(.slot 6), [], 0, false, 1, (CV.frzEs (x0.map intRow))⟩ (x0).length _ (by kernel_rfl) (by kernel_rfl) (by kernel_rfl) (by kernel_rfl) (by kernel_rfl) (frz_len _ _) rfl ?_
  refine LAt.runU tOk 2 (by kernel_rfl) ?_
  refine LAt.doneU [1, 4] [] (by kernel_rfl) ?_
  refine Tr.seq ?_
  refine Tr.rs ?_
  refine LAt.runU tOk 2 (by kernel_rfl) ?_
  refine LAt.doneU [10, 1, 4] [] (by kernel_rfl) ?_
  refine Tr.to ⟨12, 0, [(10, .val false [.lit (.bool (decide ((IntKind.wrap .i64 (x1 - (x0.length : Int))) < 0)))]), (1, .val false [.lit (.int .i64 (IntKind.wrap .i64 (x1 - (x0.length : Int))))]), (4, .val false [.lit (.int .i64 0)])], []⟩ (by kernel_rfl) ?_
  cases h1 : (decide ((IntKind.wrap .i64 (x1 - (x0.length : Int))) < 0))
  · have H := bifF h1 H
    refine Tr.cond (b := false) (by kernel_rfl) (fun h => nomatch h) (fun _ => ?_)
    refine Tr.skip ?_
    show Tr _ _ _ _ _
    refine Tr.rs ?_
    refine LAt.runU tOk 2 (by kernel_rfl) ?_
    refine LAt.doneU [4] [] (by kernel_rfl) ?_
    refine Tr.ret ?_
    have H := Option.some.inj H
    subst H
    exact Fin.of _ [(false, [.lit (.int .i64 (IntKind.wrap .i64 (x1 - (x0.length : Int))))])] (by kernel_rfl) rfl rfl
  · have H := bifT h1 H
    refine Tr.cond (b := true) (by kernel_rfl) (fun _ => ?_) (fun h => nomatch h)
    refine Tr.rs ?_
    refine LAt.runU tOk 1 (by kernel_rfl) ?_
    refine LAt.doneU [4, 1] [] (by kernel_rfl) ?_
    refine Tr.ret ?_
    have H := Option.some.inj H
    subst H
    exact Fin.of _ [(false, [.lit (.int .i64 (-1))])] (by kernel_rfl) rfl rfl

def laws_szVtabF (n : Nat) (x0 : Vtab) (x1 : Int) : Option (Int) :=
  ((laws_szVrowSF n x0.Rows x1).bind fun r1 => (bif (decide (r1 < 0)) then (some (-1)) else ((laws_szIntSF n x0.Pvid r1).bind fun r2 => (bif (decide (r2 < 0)) then (some (-1)) else (some r2)))))
/-- loop.example/g00326/laws.szVtab -/
theorem laws_szVtab (n : Nat) (x0 : Vtab) (x1 : Int) (r : Int) (H : laws_szVtabF n x0 x1 = some r) : LCall Try.prog 15 [.val true (CV.frzRow (Vtab.row x0)), .val false [.lit (.int .i64 x1)]] [.val false [.lit (.int .i64 r)]] [] := by
  refine LCall.of_body tOk Try.func15 rfl (c := (.seq (.region 0 (rg Try.f15 0) false) (.seq (.region 1 (rg Try.f15 1) false) (.seq (.seq (.region 2 (rg Try.f15 2) false) (.cond (.tmp 10) (.seq (.region 3 (rg Try.f15 3) false) .ret) .skip)) (.seq (.region 4 (rg Try.f15 4) false) (.seq (.seq (.region 5 (rg Try.f15 5) false) (.cond (.tmp 16) (.seq (.region 6 (rg Try.f15 6) false) .ret) .skip)) (.seq (.region 7 (rg Try.f15 7) false) .ret))))))) (by kernel_rfl) (Nat.le_of_ble_eq_true (by kernel_rfl)) 0 (rs := [.tmp 4]) rfl [] .nil [(false, [.lit (.int .i64 r)])] [] [] fun cx => ?_
  show Tr _ _ _ ⟨18, 0, [(0, .val true (CV.frzRow (Vtab.row x0))), (1, .val false [.lit (.int .i64 x1)])], []⟩ _
  unfold laws_szVtabF at H
  refine Tr.rs ?_
  refine LAt.runU tOk 2 (by kernel_rfl) ?_
  refine LAt.doneU [4, 2, 1] [2] (by kernel_rfl) ?_
  refine Tr.rs ?_
  refine LAt.runU tOk 3 (by kernel_rfl) ?_
  obtain ⟨r1, er1, H⟩ := bind_some H
  refine LAt.callU tOk [.rd, .rd] (f := 74) (av := #[.tmp 6, .tmp 7]) (ats := #[22, 3]) (d := (some 8)) (ty := 3) (g := none) (by kernel_rfl) (by kernel_rfl) (by kernel_rfl) [] (laws_szVrowS n x0.Rows x1 r1 er1) (by kernel_rfl) (.inl rfl) ?_
  refine LAt.runU tOk 1 (by kernel_rfl) ?_
  refine LAt.doneU [1, 4, 2] [2] (by kernel_rfl) ?_
  refine Tr.seq ?_
  refine Tr.rs ?_
  refine LAt.runU tOk 2 (by kernel_rfl) ?_
  refine LAt.doneU [10, 1, 4, 2] [2] (by kernel_rfl) ?_
  refine Tr.to ⟨18, 0, [(10, .val false [.lit (.bool (decide (r1 < 0)))]), (1, .val false [.lit (.int .i64 r1)]), (4, .val false [.lit (.int .i64 0)]), (2, .adr (.box 2) [(0, 0)] 2 0)], [(2, (CV.frzRow (Vtab.row x0)))]⟩ (by kernel_rfl) ?_
  cases h1 : (decide (r1 < 0))
  · have H := bifF h1 H
    refine Tr.cond (b := false) (by kernel_rfl) (fun h => nomatch h) (fun _ => ?_)
    refine Tr.skip ?_
    show Tr _ _ _ _ _
    refine Tr.rs ?_
    refine LAt.runU tOk 3 (by kernel_rfl) ?_
    obtain ⟨r2, er2, H⟩ := bind_some H
    refine LAt.callU tOk [.rd, .rd] (f := 75) (av := #[.tmp 12, .tmp 13]) (ats := #[23, 3]) (d := (some 14)) (ty := 3) (g := none) (by kernel_rfl) (by kernel_rfl) (by kernel_rfl) [] (laws_szIntS n x0.Pvid r1 r2 er2) (by kernel_rfl) (.inl rfl) ?_
    refine LAt.runU tOk 1 (by kernel_rfl) ?_
    refine LAt.doneU [1, 4] [] (by kernel_rfl) ?_
    refine Tr.seq ?_
    refine Tr.rs ?_
    refine LAt.runU tOk 2 (by kernel_rfl) ?_
    refine LAt.doneU [16, 1, 4] [] (by kernel_rfl) ?_
    refine Tr.to ⟨18, 0, [(16, .val false [.lit (.bool (decide (r2 < 0)))]), (1, .val false [.lit (.int .i64 r2)]), (4, .val false [.lit (.int .i64 0)])], []⟩ (by kernel_rfl) ?_
    cases h2 : (decide (r2 < 0))
    · have H := bifF h2 H
      refine Tr.cond (b := false) (by kernel_rfl) (fun h => nomatch h) (fun _ => ?_)
      refine Tr.skip ?_
      show Tr _ _ _ _ _
      refine Tr.rs ?_
      refine LAt.runU tOk 2 (by kernel_rfl) ?_
      refine LAt.doneU [4] [] (by kernel_rfl) ?_
      refine Tr.ret ?_
      have H := Option.some.inj H
      subst H
      exact Fin.of _ [(false, [.lit (.int .i64 r2)])] (by kernel_rfl) rfl rfl
    · have H := bifT h2 H
      refine Tr.cond (b := true) (by kernel_rfl) (fun _ => ?_) (fun h => nomatch h)
      refine Tr.rs ?_
      refine LAt.runU tOk 1 (by kernel_rfl) ?_
      refine LAt.doneU [4, 1] [] (by kernel_rfl) ?_
      refine Tr.ret ?_
      have H := Option.some.inj H
      subst H
      exact Fin.of _ [(false, [.lit (.int .i64 (-1))])] (by kernel_rfl) rfl rfl
  · have H := bifT h1 H
    refine Tr.cond (b := true) (by kernel_rfl) (fun _ => ?_) (fun h => nomatch h)
    refine Tr.rs ?_
    refine LAt.runU tOk 1 (by kernel_rfl) ?_
    refine LAt.doneU [4, 1, 2] [2] (by kernel_rfl) ?_
    refine Tr.ret ?_
    have H := Option.some.inj H
    subst H
    exact Fin.of _ [(false, [.lit (.int .i64 (-1))])] (by kernel_rfl) rfl rfl

def laws_szBridgeF (n : Nat) (x0 : Bridge) (x1 : Int) : Option (Int) :=
  (bif (decide ((IntKind.wrap .i64 (x1 - (x0.Name.size : Int))) < 0)) then (some (-1)) else ((laws_szPtSF n x0.Ports (IntKind.wrap .i64 (x1 - (x0.Name.size : Int)))).bind fun r1 => (bif (decide (r1 < 0)) then (some (-1)) else ((laws_szFentSF n x0.F r1).bind fun r2 => (bif (decide (r2 < 0)) then (some (-1)) else ((laws_szVtabF n x0.V r2).bind fun r3 => (bif (decide (r3 < 0)) then (some (-1)) else (some r3))))))))
/-- loop.example/g00326/laws.szBridge -/
theorem laws_szBridge (n : Nat) (x0 : Bridge) (x1 : Int) (r : Int) (H : laws_szBridgeF n x0 x1 = some r) : LCall Try.prog 51 [.val true (CV.frzRow (Bridge.row x0)), .val false [.lit (.int .i64 x1)]] [.val false [.lit (.int .i64 r)]] [] := by
  refine LCall.of_body tOk Try.func51 rfl (c := (.seq (.region 0 (rg Try.f51 0) false) (.seq (.region 1 (rg Try.f51 1) false) (.seq (.seq (.region 2 (rg Try.f51 2) false) (.cond (.tmp 11) (.seq (.region 3 (rg Try.f51 3) false) .ret) .skip)) (.seq (.region 4 (rg Try.f51 4) false) (.seq (.seq (.region 5 (rg Try.f51 5) false) (.cond (.tmp 17) (.seq (.region 6 (rg Try.f51 6) false) .ret) .skip)) (.seq (.region 7 (rg Try.f51 7) false) (.seq (.seq (.region 8 (rg Try.f51 8) false) (.cond (.tmp 23) (.seq (.region 9 (rg Try.f51 9) false) .ret) .skip)) (.seq (.region 10 (rg Try.f51 10) false) (.seq (.seq (.region 11 (rg Try.f51 11) false) (.cond (.tmp 29) (.seq (.region 12 (rg Try.f51 12) false) .ret) .skip)) (.seq (.region 13 (rg Try.f51 13) false) .ret))))))))))) (by kernel_rfl) (Nat.le_of_ble_eq_true (by kernel_rfl)) 0 (rs := [.tmp 4]) rfl [] .nil [(false, [.lit (.int .i64 r)])] [] [] fun cx => ?_
  show Tr _ _ _ ⟨31, 0, [(0, .val true (CV.frzRow (Bridge.row x0))), (1, .val false [.lit (.int .i64 x1)])], []⟩ _
  unfold laws_szBridgeF at H
  refine Tr.rs ?_
  refine LAt.runU tOk 2 (by kernel_rfl) ?_
  refine LAt.doneU [4, 2, 1] [2] (by kernel_rfl) ?_
  refine Tr.rs ?_
  refine LAt.runU tOk 6 (by kernel_rfl) ?_
  refine LAt.doneU [1, 4, 2] [2] (by kernel_rfl) ?_
  refine Tr.seq ?_
  refine Tr.rs ?_
  refine LAt.runU tOk 2 (by kernel_rfl) ?_
  refine LAt.doneU [11, 1, 4, 2] [2] (by kernel_rfl) ?_
  refine Tr.to ⟨31, 0, [(11, .val false [.lit (.bool (decide ((IntKind.wrap .i64 (x1 - (x0.Name.size : Int))) < 0)))]), (1, .val false [.lit (.int .i64 (IntKind.wrap .i64 (x1 - (x0.Name.size : Int))))]), (4, .val false [.lit (.int .i64 0)]), (2, .adr (.box 2) [(0, 0)] 11 0)], [(2, (CV.frzRow (Bridge.row x0)))]⟩ (by kernel_rfl) ?_
  cases h1 : (decide ((IntKind.wrap .i64 (x1 - (x0.Name.size : Int))) < 0))
  · have H := bifF h1 H
    refine Tr.cond (b := false) (by kernel_rfl) (fun h => nomatch h) (fun _ => ?_)
    refine Tr.skip ?_
    show Tr _ _ _ _ _
    refine Tr.rs ?_
    refine LAt.runU tOk 3 (by kernel_rfl) ?_
    obtain ⟨r1, er1, H⟩ := bind_some H
    refine LAt.callU tOk [.rd, .rd] (f := 113) (av := #[.tmp 13, .tmp 14]) (ats := #[71, 3]) (d := (some 15)) (ty := 3) (g := none) (by kernel_rfl) (by kernel_rfl) (by kernel_rfl) [] (laws_szPtS n x0.Ports (IntKind.wrap .i64 (x1 - (x0.Name.size : Int))) r1 er1) (by kernel_rfl) (.inl rfl) ?_
    refine LAt.runU tOk 1 (by kernel_rfl) ?_
    refine LAt.doneU [1, 4, 2] [2] (by kernel_rfl) ?_
    refine Tr.seq ?_
    refine Tr.rs ?_
    refine LAt.runU tOk 2 (by kernel_rfl) ?_
    refine LAt.doneU [17, 1, 4, 2] [2] (by kernel_rfl) ?_
    refine Tr.to ⟨31, 0, [(17, .val false [.lit (.bool (decide (r1 < 0)))]), (1, .val false [.lit (.int .i64 r1)]), (4, .val false [.lit (.int .i64 0)]), (2, .adr (.box 2) [(0, 0)] 11 0)], [(2, (CV.frzRow (Bridge.row x0)))]⟩ (by kernel_rfl) ?_
    cases h2 : (decide (r1 < 0))
    · have H := bifF h2 H
      refine Tr.cond (b := false) (by kernel_rfl) (fun h => nomatch h) (fun _ => ?_)
      refine Tr.skip ?_
      show Tr _ _ _ _ _
      refine Tr.rs ?_
      refine LAt.runU tOk 3 (by kernel_rfl) ?_
      obtain ⟨r2, er2, H⟩ := bind_some H
      refine LAt.callU tOk [.rd, .rd] (f := 114) (av := #[.tmp 19, .tmp 20]) (ats := #[72, 3]) (d := (some 21)) (ty := 3) (g := none) (by kernel_rfl) (by kernel_rfl) (by kernel_rfl) [] (laws_szFentS n x0.F r1 r2 er2) (by kernel_rfl) (.inl rfl) ?_
      refine LAt.runU tOk 1 (by kernel_rfl) ?_
      refine LAt.doneU [1, 4, 2] [2] (by kernel_rfl) ?_
      refine Tr.seq ?_
      refine Tr.rs ?_
      refine LAt.runU tOk 2 (by kernel_rfl) ?_
      refine LAt.doneU [23, 1, 4, 2] [2] (by kernel_rfl) ?_
      refine Tr.to ⟨31, 0, [(23, .val false [.lit (.bool (decide (r2 < 0)))]), (1, .val false [.lit (.int .i64 r2)]), (4, .val false [.lit (.int .i64 0)]), (2, .adr (.box 2) [(0, 0)] 11 0)], [(2, (CV.frzRow (Bridge.row x0)))]⟩ (by kernel_rfl) ?_
      cases h3 : (decide (r2 < 0))
      · have H := bifF h3 H
        refine Tr.cond (b := false) (by kernel_rfl) (fun h => nomatch h) (fun _ => ?_)
        refine Tr.skip ?_
        show Tr _ _ _ _ _
        refine Tr.rs ?_
        refine LAt.runU tOk 3 (by kernel_rfl) ?_
        obtain ⟨r3, er3, H⟩ := bind_some H
        refine LAt.callU tOk [.rd, .rd] (f := 15) (av := #[.tmp 25, .tmp 26]) (ats := #[25, 3]) (d := (some 27)) (ty := 3) (g := none) (by kernel_rfl) (by kernel_rfl) (by kernel_rfl) [] (laws_szVtab n x0.V r2 r3 er3) (by kernel_rfl) (.inl rfl) ?_
        refine LAt.runU tOk 1 (by kernel_rfl) ?_
        refine LAt.doneU [1, 4] [] (by kernel_rfl) ?_
        refine Tr.seq ?_
        refine Tr.rs ?_
        refine LAt.runU tOk 2 (by kernel_rfl) ?_
        refine LAt.doneU [29, 1, 4] [] (by kernel_rfl) ?_
        refine Tr.to ⟨31, 0, [(29, .val false [.lit (.bool (decide (r3 < 0)))]), (1, .val false [.lit (.int .i64 r3)]), (4, .val false [.lit (.int .i64 0)])], []⟩ (by kernel_rfl) ?_
        cases h4 : (decide (r3 < 0))
        · have H := bifF h4 H
          refine Tr.cond (b := false) (by kernel_rfl) (fun h => nomatch h) (fun _ => ?_)
          refine Tr.skip ?_
          show Tr _ _ _ _ _
          refine Tr.rs ?_
          refine LAt.runU tOk 2 (by kernel_rfl) ?_
          refine LAt.doneU [4] [] (by kernel_rfl) ?_
          refine Tr.ret ?_
          have H := Option.some.inj H
          subst H
          exact Fin.of _ [(false, [.lit (.int .i64 r3)])] (by kernel_rfl) rfl rfl
        · have H := bifT h4 H
          refine Tr.cond (b := true) (by kernel_rfl) (fun _ => ?_) (fun h => nomatch h)
          refine Tr.rs ?_
          refine LAt.runU tOk 1 (by kernel_rfl) ?_
          refine LAt.doneU [4, 1] [] (by kernel_rfl) ?_
          refine Tr.ret ?_
          have H := Option.some.inj H
          subst H
          exact Fin.of _ [(false, [.lit (.int .i64 (-1))])] (by kernel_rfl) rfl rfl
      · have H := bifT h3 H
        refine Tr.cond (b := true) (by kernel_rfl) (fun _ => ?_) (fun h => nomatch h)
        refine Tr.rs ?_
        refine LAt.runU tOk 1 (by kernel_rfl) ?_
        refine LAt.doneU [4, 1, 2] [2] (by kernel_rfl) ?_
        refine Tr.ret ?_
        have H := Option.some.inj H
        subst H
        exact Fin.of _ [(false, [.lit (.int .i64 (-1))])] (by kernel_rfl) rfl rfl
    · have H := bifT h2 H
      refine Tr.cond (b := true) (by kernel_rfl) (fun _ => ?_) (fun h => nomatch h)
      refine Tr.rs ?_
      refine LAt.runU tOk 1 (by kernel_rfl) ?_
      refine LAt.doneU [4, 1, 2] [2] (by kernel_rfl) ?_
      refine Tr.ret ?_
      have H := Option.some.inj H
      subst H
      exact Fin.of _ [(false, [.lit (.int .i64 (-1))])] (by kernel_rfl) rfl rfl
  · have H := bifT h1 H
    refine Tr.cond (b := true) (by kernel_rfl) (fun _ => ?_) (fun h => nomatch h)
    refine Tr.rs ?_
    refine LAt.runU tOk 1 (by kernel_rfl) ?_
    refine LAt.doneU [4, 1, 2] [2] (by kernel_rfl) ?_
    refine Tr.ret ?_
    have H := Option.some.inj H
    subst H
    exact Fin.of _ [(false, [.lit (.int .i64 (-1))])] (by kernel_rfl) rfl rfl

def laws_toVecF (n : Nat) (x0 : Vec) : Option (Vec) :=
  (some x0)
/-- loop.example/g00326/laws.toVec -/
theorem laws_toVec (n : Nat) (x0 : Vec) (r : Vec) (H : laws_toVecF n x0 = some r) : LCall Try.prog 177 [.val true (CV.frzRow (Vec.row x0))] [.val true (Vec.row r)] [] := by
  refine LCall.of_body tOk Try.func177 rfl (c := (.seq (.region 0 (rg Try.f177 0) false) (.seq (.region 1 (rg Try.f177 1) false) (.seq (.region 2 (rg Try.f177 2) false) (.seq (.region 3 (rg Try.f177 3) false) (.seq (.region 4 (rg Try.f177 4) false) (.seq (.region 5 (rg Try.f177 5) false) (.seq (.region 6 (rg Try.f177 6) false) (.seq (.region 7 (rg Try.f177 7) false) .ret))))))))) (by kernel_rfl) (Nat.le_of_ble_eq_true (by kernel_rfl)) 0 (rs := [.cell 2 39]) rfl [] .nil [(true, (Vec.row r))] [] [] fun cx => ?_
  show Tr _ _ _ ⟨20, 0, [(0, .val true (Vec.row x0))], []⟩ _
  unfold laws_toVecF at H
  refine Tr.rs ?_
  refine LAt.runU tOk 2 (by kernel_rfl) ?_
  refine LAt.doneU [2, 1] [2, 1] (by kernel_rfl) ?_
  refine Tr.rs ?_
  refine LAt.runU tOk 1 (by kernel_rfl) ?_
  refine LAt.doneU [3, 2, 1] [3, 2, 1] (by kernel_rfl) ?_
  refine Tr.rs ?_
  refine LAt.runU tOk 4 (by kernel_rfl) ?_
  refine LAt.doneU [3, 2, 1] [3, 2, 1] (by kernel_rfl) ?_
  refine Tr.rs ?_
  refine LAt.runU tOk 4 (by kernel_rfl) ?_
  refine LAt.doneU [3, 2, 1] [3, 2, 1] (by kernel_rfl) ?_
  refine Tr.rs ?_
  refine LAt.runU tOk 4 (by kernel_rfl) ?_
  refine LAt.doneU [3, 2, 1] [3, 2, 1] (by kernel_rfl) ?_
  refine Tr.rs ?_
  refine LAt.runU tOk 4 (by kernel_rfl) ?_
  refine LAt.doneU [3, 2, 1] [3, 2, 1] (by kernel_rfl) ?_
  refine Tr.rs ?_
  refine LAt.runU tOk 4 (by kernel_rfl) ?_
  refine LAt.doneU [3, 2] [3, 2] (by kernel_rfl) ?_
  refine Tr.rs ?_
  refine LAt.runU tOk 2 (by kernel_rfl) ?_
  refine LAt.doneU [2] [2] (by kernel_rfl) ?_
  refine Tr.ret ?_
  have H := Option.some.inj H
  subst H
  exact Fin.of _ [(true, (Vec.row x0))] (by kernel_rfl) rfl rfl

def laws_toPtF (n : Nat) (x0 : Pt) : Option (Pt) :=
  ((laws_toVecF n x0.Heard).bind fun r1 => (some (⟨x0.Up, x0.Cost, x0.Has, r1⟩ : Pt)))
/-- loop.example/g00326/laws.toPt -/
theorem laws_toPt (n : Nat) (x0 : Pt) (r : Pt) (H : laws_toPtF n x0 = some r) : LCall Try.prog 152 [.val true (CV.frzRow (Pt.row x0))] [.val true (Pt.row r)] [] := by
  refine LCall.of_body tOk Try.func152 rfl (c := (.seq (.region 0 (rg Try.f152 0) false) (.seq (.region 1 (rg Try.f152 1) false) (.seq (.region 2 (rg Try.f152 2) false) (.seq (.region 3 (rg Try.f152 3) false) (.seq (.region 4 (rg Try.f152 4) false) (.seq (.region 5 (rg Try.f152 5) false) (.seq (.region 6 (rg Try.f152 6) false) .ret)))))))) (by kernel_rfl) (Nat.le_of_ble_eq_true (by kernel_rfl)) 0 (rs := [.cell 2 41]) rfl [] .nil [(true, (Pt.row r))] [] [] fun cx => ?_
  show Tr _ _ _ ⟨18, 0, [(0, .val true (Pt.row x0))], []⟩ _
  unfold laws_toPtF at H
  refine Tr.rs ?_
  refine LAt.runU tOk 2 (by kernel_rfl) ?_
  refine LAt.doneU [2, 1] [2, 1] (by kernel_rfl) ?_
  refine Tr.rs ?_
  refine LAt.runU tOk 1 (by kernel_rfl) ?_
  refine LAt.doneU [3, 2, 1] [3, 2, 1] (by kernel_rfl) ?_
  refine Tr.rs ?_
  refine LAt.runU tOk 4 (by kernel_rfl) ?_
  refine LAt.doneU [3, 2, 1] [3, 2, 1] (by kernel_rfl) ?_
  refine Tr.rs ?_
  refine LAt.runU tOk 4 (by kernel_rfl) ?_
  refine LAt.doneU [3, 2, 1] [3, 2, 1] (by kernel_rfl) ?_
  refine Tr.rs ?_
  refine LAt.runU tOk 4 (by kernel_rfl) ?_
  refine LAt.doneU [3, 2, 1] [3, 2, 1] (by kernel_rfl) ?_
  refine Tr.rs ?_
  refine LAt.runU tOk 2 (by kernel_rfl) ?_
  obtain ⟨r1, er1, H⟩ := bind_some H
  refine LAt.callU tOk [.rd] (f := 177) (av := #[.tmp 14]) (ats := #[182]) (d := (some 15)) (ty := 39) (g := none) (by kernel_rfl) (by kernel_rfl) (by kernel_rfl) [] (laws_toVec n x0.Heard r1 er1) (by kernel_rfl) (.inl rfl) ?_
  refine LAt.runU tOk 2 (by kernel_rfl) ?_
  refine LAt.doneU [3, 2] [3, 2] (by kernel_rfl) ?_
  refine Tr.rs ?_
  refine LAt.runU tOk 2 (by kernel_rfl) ?_
  refine LAt.doneU [2] [2] (by kernel_rfl) ?_
  refine Tr.ret ?_
  have H := Option.some.inj H
  subst H
  exact Fin.of _ [(true, [.lit (.bool x0.Up), .lit (.int .i64 x0.Cost), .lit (.bool x0.Has), .lit (.int .i64 r1.Root), .lit (.int .i64 r1.Cost), .lit (.int .i64 r1.Hops), .lit (.int .i64 r1.Bridge), .lit (.int .i64 r1.Port)])] (by kernel_rfl) rfl rfl

def laws_toPtS_J1 (n : Nat) (y4 : (List Pt)) : Option ((List Pt)) :=
  (some y4)
def laws_toPtS_L2 (n : Nat) : Nat → (List Pt) → Int → (List Pt) → Option (((List Pt)) ⊕ ((List Pt)))
  | 0, _, _, _ => none
  | mo5 + 1, x0, y2, y3 => (bif (decide (y2 < (x0.length : Int))) then ((idx x0 y2).bind fun v6 => ((laws_toPtF n v6).bind fun r7 => ((idx y3 y2).bind fun v8 => (laws_toPtS_L2 n mo5 x0 (IntKind.wrap .i64 (y2 + 1)) (y3.set (y2.toNat) r7))))) else (some (Sum.inl y3)))
def laws_toPtSF (n : Nat) (x0 : (List Pt)) : Option ((List Pt)) :=
  (bif (decide (0 ≤ (x0.length : Int)) && decide ((x0.length : Int) ≤ 268435456)) then ((laws_toPtS_L2 n n x0 0 (List.replicate ((x0.length : Int)).toNat (⟨false, 0, false, (⟨0, 0, 0, 0, 0⟩ : Vec)⟩ : Pt))).bind fun o => match o with | .inl y4 => (laws_toPtS_J1 n y4) | .inr r => some r) else none)
/-- loop.example/g00326/laws.toPtS -/
theorem laws_toPtS (n : Nat) (x0 : (List Pt)) (r : (List Pt)) (H : laws_toPtSF n x0 = some r) : LCall Try.prog 116 [.val false [.sl false 8 (CV.frzEs (x0.map Pt.row))]] [.val false [.sl true 8 (r.map Pt.row)]] [] := by
  refine LCall.of_body tOk Try.func116 rfl (c := (.seq (.region 0 (rg Try.f116 0) false) (.seq (.region 1 (rg Try.f116 1) false) (.seq (.seq (.region 2 (rg Try.f116 2) false) (.block 0 (.loop (.seq (.seq (.region 3 (rg Try.f116 3) false) (.cond (.tmp 11) .skip (.exit 0))) (.seq (.block 1 (.region 5 (rg Try.f116 5) false)) (.region 4 (rg Try.f116 4) false)))))) (.seq (.region 6 (rg Try.f116 6) false) .ret))))) (by kernel_rfl) (Nat.le_of_ble_eq_true (by kernel_rfl)) 0 (rs := [.tmp 2]) rfl [] .nil [(false, [.sl true 8 (r.map Pt.row)])] [] [] fun cx => ?_
  show Tr _ _ _ ⟨23, 0, [(0, .val false [.sl false 8 (CV.frzEs (x0.map Pt.row))])], []⟩ _
  unfold laws_toPtSF at H
  refine Tr.rs ?_
  refine LAt.runU tOk 1 (by kernel_rfl) ?_
  refine LAt.doneU [2, 0] [] (by kernel_rfl) ?_
  refine Tr.rs ?_
  refine LAt.runU tOk 1 (by kernel_rfl) ?_
  refine LAt.lenE tOk (t := 71) (ty := 3) (e := 184) (x := (.tmp 5)) (d := 6) (g := none) ⟨(.slot 5), [], 0, false, 8, (CV.frzEs (x0.map Pt.row))⟩ (x0).length _ (by kernel_rfl) (by kernel_rfl) (by kernel_rfl) (by kernel_rfl) (by kernel_rfl) (frz_len _ _) rfl ?_
  obtain ⟨hg1, H⟩ := guard_some H
  refine LAt.makeG tOk (t := 43) (ty := 43) (e := 41) (x := (.tmp 6)) (d := 7) (g := none) ⟨.st [(0, 1, 4), (1, 1, 3), (2, 1, 4), (3, 5, 39)], 8, 64, [.lit (.bool false), .lit (.int .i64 0), .lit (.bool false), .lit (.int .i64 0), .lit (.int .i64 0), .lit (.int .i64 0), .lit (.int .i64 0), .lit (.int .i64 0)]⟩ (x0.length : Int) ((List.replicate ((x0.length : Int)).toNat (⟨false, 0, false, (⟨0, 0, 0, 0, 0⟩ : Vec)⟩ : Pt)).map Pt.row) _ (by kernel_rfl) (by kernel_rfl) (by kernel_rfl) (by kernel_rfl) (by kernel_rfl) (by kernel_rfl) hg1 (by kernel_rfl) (rep_map _ rfl) rfl ?_
  refine LAt.moveU (T := lk tab) (ty := 43) (x := (.tmp 7)) (d := 3) (g := none) false [.sl true 8 ((List.replicate ((x0.length : Int)).toNat (⟨false, 0, false, (⟨0, 0, 0, 0, 0⟩ : Vec)⟩ : Pt)).map Pt.row)] (by kernel_rfl) (by kernel_rfl) (by kernel_rfl) (by kernel_rfl) (by kernel_rfl) ?_
  refine LAt.doneU [3, 2, 0] [] (by kernel_rfl) ?_
  refine Tr.seq ?_
  refine Tr.rs ?_
  refine LAt.runU tOk 1 (by kernel_rfl) ?_
  refine LAt.doneU [4, 3, 2, 0] [] (by kernel_rfl) ?_
  obtain ⟨o5, eo5, Ho5⟩ := bind_some H
  clear H
  refine Tr.mid (ι := (List Pt)) (fun v => ⟨23, 0, [(3, .val false [.sl true 8 (v.map Pt.row)]), (2, .val false [.sl true 8 (([] : List Pt).map Pt.row)])], []⟩) (fun v => laws_toPtS_J1 n v = some r) ?_ ?_
  · refine Tr.block ?_
    refine Tr.loop (ι := Nat × (Int × (List Pt))) (fun v => ⟨23, 0, [(4, .val false [.lit (.int .i64 v.2.1)]), (3, .val false [.sl true 8 (v.2.2.map Pt.row)]), (2, .val false [.sl true 8 (([] : List Pt).map Pt.row)]), (0, .val false [.sl false 8 (CV.frzEs (x0.map Pt.row))])], []⟩) (fun v => laws_toPtS_L2 n v.1 x0 v.2.1 v.2.2 = some o5) (fun v => v.1) (n, (0, (List.replicate ((x0.length : Int)).toNat (⟨false, 0, false, (⟨0, 0, 0, 0, 0⟩ : Vec)⟩ : Pt)))) eo5 (St.sub_of [4, 3, 2, 0] [] (by kernel_rfl)) ?_
    rintro ⟨mo5, y2, y3⟩ H
    have H : laws_toPtS_L2 n mo5 x0 y2 y3 = some o5 := H
    obtain _ | mo5 := mo5
    · cases (show (none : Option _) = some o5 from H)
    · rw [laws_toPtS_L2] at H
      refine Tr.seq ?_
      refine Tr.rs ?_
      refine LAt.runU tOk 2 (by kernel_rfl) ?_
      refine LAt.lenE tOk (t := 71) (ty := 3) (e := 184) (x := (.tmp 9)) (d := 10) (g := none) ⟨(.slot 9), [], 0, false, 8, (CV.frzEs (x0.map Pt.row))⟩ (x0).length _ (by kernel_rfl) (by kernel_rfl) (by kernel_rfl) (by kernel_rfl) (by kernel_rfl) (frz_len _ _) rfl ?_
      refine LAt.runU tOk 1 (by kernel_rfl) ?_
      refine LAt.doneU [11, 10, 9, 8, 4, 3, 2, 0] [] (by kernel_rfl) ?_
      refine Tr.to ⟨23, 0, [(11, .val false [.lit (.bool (decide (y2 < (x0.length : Int))))]), (10, .val false [.lit (.int .i64 (x0.length : Int))]), (9, .val false [.sl false 8 (CV.frzEs (x0.map Pt.row))]), (8, .val false [.lit (.int .i64 y2)]), (4, .val false [.lit (.int .i64 y2)]), (3, .val false [.sl true 8 (y3.map Pt.row)]), (2, .val false [.sl true 8 (([] : List Pt).map Pt.row)]), (0, .val false [.sl false 8 (CV.frzEs (x0.map Pt.row))])], []⟩ (by kernel_rfl) ?_
      cases h1 : (decide (y2 < (x0.length : Int)))
      · have H := bifF h1 H
        refine Tr.cond (b := false) (by kernel_rfl) (fun h => nomatch h) (fun _ => ?_)
        refine Tr.exit ?_
        refine And.intro (fun _ => ?_) (fun h => absurd rfl h)
        have H := Option.some.inj H
        subst H
        have H := Ho5
        dsimp only at H
        exact Exists.intro y3 (And.intro H (St.sub_of [3, 2] [] (by kernel_rfl)))
      · have H := bifT h1 H
        refine Tr.cond (b := true) (by kernel_rfl) (fun _ => ?_) (fun h => nomatch h)
        refine Tr.skip ?_
        show Tr _ _ _ _ _
        refine Tr.seq ?_
        refine Tr.block ?_
        refine Tr.at ?_
        refine LAt.runU tOk 4 (by kernel_rfl) ?_
        obtain ⟨v6, ev6, H⟩ := bind_some H
        refine LAt.indexF tOk (t := 71) (ty := 0) (x := (.tmp 16)) (y := (.tmp 17)) (d := 18) (g := none) ⟨(.slot 16), [], 0, false, 8, (CV.frzEs (x0.map Pt.row))⟩ y2 (Pt.row v6) _ (by kernel_rfl) (by kernel_rfl) (by kernel_rfl) (by kernel_rfl) rfl (idx_isF ev6) rfl ?_
        refine LAt.runU tOk 1 (by kernel_rfl) ?_
        obtain ⟨r7, er7, H⟩ := bind_some H
        refine LAt.callU tOk [.rd] (f := 152) (av := #[.tmp 19]) (ats := #[184]) (d := (some 20)) (ty := 41) (g := none) (by kernel_rfl) (by kernel_rfl) (by kernel_rfl) [] (laws_toPt n v6 r7 er7) (by kernel_rfl) (.inl rfl) ?_
        obtain ⟨v8, ev8, H⟩ := bind_some H
        refine LAt.indexO tOk (t := 43) (ty := 0) (x := (.tmp 14)) (y := (.tmp 15)) (d := 21) (g := none) ⟨(.slot 3), [], 0, true, 8, (y3.map Pt.row)⟩ y2 (y2.toNat) (Pt.row v8) _ (by kernel_rfl) (by kernel_rfl) (by kernel_rfl) (by kernel_rfl) rfl (by kernel_rfl) (idx_isE ev8) rfl rfl ?_
        refine LAt.storeU tOk (t := 41) (ty := 0) (ad := (.tmp 21)) (x := (.tmp 20)) (g := none) ⟨.st [(0, 1, 4), (1, 1, 3), (2, 1, 4), (3, 5, 39)], 8, 64, [.lit (.bool false), .lit (.int .i64 0), .lit (.bool false), .lit (.int .i64 0), .lit (.int .i64 0), .lit (.int .i64 0), .lit (.int .i64 0), .lit (.int .i64 0)]⟩ true (Pt.row r7) (.slot 3) [(0, (y2.toNat))] [(0, (y2.toNat))] 8 0 [.sl true 8 (y3.map Pt.row)] (Pt.row v8) [.sl true 8 (y3.map Pt.row)] [.sl true 8 ((y3.set (y2.toNat) r7).map Pt.row)] (by kernel_rfl) (by kernel_rfl) (by kernel_rfl) (by kernel_rfl) (by kernel_rfl) (by kernel_rfl) (getQ_elem rfl (idx_get ev8).2) rfl (by intro h; cases h) (by kernel_rfl) (by kernel_rfl) (by kernel_rfl) (modQ_elem (new := r7) rfl (idx_get ev8).2 rfl) (by kernel_rfl) ?_
        refine LAt.doneU [3, 21, 20, 19, 18, 17, 16, 15, 11, 10, 9, 8, 4, 2, 0] [] (by kernel_rfl) ?_
        show Tr _ _ _ _ _
        refine Tr.at ?_
        refine LAt.runU tOk 3 (by kernel_rfl) ?_
        refine LAt.doneU [4, 13, 12, 3, 21, 20, 19, 18, 17, 16, 15, 11, 10, 9, 8, 2, 0] [] (by kernel_rfl) ?_
        exact Exists.intro (mo5, ((IntKind.wrap .i64 (y2 + 1)), (y3.set (y2.toNat) r7))) (And.intro H (And.intro (Nat.lt_succ_self mo5) (St.sub_of [4, 3, 2, 0] [] (by kernel_rfl))))
  · rintro y4 H
    have H : (laws_toPtS_J1 n y4) = some r := H
    unfold laws_toPtS_J1 at H
    show Tr _ _ _ _ _
    refine Tr.rs ?_
    refine LAt.runU tOk 2 (by kernel_rfl) ?_
    refine LAt.doneU [2, 3] [] (by kernel_rfl) ?_
    refine Tr.ret ?_
    have H := Option.some.inj H
    subst H
    exact Fin.of _ [(false, [.sl true 8 (y4.map Pt.row)])] (by kernel_rfl) rfl rfl

def laws_toFentF (n : Nat) (x0 : Fent) : Option (Fent) :=
  (some x0)
/-- loop.example/g00326/laws.toFent -/
theorem laws_toFent (n : Nat) (x0 : Fent) (r : Fent) (H : laws_toFentF n x0 = some r) : LCall Try.prog 153 [.val true (CV.frzRow (Fent.row x0))] [.val true (Fent.row r)] [] := by
  refine LCall.of_body tOk Try.func153 rfl (c := (.seq (.region 0 (rg Try.f153 0) false) (.seq (.region 1 (rg Try.f153 1) false) (.seq (.region 2 (rg Try.f153 2) false) (.seq (.region 3 (rg Try.f153 3) false) (.seq (.region 4 (rg Try.f153 4) false) (.seq (.region 5 (rg Try.f153 5) false) (.seq (.region 6 (rg Try.f153 6) false) (.seq (.region 7 (rg Try.f153 7) false) .ret))))))))) (by kernel_rfl) (Nat.le_of_ble_eq_true (by kernel_rfl)) 0 (rs := [.cell 2 147]) rfl [] .nil [(true, (Fent.row r))] [] [] fun cx => ?_
  show Tr _ _ _ ⟨20, 0, [(0, .val true (Fent.row x0))], []⟩ _
  unfold laws_toFentF at H
  refine Tr.rs ?_
  refine LAt.runU tOk 2 (by kernel_rfl) ?_
  refine LAt.doneU [2, 1] [2, 1] (by kernel_rfl) ?_
  refine Tr.rs ?_
  refine LAt.runU tOk 1 (by kernel_rfl) ?_
  refine LAt.doneU [3, 2, 1] [3, 2, 1] (by kernel_rfl) ?_
  refine Tr.rs ?_
  refine LAt.runU tOk 4 (by kernel_rfl) ?_
  refine LAt.doneU [3, 2, 1] [3, 2, 1] (by kernel_rfl) ?_
  refine Tr.rs ?_
  refine LAt.runU tOk 4 (by kernel_rfl) ?_
  refine LAt.doneU [3, 2, 1] [3, 2, 1] (by kernel_rfl) ?_
  refine Tr.rs ?_
  refine LAt.runU tOk 4 (by kernel_rfl) ?_
  refine LAt.doneU [3, 2, 1] [3, 2, 1] (by kernel_rfl) ?_
  refine Tr.rs ?_
  refine LAt.runU tOk 4 (by kernel_rfl) ?_
  refine LAt.doneU [3, 2, 1] [3, 2, 1] (by kernel_rfl) ?_
  refine Tr.rs ?_
  refine LAt.runU tOk 4 (by kernel_rfl) ?_
  refine LAt.doneU [3, 2] [3, 2] (by kernel_rfl) ?_
  refine Tr.rs ?_
  refine LAt.runU tOk 2 (by kernel_rfl) ?_
  refine LAt.doneU [2] [2] (by kernel_rfl) ?_
  refine Tr.ret ?_
  have H := Option.some.inj H
  subst H
  exact Fin.of _ [(true, (Fent.row x0))] (by kernel_rfl) rfl rfl

def laws_toFentS_J1 (n : Nat) (y4 : (List Fent)) : Option ((List Fent)) :=
  (some y4)
def laws_toFentS_L2 (n : Nat) : Nat → (List Fent) → Int → (List Fent) → Option (((List Fent)) ⊕ ((List Fent)))
  | 0, _, _, _ => none
  | mo5 + 1, x0, y2, y3 => (bif (decide (y2 < (x0.length : Int))) then ((idx x0 y2).bind fun v6 => ((laws_toFentF n v6).bind fun r7 => ((idx y3 y2).bind fun v8 => (laws_toFentS_L2 n mo5 x0 (IntKind.wrap .i64 (y2 + 1)) (y3.set (y2.toNat) r7))))) else (some (Sum.inl y3)))
def laws_toFentSF (n : Nat) (x0 : (List Fent)) : Option ((List Fent)) :=
  (bif (decide (0 ≤ (x0.length : Int)) && decide ((x0.length : Int) ≤ 268435456)) then ((laws_toFentS_L2 n n x0 0 (List.replicate ((x0.length : Int)).toNat (⟨0, 0, 0, 0, false⟩ : Fent))).bind fun o => match o with | .inl y4 => (laws_toFentS_J1 n y4) | .inr r => some r) else none)
/-- loop.example/g00326/laws.toFentS -/
theorem laws_toFentS (n : Nat) (x0 : (List Fent)) (r : (List Fent)) (H : laws_toFentSF n x0 = some r) : LCall Try.prog 117 [.val false [.sl false 5 (CV.frzEs (x0.map Fent.row))]] [.val false [.sl true 5 (r.map Fent.row)]] [] := by
  refine LCall.of_body tOk Try.func117 rfl (c := (.seq (.region 0 (rg Try.f117 0) false) (.seq (.region 1 (rg Try.f117 1) false) (.seq (.seq (.region 2 (rg Try.f117 2) false) (.block 0 (.loop (.seq (.seq (.region 3 (rg Try.f117 3) false) (.cond (.tmp 11) .skip (.exit 0))) (.seq (.block 1 (.region 5 (rg Try.f117 5) false)) (.region 4 (rg Try.f117 4) false)))))) (.seq (.region 6 (rg Try.f117 6) false) .ret))))) (by kernel_rfl) (Nat.le_of_ble_eq_true (by kernel_rfl)) 0 (rs := [.tmp 2]) rfl [] .nil [(false, [.sl true 5 (r.map Fent.row)])] [] [] fun cx => ?_
  show Tr _ _ _ ⟨23, 0, [(0, .val false [.sl false 5 (CV.frzEs (x0.map Fent.row))])], []⟩ _
  unfold laws_toFentSF at H
  refine Tr.rs ?_
  refine LAt.runU tOk 1 (by kernel_rfl) ?_
  refine LAt.doneU [2, 0] [] (by kernel_rfl) ?_
  refine Tr.rs ?_
  refine LAt.runU tOk 1 (by kernel_rfl) ?_
  refine LAt.lenE tOk (t := 72) (ty := 3) (e := 186) (x := (.tmp 5)) (d := 6) (g := none) ⟨(.slot 5), [], 0, false, 5, (CV.frzEs (x0.map Fent.row))⟩ (x0).length _ (by kernel_rfl) (by kernel_rfl) (by kernel_rfl) (by kernel_rfl) (by kernel_rfl) (frz_len _ _) rfl ?_
  obtain ⟨hg1, H⟩ := guard_some H
  refine LAt.makeG tOk (t := 77) (ty := 77) (e := 147) (x := (.tmp 6)) (d := 7) (g := none) ⟨.st [(0, 1, 3), (1, 1, 3), (2, 1, 3), (3, 1, 3), (4, 1, 4)], 5, 40, [.lit (.int .i64 0), .lit (.int .i64 0), .lit (.int .i64 0), .lit (.int .i64 0), .lit (.bool false)]⟩ (x0.length : Int) ((List.replicate ((x0.length : Int)).toNat (⟨0, 0, 0, 0, false⟩ : Fent)).map Fent.row) _ (by kernel_rfl) (by kernel_rfl) (by kernel_rfl) (by kernel_rfl) (by kernel_rfl) (by kernel_rfl) hg1 (by kernel_rfl) (rep_map _ rfl) rfl ?_
  refine LAt.moveU (T := lk tab) (ty := 77) (x := (.tmp 7)) (d := 3) (g := none) false [.sl true 5 ((List.replicate ((x0.length : Int)).toNat (⟨0, 0, 0, 0, false⟩ : Fent)).map Fent.row)] (by kernel_rfl) (by kernel_rfl) (by kernel_rfl) (by kernel_rfl) (by kernel_rfl) ?_
  refine LAt.doneU [3, 2, 0] [] (by kernel_rfl) ?_
  refine Tr.seq ?_
  refine Tr.rs ?_
  refine LAt.runU tOk 1 (by kernel_rfl) ?_
  refine LAt.doneU [4, 3, 2, 0] [] (by kernel_rfl) ?_
  obtain ⟨o5, eo5, Ho5⟩ := bind_some H
  clear H
  refine Tr.mid (ι := (List Fent)) (fun v => ⟨23, 0, [(3, .val false [.sl true 5 (v.map Fent.row)]), (2, .val false [.sl true 5 (([] : List Fent).map Fent.row)])], []⟩) (fun v => laws_toFentS_J1 n v = some r) ?_ ?_
  · refine Tr.block ?_
    refine Tr.loop (ι := Nat × (Int × (List Fent))) (fun v => ⟨23, 0, [(4, .val false [.lit (.int .i64 v.2.1)]), (3, .val false [.sl true 5 (v.2.2.map Fent.row)]), (2, .val false [.sl true 5 (([] : List Fent).map Fent.row)]), (0, .val false [.sl false 5 (CV.frzEs (x0.map Fent.row))])], []⟩) (fun v => laws_toFentS_L2 n v.1 x0 v.2.1 v.2.2 = some o5) (fun v => v.1) (n, (0, (List.replicate ((x0.length : Int)).toNat (⟨0, 0, 0, 0, false⟩ : Fent)))) eo5 (St.sub_of [4, 3, 2, 0] [] (by kernel_rfl)) ?_
    rintro ⟨mo5, y2, y3⟩ H
    have H : laws_toFentS_L2 n mo5 x0 y2 y3 = some o5 := H
    obtain _ | mo5 := mo5
    · cases (show (none : Option _) = some o5 from H)
    · rw [laws_toFentS_L2] at H
      refine Tr.seq ?_
      refine Tr.rs ?_
      refine LAt.runU tOk 2 (by kernel_rfl) ?_
      refine LAt.lenE tOk (t := 72) (ty := 3) (e := 186) (x := (.tmp 9)) (d := 10) (g := none) ⟨(.slot 9), [], 0, false, 5, (CV.frzEs (x0.map Fent.row))⟩ (x0).length _ (by kernel_rfl) (by kernel_rfl) (by kernel_rfl) (by kernel_rfl) (by kernel_rfl) (frz_len _ _) rfl ?_
      refine LAt.runU tOk 1 (by kernel_rfl) ?_
      refine LAt.doneU [11, 10, 9, 8, 4, 3, 2, 0] [] (by kernel_rfl) ?_
      refine Tr.to ⟨23, 0, [(11, .val false [.lit (.bool (decide (y2 < (x0.length : Int))))]), (10, .val false [.lit (.int .i64 (x0.length : Int))]), (9, .val false [.sl false 5 (CV.frzEs (x0.map Fent.row))]), (8, .val false [.lit (.int .i64 y2)]), (4, .val false [.lit (.int .i64 y2)]), (3, .val false [.sl true 5 (y3.map Fent.row)]), (2, .val false [.sl true 5 (([] : List Fent).map Fent.row)]), (0, .val false [.sl false 5 (CV.frzEs (x0.map Fent.row))])], []⟩ (by kernel_rfl) ?_
      cases h1 : (decide (y2 < (x0.length : Int)))
      · have H := bifF h1 H
        refine Tr.cond (b := false) (by kernel_rfl) (fun h => nomatch h) (fun _ => ?_)
        refine Tr.exit ?_
        refine And.intro (fun _ => ?_) (fun h => absurd rfl h)
        have H := Option.some.inj H
        subst H
        have H := Ho5
        dsimp only at H
        exact Exists.intro y3 (And.intro H (St.sub_of [3, 2] [] (by kernel_rfl)))
      · have H := bifT h1 H
        refine Tr.cond (b := true) (by kernel_rfl) (fun _ => ?_) (fun h => nomatch h)
        refine Tr.skip ?_
        show Tr _ _ _ _ _
        refine Tr.seq ?_
        refine Tr.block ?_
        refine Tr.at ?_
        refine LAt.runU tOk 4 (by kernel_rfl) ?_
        obtain ⟨v6, ev6, H⟩ := bind_some H
        refine LAt.indexF tOk (t := 72) (ty := 0) (x := (.tmp 16)) (y := (.tmp 17)) (d := 18) (g := none) ⟨(.slot 16), [], 0, false, 5, (CV.frzEs (x0.map Fent.row))⟩ y2 (Fent.row v6) _ (by kernel_rfl) (by kernel_rfl) (by kernel_rfl) (by kernel_rfl) rfl (idx_isF ev6) rfl ?_
        refine LAt.runU tOk 1 (by kernel_rfl) ?_
        obtain ⟨r7, er7, H⟩ := bind_some H
        refine LAt.callU tOk [.rd] (f := 153) (av := #[.tmp 19]) (ats := #[186]) (d := (some 20)) (ty := 147) (g := none) (by kernel_rfl) (by kernel_rfl) (by kernel_rfl) [] (laws_toFent n v6 r7 er7) (by kernel_rfl) (.inl rfl) ?_
        obtain ⟨v8, ev8, H⟩ := bind_some H
        refine LAt.indexO tOk (t := 77) (ty := 0) (x := (.tmp 14)) (y := (.tmp 15)) (d := 21) (g := none) ⟨(.slot 3), [], 0, true, 5, (y3.map Fent.row)⟩ y2 (y2.toNat) (Fent.row v8) _ (by kernel_rfl) (by kernel_rfl) (by kernel_rfl) (by kernel_rfl) rfl (by kernel_rfl) (idx_isE ev8) rfl rfl ?_
        refine LAt.storeU tOk (t := 147) (ty := 0) (ad := (.tmp 21)) (x := (.tmp 20)) (g := none) ⟨.st [(0, 1, 3), (1, 1, 3), (2, 1, 3), (3, 1, 3), (4, 1, 4)], 5, 40, [.lit (.int .i64 0), .lit (.int .i64 0), .lit (.int .i64 0), .lit (.int .i64 0), .lit (.bool false)]⟩ true (Fent.row r7) (.slot 3) [(0, (y2.toNat))] [(0, (y2.toNat))] 5 0 [.sl true 5 (y3.map Fent.row)] (Fent.row v8) [.sl true 5 (y3.map Fent.row)] [.sl true 5 ((y3.set (y2.toNat) r7).map Fent.row)] (by kernel_rfl) (by kernel_rfl) (by kernel_rfl) (by kernel_rfl) (by kernel_rfl) (by kernel_rfl) (getQ_elem rfl (idx_get ev8).2) rfl (by intro h; cases h) (by kernel_rfl) (by kernel_rfl) (by kernel_rfl) (modQ_elem (new := r7) rfl (idx_get ev8).2 rfl) (by kernel_rfl) ?_
        refine LAt.doneU [3, 21, 20, 19, 18, 17, 16, 15, 11, 10, 9, 8, 4, 2, 0] [] (by kernel_rfl) ?_
        show Tr _ _ _ _ _
        refine Tr.at ?_
        refine LAt.runU tOk 3 (by kernel_rfl) ?_
        refine LAt.doneU [4, 13, 12, 3, 21, 20, 19, 18, 17, 16, 15, 11, 10, 9, 8, 2, 0] [] (by kernel_rfl) ?_
        exact Exists.intro (mo5, ((IntKind.wrap .i64 (y2 + 1)), (y3.set (y2.toNat) r7))) (And.intro H (And.intro (Nat.lt_succ_self mo5) (St.sub_of [4, 3, 2, 0] [] (by kernel_rfl))))
  · rintro y4 H
    have H : (laws_toFentS_J1 n y4) = some r := H
    unfold laws_toFentS_J1 at H
    show Tr _ _ _ _ _
    refine Tr.rs ?_
    refine LAt.runU tOk 2 (by kernel_rfl) ?_
    refine LAt.doneU [2, 3] [] (by kernel_rfl) ?_
    refine Tr.ret ?_
    have H := Option.some.inj H
    subst H
    exact Fin.of _ [(false, [.sl true 5 (y4.map Fent.row)])] (by kernel_rfl) rfl rfl

def laws_toVrowF (n : Nat) (x0 : Vrow) : Option (Vrow) :=
  (some x0)
/-- loop.example/g00326/laws.toVrow -/
theorem laws_toVrow (n : Nat) (x0 : Vrow) (r : Vrow) (H : laws_toVrowF n x0 = some r) : LCall Try.prog 43 [.val true (CV.frzRow (Vrow.row x0))] [.val true (Vrow.row r)] [] := by
  refine LCall.of_body tOk Try.func43 rfl (c := (.seq (.region 0 (rg Try.f43 0) false) (.seq (.region 1 (rg Try.f43 1) false) (.seq (.region 2 (rg Try.f43 2) false) (.seq (.region 3 (rg Try.f43 3) false) (.seq (.region 4 (rg Try.f43 4) false) (.seq (.region 5 (rg Try.f43 5) false) .ret))))))) (by kernel_rfl) (Nat.le_of_ble_eq_true (by kernel_rfl)) 0 (rs := [.cell 2 56]) rfl [] .nil [(true, (Vrow.row r))] [] [] fun cx => ?_
  show Tr _ _ _ ⟨14, 0, [(0, .val true (Vrow.row x0))], []⟩ _
  unfold laws_toVrowF at H
  refine Tr.rs ?_
  refine LAt.runU tOk 2 (by kernel_rfl) ?_
  refine LAt.doneU [2, 1] [2, 1] (by kernel_rfl) ?_
  refine Tr.rs ?_
  refine LAt.runU tOk 1 (by kernel_rfl) ?_
  refine LAt.doneU [3, 2, 1] [3, 2, 1] (by kernel_rfl) ?_
  refine Tr.rs ?_
  refine LAt.runU tOk 4 (by kernel_rfl) ?_
  refine LAt.doneU [3, 2, 1] [3, 2, 1] (by kernel_rfl) ?_
  refine Tr.rs ?_
  refine LAt.runU tOk 4 (by kernel_rfl) ?_
  refine LAt.doneU [3, 2, 1] [3, 2, 1] (by kernel_rfl) ?_
  refine Tr.rs ?_
  refine LAt.runU tOk 4 (by kernel_rfl) ?_
  refine LAt.doneU [3, 2] [3, 2] (by kernel_rfl) ?_
  refine Tr.rs ?_
  refine LAt.runU tOk 2 (by kernel_rfl) ?_
  refine LAt.doneU [2] [2] (by kernel_rfl) ?_
  refine Tr.ret ?_
  have H := Option.some.inj H
  subst H
  exact Fin.of _ [(true, (Vrow.row x0))] (by kernel_rfl) rfl rfl

def laws_toVrowS_J1 (n : Nat) (y4 : (List Vrow)) : Option ((List Vrow)) :=
  (some y4)
def laws_toVrowS_L2 (n : Nat) : Nat → (List Vrow) → Int → (List Vrow) → Option (((List Vrow)) ⊕ ((List Vrow)))
  | 0, _, _, _ => none
  | mo5 + 1, x0, y2, y3 => (bif (decide (y2 < (x0.length : Int))) then ((idx x0 y2).bind fun v6 => ((laws_toVrowF n v6).bind fun r7 => ((idx y3 y2).bind fun v8 => (laws_toVrowS_L2 n mo5 x0 (IntKind.wrap .i64 (y2 + 1)) (y3.set (y2.toNat) r7))))) else (some (Sum.inl y3)))
def laws_toVrowSF (n : Nat) (x0 : (List Vrow)) : Option ((List Vrow)) :=
  (bif (decide (0 ≤ (x0.length : Int)) && decide ((x0.length : Int) ≤ 268435456)) then ((laws_toVrowS_L2 n n x0 0 (List.replicate ((x0.length : Int)).toNat (⟨0, 0, 0⟩ : Vrow))).bind fun o => match o with | .inl y4 => (laws_toVrowS_J1 n y4) | .inr r => some r) else none)
/-- loop.example/g00326/laws.toVrowS -/
theorem laws_toVrowS (n : Nat) (x0 : (List Vrow)) (r : (List Vrow)) (H : laws_toVrowSF n x0 = some r) : LCall Try.prog 79 [.val false [.sl false 3 (CV.frzEs (x0.map Vrow.row))]] [.val false [.sl true 3 (r.map Vrow.row)]] [] := by
  refine LCall.of_body tOk Try.func79 rfl (c := (.seq (.region 0 (rg Try.f79 0) false) (.seq (.region 1 (rg Try.f79 1) false) (.seq (.seq (.region 2 (rg Try.f79 2) false) (.block 0 (.loop (.seq (.seq (.region 3 (rg Try.f79 3) false) (.cond (.tmp 11) .skip (.exit 0))) (.seq (.block 1 (.region 5 (rg Try.f79 5) false)) (.region 4 (rg Try.f79 4) false)))))) (.seq (.region 6 (rg Try.f79 6) false) .ret))))) (by kernel_rfl) (Nat.le_of_ble_eq_true (by kernel_rfl)) 0 (rs := [.tmp 2]) rfl [] .nil [(false, [.sl true 3 (r.map Vrow.row)])] [] [] fun cx => ?_
  show Tr _ _ _ ⟨23, 0, [(0, .val false [.sl false 3 (CV.frzEs (x0.map Vrow.row))])], []⟩ _
  unfold laws_toVrowSF at H
  refine Tr.rs ?_
  refine LAt.runU tOk 1 (by kernel_rfl) ?_
  refine LAt.doneU [2, 0] [] (by kernel_rfl) ?_
  refine Tr.rs ?_
  refine LAt.runU tOk 1 (by kernel_rfl) ?_
  refine LAt.lenE tOk (t := 22) (ty := 3) (e := 62) (x := (.tmp 5)) (d := 6) (g := none) ⟨(.slot 5), [], 0, false, 3, (CV.frzEs (x0.map Vrow.row))⟩ (x0).length _ (by kernel_rfl) (by kernel_rfl) (by kernel_rfl) (by kernel_rfl) (by kernel_rfl) (frz_len _ _) rfl ?_
  obtain ⟨hg1, H⟩ := guard_some H
  refine LAt.makeG tOk (t := 27) (ty := 27) (e := 56) (x := (.tmp 6)) (d := 7) (g := none) ⟨.st [(0, 1, 3), (1, 1, 3), (2, 1, 3)], 3, 24, [.lit (.int .i64 0), .lit (.int .i64 0), .lit (.int .i64 0)]⟩ (x0.length : Int) ((List.replicate ((x0.length : Int)).toNat (⟨0, 0, 0⟩ : Vrow)).map Vrow.row) _ (by kernel_rfl) (by kernel_rfl) (by kernel_rfl) (by kernel_rfl) (by kernel_rfl) (by kernel_rfl) hg1 (by kernel_rfl) (rep_map _ rfl) rfl ?_
  refine LAt.moveU (T := lk tab) (ty := 27) (x := (.tmp 7)) (d := 3) (g := none) false [.sl true 3 ((List.replicate ((x0.length : Int)).toNat (⟨0, 0, 0⟩ : Vrow)).map Vrow.row)] (by kernel_rfl) (by kernel_rfl) (by kernel_rfl) (by kernel_rfl) (by kernel_rfl) ?_
  refine LAt.doneU [3, 2, 0] [] (by kernel_rfl) ?_
  refine Tr.seq ?_
  refine Tr.rs ?_
  refine LAt.runU tOk 1 (by kernel_rfl) ?_
  refine LAt.doneU [4, 3, 2, 0] [] (by kernel_rfl) ?_
  obtain ⟨o5, eo5, Ho5⟩ := bind_some H
  clear H
  refine Tr.mid (ι := (List Vrow)) (fun v => ⟨23, 0, [(3, .val false [.sl true 3 (v.map Vrow.row)]), (2, .val false [.sl true 3 (([] : List Vrow).map Vrow.row)])], []⟩) (fun v => laws_toVrowS_J1 n v = some r) ?_ ?_
  · refine Tr.block ?_
    refine Tr.loop (ι := Nat × (Int × (List Vrow))) (fun v => ⟨23, 0, [(4, .val false [.lit (.int .i64 v.2.1)]), (3, .val false [.sl true 3 (v.2.2.map Vrow.row)]), (2, .val false [.sl true 3 (([] : List Vrow).map Vrow.row)]), (0, .val false [.sl false 3 (CV.frzEs (x0.map Vrow.row))])], []⟩) (fun v => laws_toVrowS_L2 n v.1 x0 v.2.1 v.2.2 = some o5) (fun v => v.1) (n, (0, (List.replicate ((x0.length : Int)).toNat (⟨0, 0, 0⟩ : Vrow)))) eo5 (St.sub_of [4, 3, 2, 0] [] (by kernel_rfl)) ?_
    rintro ⟨mo5, y2, y3⟩ H
    have H : laws_toVrowS_L2 n mo5 x0 y2 y3 = some o5 := H
    obtain _ | mo5 := mo5
    · cases (show (none : Option _) = some o5 from H)
    · rw [laws_toVrowS_L2] at H
      refine Tr.seq ?_
      refine Tr.rs ?_
      refine LAt.runU tOk 2 (by kernel_rfl) ?_
      refine LAt.lenE tOk (t := 22) (ty := 3) (e := 62) (x := (.tmp 9)) (d := 10) (g := none) ⟨(.slot 9), [], 0, false, 3, (CV.frzEs (x0.map Vrow.row))⟩ (x0).length _ (by kernel_rfl) (by kernel_rfl) (by kernel_rfl) (by kernel_rfl) (by kernel_rfl) (frz_len _ _) rfl ?_
      refine LAt.runU tOk 1 (by kernel_rfl) ?_
      refine LAt.doneU [11, 10, 9, 8, 4, 3, 2, 0] [] (by kernel_rfl) ?_
      refine Tr.to ⟨23, 0, [(11, .val false [.lit (.bool (decide (y2 < (x0.length : Int))))]), (10, .val false [.lit (.int .i64 (x0.length : Int))]), (9, .val false [.sl false 3 (CV.frzEs (x0.map Vrow.row))]), (8, .val false [.lit (.int .i64 y2)]), (4, .val false [.lit (.int .i64 y2)]), (3, .val false [.sl true 3 (y3.map Vrow.row)]), (2, .val false [.sl true 3 (([] : List Vrow).map Vrow.row)]), (0, .val false [.sl false 3 (CV.frzEs (x0.map Vrow.row))])], []⟩ (by kernel_rfl) ?_
      cases h1 : (decide (y2 < (x0.length : Int)))
      · have H := bifF h1 H
        refine Tr.cond (b := false) (by kernel_rfl) (fun h => nomatch h) (fun _ => ?_)
        refine Tr.exit ?_
        refine And.intro (fun _ => ?_) (fun h => absurd rfl h)
        have H := Option.some.inj H
        subst H
        have H := Ho5
        dsimp only at H
        exact Exists.intro y3 (And.intro H (St.sub_of [3, 2] [] (by kernel_rfl)))
      · have H := bifT h1 H
        refine Tr.cond (b := true) (by kernel_rfl) (fun _ => ?_) (fun h => nomatch h)
        refine Tr.skip ?_
        show Tr _ _ _ _ _
        refine Tr.seq ?_
        refine Tr.block ?_
        refine Tr.at ?_
        refine LAt.runU tOk 4 (by kernel_rfl) ?_
        obtain ⟨v6, ev6, H⟩ := bind_some H
        refine LAt.indexF tOk (t := 22) (ty := 0) (x := (.tmp 16)) (y := (.tmp 17)) (d := 18) (g := none) ⟨(.slot 16), [], 0, false, 3, (CV.frzEs (x0.map Vrow.row))⟩ y2 (Vrow.row v6) _ (by kernel_rfl) (by kernel_rfl) (by kernel_rfl) (by kernel_rfl) rfl (idx_isF ev6) rfl ?_
        refine LAt.runU tOk 1 (by kernel_rfl) ?_
        obtain ⟨r7, er7, H⟩ := bind_some H
        refine LAt.callU tOk [.rd] (f := 43) (av := #[.tmp 19]) (ats := #[62]) (d := (some 20)) (ty := 56) (g := none) (by kernel_rfl) (by kernel_rfl) (by kernel_rfl) [] (laws_toVrow n v6 r7 er7) (by kernel_rfl) (.inl rfl) ?_
        obtain ⟨v8, ev8, H⟩ := bind_some H
        refine LAt.indexO tOk (t := 27) (ty := 0) (x := (.tmp 14)) (y := (.tmp 15)) (d := 21) (g := none) ⟨(.slot 3), [], 0, true, 3, (y3.map Vrow.row)⟩ y2 (y2.toNat) (Vrow.row v8) _ (by kernel_rfl) (by kernel_rfl) (by kernel_rfl) (by kernel_rfl) rfl (by kernel_rfl) (idx_isE ev8) rfl rfl ?_
        refine LAt.storeU tOk (t := 56) (ty := 0) (ad := (.tmp 21)) (x := (.tmp 20)) (g := none) ⟨.st [(0, 1, 3), (1, 1, 3), (2, 1, 3)], 3, 24, [.lit (.int .i64 0), .lit (.int .i64 0), .lit (.int .i64 0)]⟩ true (Vrow.row r7) (.slot 3) [(0, (y2.toNat))] [(0, (y2.toNat))] 3 0 [.sl true 3 (y3.map Vrow.row)] (Vrow.row v8) [.sl true 3 (y3.map Vrow.row)] [.sl true 3 ((y3.set (y2.toNat) r7).map Vrow.row)] (by kernel_rfl) (by kernel_rfl) (by kernel_rfl) (by kernel_rfl) (by kernel_rfl) (by kernel_rfl) (getQ_elem rfl (idx_get ev8).2) rfl (by intro h; cases h) (by kernel_rfl) (by kernel_rfl) (by kernel_rfl) (modQ_elem (new := r7) rfl (idx_get ev8).2 rfl) (by kernel_rfl) ?_
        refine LAt.doneU [3, 21, 20, 19, 18, 17, 16, 15, 11, 10, 9, 8, 4, 2, 0] [] (by kernel_rfl) ?_
        show Tr _ _ _ _ _
        refine Tr.at ?_
        refine LAt.runU tOk 3 (by kernel_rfl) ?_
        refine LAt.doneU [4, 13, 12, 3, 21, 20, 19, 18, 17, 16, 15, 11, 10, 9, 8, 2, 0] [] (by kernel_rfl) ?_
        exact Exists.intro (mo5, ((IntKind.wrap .i64 (y2 + 1)), (y3.set (y2.toNat) r7))) (And.intro H (And.intro (Nat.lt_succ_self mo5) (St.sub_of [4, 3, 2, 0] [] (by kernel_rfl))))
  · rintro y4 H
    have H : (laws_toVrowS_J1 n y4) = some r := H
    unfold laws_toVrowS_J1 at H
    show Tr _ _ _ _ _
    refine Tr.rs ?_
    refine LAt.runU tOk 2 (by kernel_rfl) ?_
    refine LAt.doneU [2, 3] [] (by kernel_rfl) ?_
    refine Tr.ret ?_
    have H := Option.some.inj H
    subst H
    exact Fin.of _ [(false, [.sl true 3 (y4.map Vrow.row)])] (by kernel_rfl) rfl rfl

def laws_toIntS_J1 (n : Nat) (y4 : (List Int)) : Option ((List Int)) :=
  (some y4)
def laws_toIntS_L2 (n : Nat) : Nat → (List Int) → Int → (List Int) → Option (((List Int)) ⊕ ((List Int)))
  | 0, _, _, _ => none
  | mo5 + 1, x0, y2, y3 => (bif (decide (y2 < (x0.length : Int))) then ((idx x0 y2).bind fun v6 => ((idx y3 y2).bind fun v7 => (laws_toIntS_L2 n mo5 x0 (IntKind.wrap .i64 (y2 + 1)) (y3.set (y2.toNat) v6)))) else (some (Sum.inl y3)))
def laws_toIntSF (n : Nat) (x0 : (List Int)) : Option ((List Int)) :=
  (bif (decide (0 ≤ (x0.length : Int)) && decide ((x0.length : Int) ≤ 268435456)) then ((laws_toIntS_L2 n n x0 0 (List.replicate ((x0.length : Int)).toNat 0)).bind fun o => match o with | .inl y4 => (laws_toIntS_J1 n y4) | .inr r => some r) else none)
/-- loop.example/g00326/laws.toIntS -/
theorem laws_toIntS (n : Nat) (x0 : (List Int)) (r : (List Int)) (H : laws_toIntSF n x0 = some r) : LCall Try.prog 80 [.val false [.sl false 1 (CV.frzEs (x0.map intRow))]] [.val false [.sl true 1 (r.map intRow)]] [] := by
  refine LCall.of_body tOk Try.func80 rfl (c := (.seq (.region 0 (rg Try.f80 0) false) (.seq (.region 1 (rg Try.f80 1) false) (.seq (.seq (.region 2 (rg Try.f80 2) false) (.block 0 (.loop (.seq (.seq (.region 3 (rg Try.f80 3) false) (.cond (.tmp 11) .skip (.exit 0))) (.seq (.block 1 (.region 5 (rg Try.f80 5) false)) (.region 4 (rg Try.f80 4) false)))))) (.seq (.region 6 (rg Try.f80 6) false) .ret))))) (by kernel_rfl) (Nat.le_of_ble_eq_true (by kernel_rfl)) 0 (rs := [.tmp 2]) rfl [] .nil [(false, [.sl true 1 (r.map intRow)])] [] [] fun cx => ?_
  show Tr _ _ _ ⟨22, 0, [(0, .val false [.sl false 1 (CV.frzEs (x0.map intRow))])], []⟩ _
  unfold laws_toIntSF at H
  refine Tr.rs ?_
  refine LAt.runU tOk 1 (by kernel_rfl) ?_
  refine LAt.doneU [2, 0] [] (by kernel_rfl) ?_
  refine Tr.rs ?_
  refine LAt.runU tOk 1 (by kernel_rfl) ?_
  refine LAt.lenE tOk (t := 23) (ty := 3) (e := 3) (x := (.tmp 5)) (d := 6) (g := none) ⟨(.slot 5), [], 0, false, 1, (CV.frzEs (x0.map intRow))⟩ (x0).length _ (by kernel_rfl) (by kernel_rfl) (by kernel_rfl) (by kernel_rfl) (by kernel_rfl) (frz_len _ _) rfl ?_
  obtain ⟨hg1, H⟩ := guard_some H
  refine LAt.makeG tOk (t := 23) (ty := 23) (e := 3) (x := (.tmp 6)) (d := 7) (g := none) ⟨.int .i64, 1, 8, [.lit (.int .i64 0)]⟩ (x0.length : Int) ((List.replicate ((x0.length : Int)).toNat 0).map intRow) _ (by kernel_rfl) (by kernel_rfl) (by kernel_rfl) (by kernel_rfl) (by kernel_rfl) (by kernel_rfl) hg1 (by kernel_rfl) (rep_map _ rfl) rfl ?_
  refine LAt.moveU (T := lk tab) (ty := 23) (x := (.tmp 7)) (d := 3) (g := none) false [.sl true 1 ((List.replicate ((x0.length : Int)).toNat 0).map intRow)] (by kernel_rfl) (by kernel_rfl) (by kernel_rfl) (by kernel_rfl) (by kernel_rfl) ?_
  refine LAt.doneU [3, 2, 0] [] (by kernel_rfl) ?_
  refine Tr.seq ?_
  refine Tr.rs ?_
  refine LAt.runU tOk 1 (by kernel_rfl) ?_
  refine LAt.doneU [4, 3, 2, 0] [] (by kernel_rfl) ?_
  obtain ⟨o5, eo5, Ho5⟩ := bind_some H
  clear H
  refine Tr.mid (ι := (List Int)) (fun v => ⟨22, 0, [(3, .val false [.sl true 1 (v.map intRow)]), (2, .val false [.sl true 1 (([] : List Int).map intRow)])], []⟩) (fun v => laws_toIntS_J1 n v = some r) ?_ ?_
  · refine Tr.block ?_
    refine Tr.loop (ι := Nat × (Int × (List Int))) (fun v => ⟨22, 0, [(4, .val false [.lit (.int .i64 v.2.1)]), (3, .val false [.sl true 1 (v.2.2.map intRow)]), (2, .val false [.sl true 1 (([] : List Int).map intRow)]), (0, .val false [.sl false 1 (CV.frzEs (x0.map intRow))])], []⟩) (fun v => laws_toIntS_L2 n v.1 x0 v.2.1 v.2.2 = some o5) (fun v => v.1) (n, (0, (List.replicate ((x0.length : Int)).toNat 0))) eo5 (St.sub_of [4, 3, 2, 0] [] (by kernel_rfl)) ?_
    rintro ⟨mo5, y2, y3⟩ H
    have H : laws_toIntS_L2 n mo5 x0 y2 y3 = some o5 := H
    obtain _ | mo5 := mo5
    · cases (show (none : Option _) = some o5 from H)
    · rw [laws_toIntS_L2] at H
      refine Tr.seq ?_
      refine Tr.rs ?_
      refine LAt.runU tOk 2 (by kernel_rfl) ?_
      refine LAt.lenE tOk (t := 23) (ty := 3) (e := 3) (x := (.tmp 9)) (d := 10) (g := none) ⟨(.slot 9), [], 0, false, 1, (CV.frzEs (x0.map intRow))⟩ (x0).length _ (by kernel_rfl) (by kernel_rfl) (by kernel_rfl) (by kernel_rfl) (by kernel_rfl) (frz_len _ _) rfl ?_
      refine LAt.runU tOk 1 (by kernel_rfl) ?_
      refine LAt.doneU [11, 10, 9, 8, 4, 3, 2, 0] [] (by kernel_rfl) ?_
      refine Tr.to ⟨22, 0, [(11, .val false [.lit (.bool (decide (y2 < (x0.length : Int))))]), (10, .val false [.lit (.int .i64 (x0.length : Int))]), (9, .val false [.sl false 1 (CV.frzEs (x0.map intRow))]), (8, .val false [.lit (.int .i64 y2)]), (4, .val false [.lit (.int .i64 y2)]), (3, .val false [.sl true 1 (y3.map intRow)]), (2, .val false [.sl true 1 (([] : List Int).map intRow)]), (0, .val false [.sl false 1 (CV.frzEs (x0.map intRow))])], []⟩ (by kernel_rfl) ?_
      cases h1 : (decide (y2 < (x0.length : Int)))
      · have H := bifF h1 H
        refine Tr.cond (b := false) (by kernel_rfl) (fun h => nomatch h) (fun _ => ?_)
        refine Tr.exit ?_
        refine And.intro (fun _ => ?_) (fun h => absurd rfl h)
        have H := Option.some.inj H
        subst H
        have H := Ho5
        dsimp only at H
        exact Exists.intro y3 (And.intro H (St.sub_of [3, 2] [] (by kernel_rfl)))
      · have H := bifT h1 H
        refine Tr.cond (b := true) (by kernel_rfl) (fun _ => ?_) (fun h => nomatch h)
        refine Tr.skip ?_
        show Tr _ _ _ _ _
        refine Tr.seq ?_
        refine Tr.block ?_
        refine Tr.at ?_
        refine LAt.runU tOk 4 (by kernel_rfl) ?_
        obtain ⟨v6, ev6, H⟩ := bind_some H
        refine LAt.indexF tOk (t := 23) (ty := 0) (x := (.tmp 16)) (y := (.tmp 17)) (d := 18) (g := none) ⟨(.slot 16), [], 0, false, 1, (CV.frzEs (x0.map intRow))⟩ y2 [.lit (.int .i64 v6)] _ (by kernel_rfl) (by kernel_rfl) (by kernel_rfl) (by kernel_rfl) rfl (idx_isF ev6) rfl ?_
        refine LAt.runU tOk 1 (by kernel_rfl) ?_
        obtain ⟨v7, ev7, H⟩ := bind_some H
        refine LAt.indexO tOk (t := 23) (ty := 0) (x := (.tmp 14)) (y := (.tmp 15)) (d := 20) (g := none) ⟨(.slot 3), [], 0, true, 1, (y3.map intRow)⟩ y2 (y2.toNat) (intRow v7) _ (by kernel_rfl) (by kernel_rfl) (by kernel_rfl) (by kernel_rfl) rfl (by kernel_rfl) (idx_isE ev7) rfl rfl ?_
        refine LAt.storeU tOk (t := 3) (ty := 0) (ad := (.tmp 20)) (x := (.tmp 19)) (g := none) ⟨.int .i64, 1, 8, [.lit (.int .i64 0)]⟩ false [.lit (.int .i64 v6)] (.slot 3) [(0, (y2.toNat))] [(0, (y2.toNat))] 1 0 [.sl true 1 (y3.map intRow)] (intRow v7) [.sl true 1 (y3.map intRow)] [.sl true 1 ((y3.set (y2.toNat) v6).map intRow)] (by kernel_rfl) (by kernel_rfl) (by kernel_rfl) (by kernel_rfl) (by kernel_rfl) (by kernel_rfl) (getQ_elem rfl (idx_get ev7).2) rfl (by intro h; cases h) (by kernel_rfl) (by kernel_rfl) (by kernel_rfl) (modQ_elem (new := v6) rfl (idx_get ev7).2 rfl) (by kernel_rfl) ?_
        refine LAt.doneU [3, 20, 19, 18, 17, 16, 15, 11, 10, 9, 8, 4, 2, 0] [] (by kernel_rfl) ?_
        show Tr _ _ _ _ _
        refine Tr.at ?_
        refine LAt.runU tOk 3 (by kernel_rfl) ?_
        refine LAt.doneU [4, 13, 12, 3, 20, 19, 18, 17, 16, 15, 11, 10, 9, 8, 2, 0] [] (by kernel_rfl) ?_
        exact Exists.intro (mo5, ((IntKind.wrap .i64 (y2 + 1)), (y3.set (y2.toNat) v6))) (And.intro H (And.intro (Nat.lt_succ_self mo5) (St.sub_of [4, 3, 2, 0] [] (by kernel_rfl))))
  · rintro y4 H
    have H : (laws_toIntS_J1 n y4) = some r := H
    unfold laws_toIntS_J1 at H
    show Tr _ _ _ _ _
    refine Tr.rs ?_
    refine LAt.runU tOk 2 (by kernel_rfl) ?_
    refine LAt.doneU [2, 3] [] (by kernel_rfl) ?_
    refine Tr.ret ?_
    have H := Option.some.inj H
    subst H
    exact Fin.of _ [(false, [.sl true 1 (y4.map intRow)])] (by kernel_rfl) rfl rfl

def laws_toVtabF (n : Nat) (x0 : Vtab) : Option (Vtab) :=
  ((laws_toVrowSF n x0.Rows).bind fun r1 => ((laws_toIntSF n x0.Pvid).bind fun r2 => (some (⟨r1, r2⟩ : Vtab))))
/-- loop.example/g00326/laws.toVtab -/
theorem laws_toVtab (n : Nat) (x0 : Vtab) (r : Vtab) (H : laws_toVtabF n x0 = some r) : LCall Try.prog 17 [.val true (CV.frzRow (Vtab.row x0))] [.val true (Vtab.row r)] [] := by
  refine LCall.of_body tOk Try.func17 rfl (c := (.seq (.region 0 (rg Try.f17 0) false) (.seq (.region 1 (rg Try.f17 1) false) (.seq (.region 2 (rg Try.f17 2) false) (.seq (.region 3 (rg Try.f17 3) false) (.seq (.region 4 (rg Try.f17 4) false) .ret)))))) (by kernel_rfl) (Nat.le_of_ble_eq_true (by kernel_rfl)) 0 (rs := [.cell 2 29]) rfl [] .nil [(true, (Vtab.row r))] [] [] fun cx => ?_
  show Tr _ _ _ ⟨13, 0, [(0, .val true (CV.frzRow (Vtab.row x0)))], []⟩ _
  unfold laws_toVtabF at H
  refine Tr.rs ?_
  refine LAt.runU tOk 2 (by kernel_rfl) ?_
  refine LAt.doneU [2, 1] [2, 1] (by kernel_rfl) ?_
  refine Tr.rs ?_
  refine LAt.runU tOk 1 (by kernel_rfl) ?_
  refine LAt.doneU [3, 2, 1] [3, 2, 1] (by kernel_rfl) ?_
  refine Tr.rs ?_
  refine LAt.runU tOk 2 (by kernel_rfl) ?_
  obtain ⟨r1, er1, H⟩ := bind_some H
  refine LAt.callU tOk [.rd] (f := 79) (av := #[.tmp 5]) (ats := #[22]) (d := (some 6)) (ty := 27) (g := none) (by kernel_rfl) (by kernel_rfl) (by kernel_rfl) [] (laws_toVrowS n x0.Rows r1 er1) (by kernel_rfl) (.inl rfl) ?_
  refine LAt.runU tOk 2 (by kernel_rfl) ?_
  refine LAt.doneU [3, 2, 1] [3, 2, 1] (by kernel_rfl) ?_
  refine Tr.rs ?_
  refine LAt.runU tOk 2 (by kernel_rfl) ?_
  obtain ⟨r2, er2, H⟩ := bind_some H
  refine LAt.callU tOk [.rd] (f := 80) (av := #[.tmp 9]) (ats := #[23]) (d := (some 10)) (ty := 23) (g := none) (by kernel_rfl) (by kernel_rfl) (by kernel_rfl) [] (laws_toIntS n x0.Pvid r2 er2) (by kernel_rfl) (.inl rfl) ?_
  refine LAt.runU tOk 2 (by kernel_rfl) ?_
  refine LAt.doneU [3, 2] [3, 2] (by kernel_rfl) ?_
  refine Tr.rs ?_
  refine LAt.runU tOk 2 (by kernel_rfl) ?_
  refine LAt.doneU [2] [2] (by kernel_rfl) ?_
  refine Tr.ret ?_
  have H := Option.some.inj H
  subst H
  exact Fin.of _ [(true, [.sl true 3 (r1.map Vrow.row), .sl true 1 (r2.map intRow)])] (by kernel_rfl) rfl rfl

def laws_toBridgeF (n : Nat) (x0 : Bridge) : Option (Bridge) :=
  ((laws_toPtSF n x0.Ports).bind fun r1 => ((laws_toFentSF n x0.F).bind fun r2 => ((laws_toVtabF n x0.V).bind fun r3 => (some (⟨x0.Id, x0.Name, r1, r2, r3, x0.Ticks, x0.Parse, x0.Word, x0.Drops, x0.Vers⟩ : Bridge)))))
/-- loop.example/g00326/laws.toBridge -/
theorem laws_toBridge (n : Nat) (x0 : Bridge) (r : Bridge) (H : laws_toBridgeF n x0 = some r) : LCall Try.prog 53 [.val true (CV.frzRow (Bridge.row x0))] [.val true (Bridge.row r)] [] := by
  refine LCall.of_body tOk Try.func53 rfl (c := (.seq (.region 0 (rg Try.f53 0) false) (.seq (.region 1 (rg Try.f53 1) false) (.seq (.region 2 (rg Try.f53 2) false) (.seq (.region 3 (rg Try.f53 3) false) (.seq (.region 4 (rg Try.f53 4) false) (.seq (.region 5 (rg Try.f53 5) false) (.seq (.region 6 (rg Try.f53 6) false) (.seq (.region 7 (rg Try.f53 7) false) (.seq (.region 8 (rg Try.f53 8) false) (.seq (.region 9 (rg Try.f53 9) false) (.seq (.region 10 (rg Try.f53 10) false) (.seq (.region 11 (rg Try.f53 11) false) (.seq (.region 12 (rg Try.f53 12) false) .ret)))))))))))))) (by kernel_rfl) (Nat.le_of_ble_eq_true (by kernel_rfl)) 0 (rs := [.cell 2 79]) rfl [] .nil [(true, (Bridge.row r))] [] [] fun cx => ?_
  show Tr _ _ _ ⟨38, 0, [(0, .val true (CV.frzRow (Bridge.row x0)))], []⟩ _
  unfold laws_toBridgeF at H
  refine Tr.rs ?_
  refine LAt.runU tOk 2 (by kernel_rfl) ?_
  refine LAt.doneU [2, 1] [2, 1] (by kernel_rfl) ?_
  refine Tr.rs ?_
  refine LAt.runU tOk 1 (by kernel_rfl) ?_
  refine LAt.doneU [3, 2, 1] [3, 2, 1] (by kernel_rfl) ?_
  refine Tr.rs ?_
  refine LAt.runU tOk 4 (by kernel_rfl) ?_
  refine LAt.doneU [3, 2, 1] [3, 2, 1] (by kernel_rfl) ?_
  refine Tr.rs ?_
  refine LAt.runU tOk 4 (by kernel_rfl) ?_
  refine LAt.doneU [3, 2, 1] [3, 2, 1] (by kernel_rfl) ?_
  refine Tr.rs ?_
  refine LAt.runU tOk 2 (by kernel_rfl) ?_
  obtain ⟨r1, er1, H⟩ := bind_some H
  refine LAt.callU tOk [.rd] (f := 116) (av := #[.tmp 11]) (ats := #[71]) (d := (some 12)) (ty := 43) (g := none) (by kernel_rfl) (by kernel_rfl) (by kernel_rfl) [] (laws_toPtS n x0.Ports r1 er1) (by kernel_rfl) (.inl rfl) ?_
  refine LAt.runU tOk 2 (by kernel_rfl) ?_
  refine LAt.doneU [3, 2, 1] [3, 2, 1] (by kernel_rfl) ?_
  refine Tr.rs ?_
  refine LAt.runU tOk 2 (by kernel_rfl) ?_
  obtain ⟨r2, er2, H⟩ := bind_some H
  refine LAt.callU tOk [.rd] (f := 117) (av := #[.tmp 15]) (ats := #[72]) (d := (some 16)) (ty := 77) (g := none) (by kernel_rfl) (by kernel_rfl) (by kernel_rfl) [] (laws_toFentS n x0.F r2 er2) (by kernel_rfl) (.inl rfl) ?_
  refine LAt.runU tOk 2 (by kernel_rfl) ?_
  refine LAt.doneU [3, 2, 1] [3, 2, 1] (by kernel_rfl) ?_
  refine Tr.rs ?_
  refine LAt.runU tOk 2 (by kernel_rfl) ?_
  obtain ⟨r3, er3, H⟩ := bind_some H
  refine LAt.callU tOk [.rd] (f := 17) (av := #[.tmp 19]) (ats := #[25]) (d := (some 20)) (ty := 29) (g := none) (by kernel_rfl) (by kernel_rfl) (by kernel_rfl) [] (laws_toVtab n x0.V r3 er3) (by kernel_rfl) (.inl rfl) ?_
  refine LAt.runU tOk 2 (by kernel_rfl) ?_
  refine LAt.doneU [3, 2, 1] [3, 2, 1] (by kernel_rfl) ?_
  refine Tr.rs ?_
  refine LAt.runU tOk 4 (by kernel_rfl) ?_
  refine LAt.doneU [3, 2, 1] [3, 2, 1] (by kernel_rfl) ?_
  refine Tr.rs ?_
  refine LAt.runU tOk 4 (by kernel_rfl) ?_
  refine LAt.doneU [3, 2, 1] [3, 2, 1] (by kernel_rfl) ?_
  refine Tr.rs ?_
  refine LAt.runU tOk 4 (by kernel_rfl) ?_
  refine LAt.doneU [3, 2, 1] [3, 2, 1] (by kernel_rfl) ?_
  refine Tr.rs ?_
  refine LAt.runU tOk 4 (by kernel_rfl) ?_
  refine LAt.doneU [3, 2, 1] [3, 2, 1] (by kernel_rfl) ?_
  refine Tr.rs ?_
  refine LAt.runU tOk 4 (by kernel_rfl) ?_
  refine LAt.doneU [3, 2] [3, 2] (by kernel_rfl) ?_
  refine Tr.rs ?_
  refine LAt.runU tOk 2 (by kernel_rfl) ?_
  refine LAt.doneU [2] [2] (by kernel_rfl) ?_
  refine Tr.ret ?_
  have H := Option.some.inj H
  subst H
  exact Fin.of _ [(true, [.lit (.int .i64 x0.Id), .lit (.string x0.Name), .sl true 8 (r1.map Pt.row), .sl true 5 (r2.map Fent.row), .sl true 3 (r3.Rows.map Vrow.row), .sl true 1 (r3.Pvid.map intRow), .lit (.int .i64 x0.Ticks), .lit (.int .i64 x0.Parse), .lit (.int .i64 x0.Word), .lit (.int .i64 x0.Drops), .lit (.int .i64 x0.Vers)])] (by kernel_rfl) rfl rfl

def spec_l1InF (n : Nat) (x0 : Int) (x1 : Int) (x2 : Int) : Option (Bool) :=
  (bif (decide (x0 ≥ x1)) then (some (decide (x0 ≤ x2))) else (some false))
/-- loop.example/g00326/spec.l1In -/
theorem spec_l1In (n : Nat) (x0 : Int) (x1 : Int) (x2 : Int) (r : Bool) (H : spec_l1InF n x0 x1 x2 = some r) : LCall Try.prog 76 [.val false [.lit (.int .i64 x0)], .val false [.lit (.int .i64 x1)], .val false [.lit (.int .i64 x2)]] [.val false [.lit (.bool r)]] [] := by
  refine LCall.of_body tOk Try.func76 rfl (c := (.seq (.region 0 (rg Try.f76 0) false) (.seq (.region 1 (rg Try.f76 1) false) .ret))) (by kernel_rfl) (Nat.le_of_ble_eq_true (by kernel_rfl)) 0 (rs := [.tmp 6]) rfl [] .nil [(false, [.lit (.bool r)])] [] [] fun cx => ?_
  show Tr _ _ _ ⟨15, 0, [(0, .val false [.lit (.int .i64 x0)]), (1, .val false [.lit (.int .i64 x1)]), (2, .val false [.lit (.int .i64 x2)])], []⟩ _
  unfold spec_l1InF at H
  refine Tr.rs ?_
  refine LAt.runU tOk 1 (by kernel_rfl) ?_
  refine LAt.doneU [6, 0, 1, 2] [] (by kernel_rfl) ?_
  refine Tr.rs ?_
  refine LAt.runU tOk 4 (by kernel_rfl) ?_
  refine LAt.to ⟨15, 0, [(10, .val false [.lit (.bool (decide (x0 ≥ x1)))]), (9, .val false [.lit (.bool (decide (x0 ≥ x1)))]), (8, .val false [.lit (.int .i64 x1)]), (7, .val false [.lit (.int .i64 x0)]), (6, .val false [.lit (.bool false)]), (0, .val false [.lit (.int .i64 x0)]), (1, .val false [.lit (.int .i64 x1)]), (2, .val false [.lit (.int .i64 x2)])], []⟩ (by kernel_rfl) ?_
  cases h1 : (decide (x0 ≥ x1))
  · have H := bifF h1 H
    refine LAt.runU tOk 5 (by kernel_rfl) ?_
    refine LAt.doneU [6] [] (by kernel_rfl) ?_
    refine Tr.ret ?_
    have H := Option.some.inj H
    subst H
    exact Fin.of _ [(false, [.lit (.bool false)])] (by kernel_rfl) rfl rfl
  · have H := bifT h1 H
    refine LAt.runU tOk 5 (by kernel_rfl) ?_
    refine LAt.doneU [6] [] (by kernel_rfl) ?_
    refine Tr.ret ?_
    have H := Option.some.inj H
    subst H
    exact Fin.of _ [(false, [.lit (.bool (decide (x0 ≤ x2)))])] (by kernel_rfl) rfl rfl

def spec_VecOkF (n : Nat) (x0 : Vec) : Option (Bool) :=
  ((spec_l1InF n x0.Root 1 99).bind fun r1 => (bif r1 then ((spec_l1InF n x0.Cost 0 100000).bind fun r2 => (bif r2 then ((spec_l1InF n x0.Hops 0 10).bind fun r3 => (bif r3 then ((spec_l1InF n x0.Bridge 1 99).bind fun r4 => (bif r4 then ((spec_l1InF n x0.Port 0 7).bind fun r5 => (some r5)) else (some false))) else (some false))) else (some false))) else (some false)))
/-- loop.example/g00326/spec.VecOk -/
theorem spec_VecOk (n : Nat) (x0 : Vec) (r : Bool) (H : spec_VecOkF n x0 = some r) : LCall Try.prog 99 [.val true (CV.frzRow (Vec.row x0))] [.val false [.lit (.bool r)]] [] := by
  refine LCall.of_body tOk Try.func99 rfl (c := (.seq (.region 0 (rg Try.f99 0) false) (.seq (.region 1 (rg Try.f99 1) false) .ret))) (by kernel_rfl) (Nat.le_of_ble_eq_true (by kernel_rfl)) 0 (rs := [.tmp 2]) rfl [] .nil [(false, [.lit (.bool r)])] [] [] fun cx => ?_
  show Tr _ _ _ ⟨26, 0, [(0, .val true (Vec.row x0))], []⟩ _
  unfold spec_VecOkF at H
  refine Tr.rs ?_
  refine LAt.runU tOk 2 (by kernel_rfl) ?_
  refine LAt.doneU [2, 1] [1] (by kernel_rfl) ?_
  refine Tr.rs ?_
  refine LAt.runU tOk 2 (by kernel_rfl) ?_
  obtain ⟨r1, er1, H⟩ := bind_some H
  refine LAt.callU tOk [.rd, .rd, .rd] (f := 76) (av := #[.tmp 4, .const (.int .i64 1), .const (.int .i64 99)]) (ats := #[3, 3, 3]) (d := (some 5)) (ty := 4) (g := none) (by kernel_rfl) (by kernel_rfl) (by kernel_rfl) [] (spec_l1In n x0.Root 1 99 r1 er1) (by kernel_rfl) (.inl rfl) ?_
  refine LAt.runU tOk 1 (by kernel_rfl) ?_
  refine LAt.to ⟨26, 0, [(6, .val false [.lit (.bool r1)]), (5, .val false [.lit (.bool r1)]), (4, .val false [.lit (.int .i64 x0.Root)]), (3, .adr (.box 1) [(0, 0)] 5 0), (2, .val false [.lit (.bool false)]), (1, .adr (.box 1) [(0, 0)] 5 0)], [(1, (Vec.row x0))]⟩ (by kernel_rfl) ?_
  cases h1 : r1
  · have H := bifF h1 H
    refine LAt.runU tOk 20 (by kernel_rfl) ?_
    refine LAt.doneU [2] [] (by kernel_rfl) ?_
    refine Tr.ret ?_
    have H := Option.some.inj H
    subst H
    exact Fin.of _ [(false, [.lit (.bool false)])] (by kernel_rfl) rfl rfl
  · have H := bifT h1 H
    refine LAt.runU tOk 2 (by kernel_rfl) ?_
    obtain ⟨r2, er2, H⟩ := bind_some H
    refine LAt.callU tOk [.rd, .rd, .rd] (f := 76) (av := #[.tmp 8, .const (.int .i64 0), .const (.int .i64 100000)]) (ats := #[3, 3, 3]) (d := (some 9)) (ty := 4) (g := (some (3, true))) (by kernel_rfl) (by kernel_rfl) (by kernel_rfl) [] (spec_l1In n x0.Cost 0 100000 r2 er2) (by kernel_rfl) (.inl rfl) ?_
    refine LAt.runU tOk 2 (by kernel_rfl) ?_
    refine LAt.to ⟨26, 0, [(11, .val false [.lit (.bool r2)]), (10, .val false [.lit (.bool r2)]), (9, .val false [.lit (.bool r2)]), (8, .val false [.lit (.int .i64 x0.Cost)]), (7, .adr (.box 1) [(0, 0)] 5 1), (6, .val false [.lit (.bool true)]), (5, .val false [.lit (.bool true)]), (4, .val false [.lit (.int .i64 x0.Root)]), (3, .adr (.box 1) [(0, 0)] 5 0), (2, .val false [.lit (.bool false)]), (1, .adr (.box 1) [(0, 0)] 5 0)], [(1, (Vec.row x0))]⟩ (by kernel_rfl) ?_
    cases h2 : r2
    · have H := bifF h2 H
      refine LAt.runU tOk 15 (by kernel_rfl) ?_
      refine LAt.doneU [2] [] (by kernel_rfl) ?_
      refine Tr.ret ?_
      have H := Option.some.inj H
      subst H
      exact Fin.of _ [(false, [.lit (.bool false)])] (by kernel_rfl) rfl rfl
    · have H := bifT h2 H
      refine LAt.runU tOk 2 (by kernel_rfl) ?_
      obtain ⟨r3, er3, H⟩ := bind_some H
      refine LAt.callU tOk [.rd, .rd, .rd] (f := 76) (av := #[.tmp 13, .const (.int .i64 0), .const (.int .i64 10)]) (ats := #[3, 3, 3]) (d := (some 14)) (ty := 4) (g := (some (8, true))) (by kernel_rfl) (by kernel_rfl) (by kernel_rfl) [] (spec_l1In n x0.Hops 0 10 r3 er3) (by kernel_rfl) (.inl rfl) ?_
      refine LAt.runU tOk 2 (by kernel_rfl) ?_
      refine LAt.to ⟨26, 0, [(16, .val false [.lit (.bool r3)]), (15, .val false [.lit (.bool r3)]), (14, .val false [.lit (.bool r3)]), (13, .val false [.lit (.int .i64 x0.Hops)]), (12, .adr (.box 1) [(0, 0)] 5 2), (11, .val false [.lit (.bool true)]), (10, .val false [.lit (.bool true)]), (9, .val false [.lit (.bool true)]), (8, .val false [.lit (.int .i64 x0.Cost)]), (7, .adr (.box 1) [(0, 0)] 5 1), (6, .val false [.lit (.bool true)]), (5, .val false [.lit (.bool true)]), (4, .val false [.lit (.int .i64 x0.Root)]), (3, .adr (.box 1) [(0, 0)] 5 0), (2, .val false [.lit (.bool false)]), (1, .adr (.box 1) [(0, 0)] 5 0)], [(1, (Vec.row x0))]⟩ (by kernel_rfl) ?_
      cases h3 : r3
      · have H := bifF h3 H
        refine LAt.runU tOk 10 (by kernel_rfl) ?_
        refine LAt.doneU [2] [] (by kernel_rfl) ?_
        refine Tr.ret ?_
        have H := Option.some.inj H
        subst H
        exact Fin.of _ [(false, [.lit (.bool false)])] (by kernel_rfl) rfl rfl
      · have H := bifT h3 H
        refine LAt.runU tOk 2 (by kernel_rfl) ?_
        obtain ⟨r4, er4, H⟩ := bind_some H
        refine LAt.callU tOk [.rd, .rd, .rd] (f := 76) (av := #[.tmp 18, .const (.int .i64 1), .const (.int .i64 99)]) (ats := #[3, 3, 3]) (d := (some 19)) (ty := 4) (g := (some (13, true))) (by kernel_rfl) (by kernel_rfl) (by kernel_rfl) [] (spec_l1In n x0.Bridge 1 99 r4 er4) (by kernel_rfl) (.inl rfl) ?_
        refine LAt.runU tOk 2 (by kernel_rfl) ?_
        refine LAt.to ⟨26, 0, [(21, .val false [.lit (.bool r4)]), (20, .val false [.lit (.bool r4)]), (19, .val false [.lit (.bool r4)]), (18, .val false [.lit (.int .i64 x0.Bridge)]), (17, .adr (.box 1) [(0, 0)] 5 3), (16, .val false [.lit (.bool true)]), (15, .val false [.lit (.bool true)]), (14, .val false [.lit (.bool true)]), (13, .val false [.lit (.int .i64 x0.Hops)]), (12, .adr (.box 1) [(0, 0)] 5 2), (11, .val false [.lit (.bool true)]), (10, .val false [.lit (.bool true)]), (9, .val false [.lit (.bool true)]), (8, .val false [.lit (.int .i64 x0.Cost)]), (7, .adr (.box 1) [(0, 0)] 5 1), (6, .val false [.lit (.bool true)]), (5, .val false [.lit (.bool true)]), (4, .val false [.lit (.int .i64 x0.Root)]), (3, .adr (.box 1) [(0, 0)] 5 0), (2, .val false [.lit (.bool false)]), (1, .adr (.box 1) [(0, 0)] 5 0)], [(1, (Vec.row x0))]⟩ (by kernel_rfl) ?_
        cases h4 : r4
        · have H := bifF h4 H
          refine LAt.runU tOk 5 (by kernel_rfl) ?_
          refine LAt.doneU [2] [] (by kernel_rfl) ?_
          refine Tr.ret ?_
          have H := Option.some.inj H
          subst H
          exact Fin.of _ [(false, [.lit (.bool false)])] (by kernel_rfl) rfl rfl
        · have H := bifT h4 H
          refine LAt.runU tOk 2 (by kernel_rfl) ?_
          obtain ⟨r5, er5, H⟩ := bind_some H
          refine LAt.callU tOk [.rd, .rd, .rd] (f := 76) (av := #[.tmp 23, .const (.int .i64 0), .const (.int .i64 7)]) (ats := #[3, 3, 3]) (d := (some 24)) (ty := 4) (g := (some (18, true))) (by kernel_rfl) (by kernel_rfl) (by kernel_rfl) [] (spec_l1In n x0.Port 0 7 r5 er5) (by kernel_rfl) (.inl rfl) ?_
          refine LAt.runU tOk 2 (by kernel_rfl) ?_
          refine LAt.doneU [2] [] (by kernel_rfl) ?_
          refine Tr.ret ?_
          have H := Option.some.inj H
          subst H
          exact Fin.of _ [(false, [.lit (.bool r5)])] (by kernel_rfl) rfl rfl

def spec_PtOkF (n : Nat) (x0 : Pt) : Option (Bool) :=
  ((spec_l1InF n x0.Cost 1 1000).bind fun r1 => (bif (!r1) then (some false) else (bif (!x0.Up) then (bif x0.Has then (some false) else (some ((x0.Heard.Root == 0) && ((x0.Heard.Cost == 0) && ((x0.Heard.Hops == 0) && ((x0.Heard.Bridge == 0) && ((x0.Heard.Port == 0) && true))))))) else (bif (!x0.Has) then (some ((x0.Heard.Root == 0) && ((x0.Heard.Cost == 0) && ((x0.Heard.Hops == 0) && ((x0.Heard.Bridge == 0) && ((x0.Heard.Port == 0) && true)))))) else ((spec_VecOkF n x0.Heard).bind fun r2 => (some r2))))))
/-- loop.example/g00326/spec.PtOk -/
theorem spec_PtOk (n : Nat) (x0 : Pt) (r : Bool) (H : spec_PtOkF n x0 = some r) : LCall Try.prog 30 [.val true (CV.frzRow (Pt.row x0))] [.val false [.lit (.bool r)]] [] := by
  refine LCall.of_body tOk Try.func30 rfl (c := (.seq (.region 0 (rg Try.f30 0) false) (.seq (.seq (.region 1 (rg Try.f30 1) false) (.cond (.tmp 15) (.seq (.region 2 (rg Try.f30 2) false) .ret) .skip)) (.seq (.seq (.region 3 (rg Try.f30 3) false) (.cond (.tmp 18) (.seq (.region 4 (rg Try.f30 4) false) .ret) .skip)) (.seq (.region 5 (rg Try.f30 5) false) .ret))))) (by kernel_rfl) (Nat.le_of_ble_eq_true (by kernel_rfl)) 0 (rs := [.tmp 2]) rfl [] .nil [(false, [.lit (.bool r)])] [] [] fun cx => ?_
  show Tr _ _ _ ⟨26, 0, [(0, .val true (Pt.row x0))], []⟩ _
  unfold spec_PtOkF at H
  refine Tr.rs ?_
  refine LAt.runU tOk 2 (by kernel_rfl) ?_
  refine LAt.doneU [2, 1] [1] (by kernel_rfl) ?_
  refine Tr.seq ?_
  refine Tr.rs ?_
  refine LAt.runU tOk 2 (by kernel_rfl) ?_
  obtain ⟨r1, er1, H⟩ := bind_some H
  refine LAt.callU tOk [.rd, .rd, .rd] (f := 76) (av := #[.tmp 4, .const (.int .i64 1), .const (.int .i64 1000)]) (ats := #[3, 3, 3]) (d := (some 5)) (ty := 4) (g := none) (by kernel_rfl) (by kernel_rfl) (by kernel_rfl) [] (spec_l1In n x0.Cost 1 1000 r1 er1) (by kernel_rfl) (.inl rfl) ?_
  refine LAt.runU tOk 2 (by kernel_rfl) ?_
  refine LAt.to ⟨26, 0, [(7, .val false [.lit (.bool (!r1))]), (6, .val false [.lit (.bool (!r1))]), (5, .val false [.lit (.bool r1)]), (4, .val false [.lit (.int .i64 x0.Cost)]), (3, .adr (.box 1) [(0, 0)] 8 1), (2, .val false [.lit (.bool false)]), (1, .adr (.box 1) [(0, 0)] 8 0)], [(1, (Pt.row x0))]⟩ (by kernel_rfl) ?_
  cases h1 : (!r1)
  · have H := bifF h1 H
    refine LAt.runU tOk 4 (by kernel_rfl) ?_
    refine LAt.to ⟨26, 0, [(11, .val false [.lit (.bool (!x0.Up))]), (10, .val false [.lit (.bool (!x0.Up))]), (9, .val false [.lit (.bool x0.Up)]), (8, .adr (.box 1) [(0, 0)] 8 0), (7, .val false [.lit (.bool false)]), (6, .val false [.lit (.bool false)]), (5, .val false [.lit (.bool r1)]), (4, .val false [.lit (.int .i64 x0.Cost)]), (3, .adr (.box 1) [(0, 0)] 8 1), (2, .val false [.lit (.bool false)]), (1, .adr (.box 1) [(0, 0)] 8 0)], [(1, (Pt.row x0))]⟩ (by kernel_rfl) ?_
    cases h2 : (!x0.Up)
    · have H := bifF h2 H
      refine LAt.runU tOk 4 (by kernel_rfl) ?_
      refine LAt.doneU [15, 2, 1] [1] (by kernel_rfl) ?_
      refine Tr.cond (b := false) (by kernel_rfl) (fun h => nomatch h) (fun _ => ?_)
      refine Tr.skip ?_
      show Tr _ _ _ _ _
      refine Tr.seq ?_
      refine Tr.rs ?_
      refine LAt.runU tOk 3 (by kernel_rfl) ?_
      refine LAt.doneU [18, 2, 1] [1] (by kernel_rfl) ?_
      refine Tr.to ⟨26, 0, [(18, .val false [.lit (.bool (!x0.Has))]), (2, .val false [.lit (.bool false)]), (1, .adr (.box 1) [(0, 0)] 8 0)], [(1, (Pt.row x0))]⟩ (by kernel_rfl) ?_
      cases h3 : (!x0.Has)
      · have H := bifF h3 H
        refine Tr.cond (b := false) (by kernel_rfl) (fun h => nomatch h) (fun _ => ?_)
        refine Tr.skip ?_
        show Tr _ _ _ _ _
        refine Tr.rs ?_
        refine LAt.runU tOk 2 (by kernel_rfl) ?_
        obtain ⟨r2, er2, H⟩ := bind_some H
        refine LAt.callU tOk [.rd] (f := 99) (av := #[.tmp 24]) (ats := #[39]) (d := (some 25)) (ty := 4) (g := none) (by kernel_rfl) (by kernel_rfl) (by kernel_rfl) [] (spec_VecOk n x0.Heard r2 er2) (by kernel_rfl) (.inl rfl) ?_
        refine LAt.runU tOk 1 (by kernel_rfl) ?_
        refine LAt.doneU [2] [] (by kernel_rfl) ?_
        refine Tr.ret ?_
        have H := Option.some.inj H
        subst H
        exact Fin.of _ [(false, [.lit (.bool r2)])] (by kernel_rfl) rfl rfl
      · have H := bifT h3 H
        refine Tr.cond (b := true) (by kernel_rfl) (fun _ => ?_) (fun h => nomatch h)
        refine Tr.rs ?_
        refine LAt.runU tOk 3 (by kernel_rfl) ?_
        refine LAt.eqS false (t := 39) (ty := 39) (ty' := 4) (x := (.tmp 20)) (y := (.tmp 21)) (d := 22) ((x0.Heard.Root == 0) && ((x0.Heard.Cost == 0) && ((x0.Heard.Hops == 0) && ((x0.Heard.Bridge == 0) && ((x0.Heard.Port == 0) && true))))) _ (by kernel_rfl) (by kernel_rfl) (by kernel_rfl) rfl ?_
        refine LAt.runU tOk 1 (by kernel_rfl) ?_
        refine LAt.doneU [2, 1] [1] (by kernel_rfl) ?_
        refine Tr.ret ?_
        have H := Option.some.inj H
        subst H
        exact Fin.of _ [(false, [.lit (.bool ((x0.Heard.Root == 0) && ((x0.Heard.Cost == 0) && ((x0.Heard.Hops == 0) && ((x0.Heard.Bridge == 0) && ((x0.Heard.Port == 0) && true))))))])] (by kernel_rfl) rfl rfl
    · have H := bifT h2 H
      refine LAt.runU tOk 4 (by kernel_rfl) ?_
      refine LAt.doneU [15, 2, 1] [1] (by kernel_rfl) ?_
      refine Tr.to ⟨26, 0, [(15, .val false [.lit (.bool x0.Has)]), (2, .val false [.lit (.bool false)]), (1, .adr (.box 1) [(0, 0)] 8 0)], [(1, (Pt.row x0))]⟩ (by kernel_rfl) ?_
      cases h4 : x0.Has
      · have H := bifF h4 H
        refine Tr.cond (b := false) (by kernel_rfl) (fun h => nomatch h) (fun _ => ?_)
        refine Tr.skip ?_
        show Tr _ _ _ _ _
        refine Tr.seq ?_
        refine Tr.rs ?_
        refine LAt.runU tOk 3 (by kernel_rfl) ?_
        refine LAt.doneU [18, 2, 1] [1] (by kernel_rfl) ?_
        refine Tr.to ⟨26, 0, [(18, .val false [.lit (.bool (!x0.Has))]), (2, .val false [.lit (.bool false)]), (1, .adr (.box 1) [(0, 0)] 8 0)], [(1, (Pt.row x0))]⟩ (by kernel_rfl) ?_
        rw [h4]
        refine Tr.cond (b := true) (by kernel_rfl) (fun _ => ?_) (fun h => nomatch h)
        refine Tr.rs ?_
        refine LAt.runU tOk 3 (by kernel_rfl) ?_
        refine LAt.eqS false (t := 39) (ty := 39) (ty' := 4) (x := (.tmp 20)) (y := (.tmp 21)) (d := 22) ((x0.Heard.Root == 0) && ((x0.Heard.Cost == 0) && ((x0.Heard.Hops == 0) && ((x0.Heard.Bridge == 0) && ((x0.Heard.Port == 0) && true))))) _ (by kernel_rfl) (by kernel_rfl) (by kernel_rfl) rfl ?_
        refine LAt.runU tOk 1 (by kernel_rfl) ?_
        refine LAt.doneU [2, 1] [1] (by kernel_rfl) ?_
        refine Tr.ret ?_
        have H := Option.some.inj H
        subst H
        exact Fin.of _ [(false, [.lit (.bool ((x0.Heard.Root == 0) && ((x0.Heard.Cost == 0) && ((x0.Heard.Hops == 0) && ((x0.Heard.Bridge == 0) && ((x0.Heard.Port == 0) && true))))))])] (by kernel_rfl) rfl rfl
      · have H := bifT h4 H
        refine Tr.cond (b := true) (by kernel_rfl) (fun _ => ?_) (fun h => nomatch h)
        refine Tr.rs ?_
        refine LAt.runU tOk 1 (by kernel_rfl) ?_
        refine LAt.doneU [2, 1] [1] (by kernel_rfl) ?_
        refine Tr.ret ?_
        have H := Option.some.inj H
        subst H
        exact Fin.of _ [(false, [.lit (.bool false)])] (by kernel_rfl) rfl rfl
  · have H := bifT h1 H
    refine LAt.runU tOk 8 (by kernel_rfl) ?_
    refine LAt.doneU [15, 2, 1] [1] (by kernel_rfl) ?_
    refine Tr.cond (b := true) (by kernel_rfl) (fun _ => ?_) (fun h => nomatch h)
    refine Tr.rs ?_
    refine LAt.runU tOk 1 (by kernel_rfl) ?_
    refine LAt.doneU [2, 1] [1] (by kernel_rfl) ?_
    refine Tr.ret ?_
    have H := Option.some.inj H
    subst H
    exact Fin.of _ [(false, [.lit (.bool false)])] (by kernel_rfl) rfl rfl

def spec_l8EntF (n : Nat) (x0 : Fent) : Option (Bool) :=
  ((spec_l1InF n x0.Tag 1 99).bind fun r1 => (bif r1 then ((spec_l1InF n x0.Mac 1 9999).bind fun r2 => (bif r2 then ((spec_l1InF n x0.Port 0 7).bind fun r3 => (bif r3 then ((spec_l1InF n x0.Age 0 4).bind fun r4 => (bif r4 then (bif (!x0.Static) then (some true) else (some (x0.Age == 0))) else (some false))) else (some false))) else (some false))) else (some false)))
/-- loop.example/g00326/spec.l8Ent -/
theorem spec_l8Ent (n : Nat) (x0 : Fent) (r : Bool) (H : spec_l8EntF n x0 = some r) : LCall Try.prog 156 [.val true (CV.frzRow (Fent.row x0))] [.val false [.lit (.bool r)]] [] := by
  refine LCall.of_body tOk Try.func156 rfl (c := (.seq (.region 0 (rg Try.f156 0) false) (.seq (.region 1 (rg Try.f156 1) false) .ret))) (by kernel_rfl) (Nat.le_of_ble_eq_true (by kernel_rfl)) 0 (rs := [.tmp 2]) rfl [] .nil [(false, [.lit (.bool r)])] [] [] fun cx => ?_
  show Tr _ _ _ ⟨31, 0, [(0, .val true (Fent.row x0))], []⟩ _
  unfold spec_l8EntF at H
  refine Tr.rs ?_
  refine LAt.runU tOk 2 (by kernel_rfl) ?_
  refine LAt.doneU [2, 1] [1] (by kernel_rfl) ?_
  refine Tr.rs ?_
  refine LAt.runU tOk 2 (by kernel_rfl) ?_
  obtain ⟨r1, er1, H⟩ := bind_some H
  refine LAt.callU tOk [.rd, .rd, .rd] (f := 76) (av := #[.tmp 4, .const (.int .i64 1), .const (.int .i64 99)]) (ats := #[3, 3, 3]) (d := (some 5)) (ty := 4) (g := none) (by kernel_rfl) (by kernel_rfl) (by kernel_rfl) [] (spec_l1In n x0.Tag 1 99 r1 er1) (by kernel_rfl) (.inl rfl) ?_
  refine LAt.runU tOk 1 (by kernel_rfl) ?_
  refine LAt.to ⟨31, 0, [(6, .val false [.lit (.bool r1)]), (5, .val false [.lit (.bool r1)]), (4, .val false [.lit (.int .i64 x0.Tag)]), (3, .adr (.box 1) [(0, 0)] 5 0), (2, .val false [.lit (.bool false)]), (1, .adr (.box 1) [(0, 0)] 5 0)], [(1, (Fent.row x0))]⟩ (by kernel_rfl) ?_
  cases h1 : r1
  · have H := bifF h1 H
    refine LAt.runU tOk 25 (by kernel_rfl) ?_
    refine LAt.doneU [2] [] (by kernel_rfl) ?_
    refine Tr.ret ?_
    have H := Option.some.inj H
    subst H
    exact Fin.of _ [(false, [.lit (.bool false)])] (by kernel_rfl) rfl rfl
  · have H := bifT h1 H
    refine LAt.runU tOk 2 (by kernel_rfl) ?_
    obtain ⟨r2, er2, H⟩ := bind_some H
    refine LAt.callU tOk [.rd, .rd, .rd] (f := 76) (av := #[.tmp 8, .const (.int .i64 1), .const (.int .i64 9999)]) (ats := #[3, 3, 3]) (d := (some 9)) (ty := 4) (g := (some (3, true))) (by kernel_rfl) (by kernel_rfl) (by kernel_rfl) [] (spec_l1In n x0.Mac 1 9999 r2 er2) (by kernel_rfl) (.inl rfl) ?_
    refine LAt.runU tOk 2 (by kernel_rfl) ?_
    refine LAt.to ⟨31, 0, [(11, .val false [.lit (.bool r2)]), (10, .val false [.lit (.bool r2)]), (9, .val false [.lit (.bool r2)]), (8, .val false [.lit (.int .i64 x0.Mac)]), (7, .adr (.box 1) [(0, 0)] 5 1), (6, .val false [.lit (.bool true)]), (5, .val false [.lit (.bool true)]), (4, .val false [.lit (.int .i64 x0.Tag)]), (3, .adr (.box 1) [(0, 0)] 5 0), (2, .val false [.lit (.bool false)]), (1, .adr (.box 1) [(0, 0)] 5 0)], [(1, (Fent.row x0))]⟩ (by kernel_rfl) ?_
    cases h2 : r2
    · have H := bifF h2 H
      refine LAt.runU tOk 20 (by kernel_rfl) ?_
      refine LAt.doneU [2] [] (by kernel_rfl) ?_
      refine Tr.ret ?_
      have H := Option.some.inj H
      subst H
      exact Fin.of _ [(false, [.lit (.bool false)])] (by kernel_rfl) rfl rfl
    · have H := bifT h2 H
      refine LAt.runU tOk 2 (by kernel_rfl) ?_
      obtain ⟨r3, er3, H⟩ := bind_some H
      refine LAt.callU tOk [.rd, .rd, .rd] (f := 76) (av := #[.tmp 13, .const (.int .i64 0), .const (.int .i64 7)]) (ats := #[3, 3, 3]) (d := (some 14)) (ty := 4) (g := (some (8, true))) (by kernel_rfl) (by kernel_rfl) (by kernel_rfl) [] (spec_l1In n x0.Port 0 7 r3 er3) (by kernel_rfl) (.inl rfl) ?_
      refine LAt.runU tOk 2 (by kernel_rfl) ?_
      refine LAt.to ⟨31, 0, [(16, .val false [.lit (.bool r3)]), (15, .val false [.lit (.bool r3)]), (14, .val false [.lit (.bool r3)]), (13, .val false [.lit (.int .i64 x0.Port)]), (12, .adr (.box 1) [(0, 0)] 5 2), (11, .val false [.lit (.bool true)]), (10, .val false [.lit (.bool true)]), (9, .val false [.lit (.bool true)]), (8, .val false [.lit (.int .i64 x0.Mac)]), (7, .adr (.box 1) [(0, 0)] 5 1), (6, .val false [.lit (.bool true)]), (5, .val false [.lit (.bool true)]), (4, .val false [.lit (.int .i64 x0.Tag)]), (3, .adr (.box 1) [(0, 0)] 5 0), (2, .val false [.lit (.bool false)]), (1, .adr (.box 1) [(0, 0)] 5 0)], [(1, (Fent.row x0))]⟩ (by kernel_rfl) ?_
      cases h3 : r3
      · have H := bifF h3 H
        refine LAt.runU tOk 15 (by kernel_rfl) ?_
        refine LAt.doneU [2] [] (by kernel_rfl) ?_
        refine Tr.ret ?_
        have H := Option.some.inj H
        subst H
        exact Fin.of _ [(false, [.lit (.bool false)])] (by kernel_rfl) rfl rfl
      · have H := bifT h3 H
        refine LAt.runU tOk 2 (by kernel_rfl) ?_
        obtain ⟨r4, er4, H⟩ := bind_some H
        refine LAt.callU tOk [.rd, .rd, .rd] (f := 76) (av := #[.tmp 18, .const (.int .i64 0), .const (.int .i64 4)]) (ats := #[3, 3, 3]) (d := (some 19)) (ty := 4) (g := (some (13, true))) (by kernel_rfl) (by kernel_rfl) (by kernel_rfl) [] (spec_l1In n x0.Age 0 4 r4 er4) (by kernel_rfl) (.inl rfl) ?_
        refine LAt.runU tOk 2 (by kernel_rfl) ?_
        refine LAt.to ⟨31, 0, [(21, .val false [.lit (.bool r4)]), (20, .val false [.lit (.bool r4)]), (19, .val false [.lit (.bool r4)]), (18, .val false [.lit (.int .i64 x0.Age)]), (17, .adr (.box 1) [(0, 0)] 5 3), (16, .val false [.lit (.bool true)]), (15, .val false [.lit (.bool true)]), (14, .val false [.lit (.bool true)]), (13, .val false [.lit (.int .i64 x0.Port)]), (12, .adr (.box 1) [(0, 0)] 5 2), (11, .val false [.lit (.bool true)]), (10, .val false [.lit (.bool true)]), (9, .val false [.lit (.bool true)]), (8, .val false [.lit (.int .i64 x0.Mac)]), (7, .adr (.box 1) [(0, 0)] 5 1), (6, .val false [.lit (.bool true)]), (5, .val false [.lit (.bool true)]), (4, .val false [.lit (.int .i64 x0.Tag)]), (3, .adr (.box 1) [(0, 0)] 5 0), (2, .val false [.lit (.bool false)]), (1, .adr (.box 1) [(0, 0)] 5 0)], [(1, (Fent.row x0))]⟩ (by kernel_rfl) ?_
        cases h4 : r4
        · have H := bifF h4 H
          refine LAt.runU tOk 10 (by kernel_rfl) ?_
          refine LAt.doneU [2] [] (by kernel_rfl) ?_
          refine Tr.ret ?_
          have H := Option.some.inj H
          subst H
          exact Fin.of _ [(false, [.lit (.bool false)])] (by kernel_rfl) rfl rfl
        · have H := bifT h4 H
          refine LAt.runU tOk 4 (by kernel_rfl) ?_
          refine LAt.to ⟨31, 0, [(25, .val false [.lit (.bool (!x0.Static))]), (24, .val false [.lit (.bool (!x0.Static))]), (23, .val false [.lit (.bool x0.Static)]), (22, .adr (.box 1) [(0, 0)] 5 4), (21, .val false [.lit (.bool true)]), (20, .val false [.lit (.bool true)]), (19, .val false [.lit (.bool true)]), (18, .val false [.lit (.int .i64 x0.Age)]), (17, .adr (.box 1) [(0, 0)] 5 3), (16, .val false [.lit (.bool true)]), (15, .val false [.lit (.bool true)]), (14, .val false [.lit (.bool true)]), (13, .val false [.lit (.int .i64 x0.Port)]), (12, .adr (.box 1) [(0, 0)] 5 2), (11, .val false [.lit (.bool true)]), (10, .val false [.lit (.bool true)]), (9, .val false [.lit (.bool true)]), (8, .val false [.lit (.int .i64 x0.Mac)]), (7, .adr (.box 1) [(0, 0)] 5 1), (6, .val false [.lit (.bool true)]), (5, .val false [.lit (.bool true)]), (4, .val false [.lit (.int .i64 x0.Tag)]), (3, .adr (.box 1) [(0, 0)] 5 0), (2, .val false [.lit (.bool false)]), (1, .adr (.box 1) [(0, 0)] 5 0)], [(1, (Fent.row x0))]⟩ (by kernel_rfl) ?_
          cases h5 : (!x0.Static)
          · have H := bifF h5 H
            refine LAt.runU tOk 6 (by kernel_rfl) ?_
            refine LAt.doneU [2] [] (by kernel_rfl) ?_
            refine Tr.ret ?_
            have H := Option.some.inj H
            subst H
            exact Fin.of _ [(false, [.lit (.bool (x0.Age == 0))])] (by kernel_rfl) rfl rfl
          · have H := bifT h5 H
            refine LAt.runU tOk 6 (by kernel_rfl) ?_
            refine LAt.doneU [2] [] (by kernel_rfl) ?_
            refine Tr.ret ?_
            have H := Option.some.inj H
            subst H
            exact Fin.of _ [(false, [.lit (.bool true)])] (by kernel_rfl) rfl rfl

def spec_l8AheadF (n : Nat) (x0 : Fent) (x1 : Int) (x2 : Int) : Option (Bool) :=
  (bif (x0.Tag != x1) then (some (decide (x0.Tag < x1))) else (some (decide (x0.Mac < x2))))
/-- loop.example/g00326/spec.l8Ahead -/
theorem spec_l8Ahead (n : Nat) (x0 : Fent) (x1 : Int) (x2 : Int) (r : Bool) (H : spec_l8AheadF n x0 x1 x2 = some r) : LCall Try.prog 157 [.val true (CV.frzRow (Fent.row x0)), .val false [.lit (.int .i64 x1)], .val false [.lit (.int .i64 x2)]] [.val false [.lit (.bool r)]] [] := by
  refine LCall.of_body tOk Try.func157 rfl (c := (.seq (.region 0 (rg Try.f157 0) false) (.seq (.seq (.region 1 (rg Try.f157 1) false) (.cond (.tmp 10) (.seq (.region 2 (rg Try.f157 2) false) .ret) .skip)) (.seq (.region 3 (rg Try.f157 3) false) .ret)))) (by kernel_rfl) (Nat.le_of_ble_eq_true (by kernel_rfl)) 0 (rs := [.tmp 6]) rfl [] .nil [(false, [.lit (.bool r)])] [] [] fun cx => ?_
  show Tr _ _ _ ⟨19, 0, [(0, .val true (Fent.row x0)), (1, .val false [.lit (.int .i64 x1)]), (2, .val false [.lit (.int .i64 x2)])], []⟩ _
  unfold spec_l8AheadF at H
  refine Tr.rs ?_
  refine LAt.runU tOk 2 (by kernel_rfl) ?_
  refine LAt.doneU [6, 3, 1, 2] [3] (by kernel_rfl) ?_
  refine Tr.seq ?_
  refine Tr.rs ?_
  refine LAt.runU tOk 4 (by kernel_rfl) ?_
  refine LAt.doneU [10, 6, 3, 1, 2] [3] (by kernel_rfl) ?_
  refine Tr.to ⟨19, 0, [(10, .val false [.lit (.bool (x0.Tag != x1))]), (6, .val false [.lit (.bool false)]), (3, .adr (.box 3) [(0, 0)] 5 0), (1, .val false [.lit (.int .i64 x1)]), (2, .val false [.lit (.int .i64 x2)])], [(3, (Fent.row x0))]⟩ (by kernel_rfl) ?_
  cases h1 : (x0.Tag != x1)
  · have H := bifF h1 H
    refine Tr.cond (b := false) (by kernel_rfl) (fun h => nomatch h) (fun _ => ?_)
    refine Tr.skip ?_
    show Tr _ _ _ _ _
    refine Tr.rs ?_
    refine LAt.runU tOk 5 (by kernel_rfl) ?_
    refine LAt.doneU [6] [] (by kernel_rfl) ?_
    refine Tr.ret ?_
    have H := Option.some.inj H
    subst H
    exact Fin.of _ [(false, [.lit (.bool (decide (x0.Mac < x2)))])] (by kernel_rfl) rfl rfl
  · have H := bifT h1 H
    refine Tr.cond (b := true) (by kernel_rfl) (fun _ => ?_) (fun h => nomatch h)
    refine Tr.rs ?_
    refine LAt.runU tOk 5 (by kernel_rfl) ?_
    refine LAt.doneU [6, 3, 2] [3] (by kernel_rfl) ?_
    refine Tr.ret ?_
    have H := Option.some.inj H
    subst H
    exact Fin.of _ [(false, [.lit (.bool (decide (x0.Tag < x1)))])] (by kernel_rfl) rfl rfl

def spec_FdbOk_J1 (n : Nat) (x0 : (List Fent)) : Option (Bool) :=
  (some (decide ((x0.length : Int) ≤ 12)))
def spec_FdbOk_L2 (n : Nat) : Nat → (List Fent) → Int → Option ((Unit) ⊕ (Bool))
  | 0, _, _ => none
  | mo2 + 1, x0, y1 => (bif (decide (y1 < (x0.length : Int))) then ((idx x0 y1).bind fun v3 => ((spec_l8EntF n v3).bind fun r4 => (bif (!r4) then (some (Sum.inr false)) else (bif (decide (y1 > 0)) then ((idx x0 (IntKind.wrap .i64 (y1 - 1))).bind fun v5 => ((idx x0 y1).bind fun v6 => ((idx x0 y1).bind fun v7 => ((spec_l8AheadF n v5 v6.Tag v7.Mac).bind fun r8 => (bif (!r8) then (some (Sum.inr false)) else (spec_FdbOk_L2 n mo2 x0 (IntKind.wrap .i64 (y1 + 1)))))))) else (spec_FdbOk_L2 n mo2 x0 (IntKind.wrap .i64 (y1 + 1))))))) else (some (Sum.inl ())))
def spec_FdbOkF (n : Nat) (x0 : (List Fent)) : Option (Bool) :=
  ((spec_FdbOk_L2 n n x0 0).bind fun o => match o with | .inl _ => (spec_FdbOk_J1 n x0) | .inr r => some r)
/-- loop.example/g00326/spec.FdbOk -/
theorem spec_FdbOk (n : Nat) (x0 : (List Fent)) (r : Bool) (H : spec_FdbOkF n x0 = some r) : LCall Try.prog 126 [.val false [.sl false 5 (CV.frzEs (x0.map Fent.row))]] [.val false [.lit (.bool r)]] [] := by
  refine LCall.of_body tOk Try.func126 rfl (c := (.seq (.region 0 (rg Try.f126 0) false) (.seq (.seq (.region 1 (rg Try.f126 1) false) (.block 0 (.loop (.seq (.seq (.region 2 (rg Try.f126 2) false) (.cond (.tmp 7) .skip (.exit 0))) (.seq (.block 1 (.seq (.region 4 (rg Try.f126 4) true) (.cond (.tmp 38) (.seq (.region 5 (rg Try.f126 5) false) .ret) .skip))) (.region 3 (rg Try.f126 3) false)))))) (.seq (.region 6 (rg Try.f126 6) false) .ret)))) (by kernel_rfl) (Nat.le_of_ble_eq_true (by kernel_rfl)) 0 (rs := [.tmp 2]) rfl [] .nil [(false, [.lit (.bool r)])] [] [] fun cx => ?_
  show Tr _ _ _ ⟨42, 0, [(0, .val false [.sl false 5 (CV.frzEs (x0.map Fent.row))])], []⟩ _
  unfold spec_FdbOkF at H
  refine Tr.rs ?_
  refine LAt.runU tOk 1 (by kernel_rfl) ?_
  refine LAt.doneU [2, 0] [] (by kernel_rfl) ?_
  refine Tr.seq ?_
  refine Tr.rs ?_
  refine LAt.runU tOk 1 (by kernel_rfl) ?_
  refine LAt.doneU [3, 2, 0] [] (by kernel_rfl) ?_
  obtain ⟨o2, eo2, Ho2⟩ := bind_some H
  clear H
  refine Tr.mid (ι := Unit) (fun v => ⟨42, 0, [(2, .val false [.lit (.bool false)]), (0, .val false [.sl false 5 (CV.frzEs (x0.map Fent.row))])], []⟩) (fun v => spec_FdbOk_J1 n x0 = some r) ?_ ?_
  · refine Tr.block ?_
    refine Tr.loop (ι := Nat × (Int)) (fun v => ⟨42, 0, [(3, .val false [.lit (.int .i64 v.2)]), (2, .val false [.lit (.bool false)]), (0, .val false [.sl false 5 (CV.frzEs (x0.map Fent.row))])], []⟩) (fun v => spec_FdbOk_L2 n v.1 x0 v.2 = some o2) (fun v => v.1) (n, 0) eo2 (St.sub_of [3, 2, 0] [] (by kernel_rfl)) ?_
    rintro ⟨mo2, y1⟩ H
    have H : spec_FdbOk_L2 n mo2 x0 y1 = some o2 := H
    obtain _ | mo2 := mo2
    · cases (show (none : Option _) = some o2 from H)
    · rw [spec_FdbOk_L2] at H
      refine Tr.seq ?_
      refine Tr.rs ?_
      refine LAt.runU tOk 2 (by kernel_rfl) ?_
      refine LAt.lenE tOk (t := 77) (ty := 3) (e := 147) (x := (.tmp 5)) (d := 6) (g := none) ⟨(.slot 5), [], 0, false, 5, (CV.frzEs (x0.map Fent.row))⟩ (x0).length _ (by kernel_rfl) (by kernel_rfl) (by kernel_rfl) (by kernel_rfl) (by kernel_rfl) (frz_len _ _) rfl ?_
      refine LAt.runU tOk 1 (by kernel_rfl) ?_
      refine LAt.doneU [7, 6, 5, 4, 3, 2, 0] [] (by kernel_rfl) ?_
      refine Tr.to ⟨42, 0, [(7, .val false [.lit (.bool (decide (y1 < (x0.length : Int))))]), (6, .val false [.lit (.int .i64 (x0.length : Int))]), (5, .val false [.sl false 5 (CV.frzEs (x0.map Fent.row))]), (4, .val false [.lit (.int .i64 y1)]), (3, .val false [.lit (.int .i64 y1)]), (2, .val false [.lit (.bool false)]), (0, .val false [.sl false 5 (CV.frzEs (x0.map Fent.row))])], []⟩ (by kernel_rfl) ?_
      cases h1 : (decide (y1 < (x0.length : Int)))
      · have H := bifF h1 H
        refine Tr.cond (b := false) (by kernel_rfl) (fun h => nomatch h) (fun _ => ?_)
        refine Tr.exit ?_
        refine And.intro (fun _ => ?_) (fun h => absurd rfl h)
        have H := Option.some.inj H
        subst H
        have H := Ho2
        dsimp only at H
        exact Exists.intro () (And.intro H (St.sub_of [2, 0] [] (by kernel_rfl)))
      · have H := bifT h1 H
        refine Tr.cond (b := true) (by kernel_rfl) (fun _ => ?_) (fun h => nomatch h)
        refine Tr.skip ?_
        show Tr _ _ _ _ _
        refine Tr.seq ?_
        refine Tr.block ?_
        obtain ⟨v3, ev3, H⟩ := bind_some H
        obtain ⟨r4, er4, H⟩ := bind_some H
        refine Tr.to ⟨42, 0, [(7, .val false [.lit (.bool true)]), (6, .val false [.lit (.int .i64 (x0.length : Int))]), (5, .val false [.sl false 5 (CV.frzEs (x0.map Fent.row))]), (4, .val false [.lit (.int .i64 y1)]), (3, .val false [.lit (.int .i64 y1)]), (2, .val false [.lit (.bool false)]), (0, .val false [.sl false 5 (CV.frzEs (x0.map Fent.row))])], []⟩ (by kernel_rfl) ?_
        cases h2 : (!r4)
        · have H := bifF h2 H
          refine Tr.to ⟨42, 0, [(7, .val false [.lit (.bool true)]), (6, .val false [.lit (.int .i64 (x0.length : Int))]), (5, .val false [.sl false 5 (CV.frzEs (x0.map Fent.row))]), (4, .val false [.lit (.int .i64 y1)]), (3, .val false [.lit (.int .i64 y1)]), (2, .val false [.lit (.bool false)]), (0, .val false [.sl false 5 (CV.frzEs (x0.map Fent.row))])], []⟩ (by kernel_rfl) ?_
          cases h3 : (decide (y1 > 0))
          · have H := bifF h3 H
            refine Tr.draws mixed 29 (by kernel_rfl) ⟨42, 0, [(38, .val false [.lit (.bool false)]), (37, .val false [.lit (.bool false)]), (36, .tup []), (35, .tup []), (34, .tup []), (33, .tup []), (32, .tup []), (31, .tup []), (30, .tup []), (29, .tup []), (28, .tup []), (27, .tup []), (26, .tup []), (25, .tup []), (24, .tup []), (23, .tup []), (22, .tup []), (21, .tup []), (20, .tup []), (19, .val false [.lit (.bool false)]), (18, .val false [.lit (.bool false)]), (17, .val false [.lit (.int .i64 y1)]), (16, .val false [.lit (.bool false)]), (15, .val false [.lit (.bool false)]), (14, .val false [.lit (.bool r4)]), (13, .val true (Fent.row v3)), (12, .fad ((Fent.row v3))), (11, .val false [.lit (.int .i64 y1)]), (10, .val false [.sl false 5 (CV.frzEs (x0.map Fent.row))]), (7, .val false [.lit (.bool true)]), (6, .val false [.lit (.int .i64 (x0.length : Int))]), (5, .val false [.sl false 5 (CV.frzEs (x0.map Fent.row))]), (4, .val false [.lit (.int .i64 y1)]), (3, .val false [.lit (.int .i64 y1)]), (2, .val false [.lit (.bool false)]), (0, .val false [.sl false 5 (CV.frzEs (x0.map Fent.row))])], []⟩ (fun cx => ?_) ?_
            · refine AT.runU tOk [(0, []), (1, [])] 27 [] [1, 0] rfl (by kernel_rfl) (fun cx => ?_)
              refine AT.indexF tOk 2 (t := 77) (ty := 0) (x := (.tmp 10)) (y := (.tmp 11)) (d := 12) (g := none) ⟨(.slot 10), [], 0, false, 5, (CV.frzEs (x0.map Fent.row))⟩ y1 (Fent.row v3) _ (by kernel_rfl) (by kernel_rfl) (by kernel_rfl) (by kernel_rfl) (by kernel_rfl) (by kernel_rfl) rfl (idx_isF ev3) rfl (fun cx => ?_)
              refine AT.runU tOk [(3, [])] 25 [] [3, 2, 1, 0] rfl (by kernel_rfl) (fun cx => ?_)
              refine AT.big1 tOk 4 (by kernel_rfl) (by kernel_rfl) ?_
              refine LAt.callU tOk [.rd] (f := 156) (av := #[.tmp 13]) (ats := #[147]) (d := (some 14)) (ty := 4) (g := none) (by kernel_rfl) (by kernel_rfl) (by kernel_rfl) [] (spec_l8Ent n v3 r4 er4) (by kernel_rfl) (.inl rfl) ?_
              refine LAt.fin (by kernel_rfl) (And.intro (And.intro (by kernel_rfl) (by kernel_rfl)) ?_)
              refine AT.runU tOk [(5, []), (6, [])] 22 [] [6, 5, 4, 3, 2, 1, 0] rfl (by kernel_rfl) (fun cx => ?_)
              refine AT.to ⟨42, 0, [(16, .val false [.lit (.bool (!r4))]), (15, .val false [.lit (.bool (!r4))]), (14, .val false [.lit (.bool r4)]), (13, .val true (Fent.row v3)), (12, .fad ((Fent.row v3))), (11, .val false [.lit (.int .i64 y1)]), (10, .val false [.sl false 5 (CV.frzEs (x0.map Fent.row))]), (7, .val false [.lit (.bool true)]), (6, .val false [.lit (.int .i64 (x0.length : Int))]), (5, .val false [.sl false 5 (CV.frzEs (x0.map Fent.row))]), (4, .val false [.lit (.int .i64 y1)]), (3, .val false [.lit (.int .i64 y1)]), (2, .val false [.lit (.bool false)]), (0, .val false [.sl false 5 (CV.frzEs (x0.map Fent.row))])], []⟩ (by kernel_rfl) ?_
              rw [h2]
              refine AT.runU tOk [(7, []), (8, []), (9, [])] 19 [] [9, 8, 7, 6, 5, 4, 3, 2, 1, 0] rfl (by kernel_rfl) (fun cx => ?_)
              refine AT.to ⟨42, 0, [(19, .val false [.lit (.bool (decide (y1 > 0)))]), (18, .val false [.lit (.bool (decide (y1 > 0)))]), (17, .val false [.lit (.int .i64 y1)]), (16, .val false [.lit (.bool false)]), (15, .val false [.lit (.bool false)]), (14, .val false [.lit (.bool r4)]), (13, .val true (Fent.row v3)), (12, .fad ((Fent.row v3))), (11, .val false [.lit (.int .i64 y1)]), (10, .val false [.sl false 5 (CV.frzEs (x0.map Fent.row))]), (7, .val false [.lit (.bool true)]), (6, .val false [.lit (.int .i64 (x0.length : Int))]), (5, .val false [.sl false 5 (CV.frzEs (x0.map Fent.row))]), (4, .val false [.lit (.int .i64 y1)]), (3, .val false [.lit (.int .i64 y1)]), (2, .val false [.lit (.bool false)]), (0, .val false [.sl false 5 (CV.frzEs (x0.map Fent.row))])], []⟩ (by kernel_rfl) ?_
              rw [h3]
              refine AT.runU tOk [(10, []), (11, []), (12, []), (13, []), (14, []), (15, []), (16, []), (17, []), (18, []), (19, []), (20, []), (21, []), (22, []), (23, []), (24, []), (25, []), (26, []), (27, []), (28, [])] 0 [] [28, 27, 26, 25, 24, 23, 22, 21, 20, 19, 18, 17, 16, 15, 14, 13, 12, 11, 10, 9, 8, 7, 6, 5, 4, 3, 2, 1, 0] rfl (by kernel_rfl) (fun cx => ?_)
              exact AT.done [38, 37, 36, 35, 34, 33, 32, 31, 30, 29, 28, 27, 26, 25, 24, 23, 22, 21, 20, 19, 18, 17, 16, 15, 14, 13, 12, 11, 10, 7, 6, 5, 4, 3, 2, 0] [] _ (by kernel_rfl) (by kernel_rfl) rfl
            · refine Tr.cond (b := false) (by kernel_rfl) (fun h => nomatch h) (fun _ => ?_)
              refine Tr.skip ?_
              show Tr _ _ _ _ _
              refine Tr.at ?_
              refine LAt.runU tOk 3 (by kernel_rfl) ?_
              refine LAt.doneU [3, 9, 8, 38, 37, 36, 35, 34, 33, 32, 31, 30, 29, 28, 27, 26, 25, 24, 23, 22, 21, 20, 19, 18, 17, 16, 15, 14, 13, 12, 11, 10, 7, 6, 5, 4, 2, 0] [] (by kernel_rfl) ?_
              exact Exists.intro (mo2, (IntKind.wrap .i64 (y1 + 1))) (And.intro H (And.intro (Nat.lt_succ_self mo2) (St.sub_of [3, 2, 0] [] (by kernel_rfl))))
          · have H := bifT h3 H
            obtain ⟨v5, ev5, H⟩ := bind_some H
            obtain ⟨v6, ev6, H⟩ := bind_some H
            obtain ⟨v7, ev7, H⟩ := bind_some H
            obtain ⟨r8, er8, H⟩ := bind_some H
            refine Tr.draws mixed 29 (by kernel_rfl) ⟨42, 0, [(38, .val false [.lit (.bool (!r8))]), (37, .val false [.lit (.bool (!r8))]), (36, .val false [.lit (.bool (!r8))]), (35, .val false [.lit (.bool r8)]), (34, .val false [.lit (.int .i64 v7.Mac)]), (33, .fad (((Fent.row v7).drop 1))), (32, .fad ((Fent.row v7))), (31, .val false [.lit (.int .i64 y1)]), (30, .val false [.sl false 5 (CV.frzEs (x0.map Fent.row))]), (29, .val false [.lit (.int .i64 v6.Tag)]), (28, .fad ((Fent.row v6))), (27, .fad ((Fent.row v6))), (26, .val false [.lit (.int .i64 y1)]), (25, .val false [.sl false 5 (CV.frzEs (x0.map Fent.row))]), (24, .val true (Fent.row v5)), (23, .fad ((Fent.row v5))), (22, .val false [.lit (.int .i64 (IntKind.wrap .i64 (y1 - 1)))]), (21, .val false [.lit (.int .i64 y1)]), (20, .val false [.sl false 5 (CV.frzEs (x0.map Fent.row))]), (19, .val false [.lit (.bool true)]), (18, .val false [.lit (.bool true)]), (17, .val false [.lit (.int .i64 y1)]), (16, .val false [.lit (.bool false)]), (15, .val false [.lit (.bool false)]), (14, .val false [.lit (.bool r4)]), (13, .val true (Fent.row v3)), (12, .fad ((Fent.row v3))), (11, .val false [.lit (.int .i64 y1)]), (10, .val false [.sl false 5 (CV.frzEs (x0.map Fent.row))]), (7, .val false [.lit (.bool true)]), (6, .val false [.lit (.int .i64 (x0.length : Int))]), (5, .val false [.sl false 5 (CV.frzEs (x0.map Fent.row))]), (4, .val false [.lit (.int .i64 y1)]), (3, .val false [.lit (.int .i64 y1)]), (2, .val false [.lit (.bool false)]), (0, .val false [.sl false 5 (CV.frzEs (x0.map Fent.row))])], []⟩ (fun cx => ?_) ?_
            · refine AT.runU tOk [(0, []), (1, [])] 27 [] [1, 0] rfl (by kernel_rfl) (fun cx => ?_)
              refine AT.indexF tOk 2 (t := 77) (ty := 0) (x := (.tmp 10)) (y := (.tmp 11)) (d := 12) (g := none) ⟨(.slot 10), [], 0, false, 5, (CV.frzEs (x0.map Fent.row))⟩ y1 (Fent.row v3) _ (by kernel_rfl) (by kernel_rfl) (by kernel_rfl) (by kernel_rfl) (by kernel_rfl) (by kernel_rfl) rfl (idx_isF ev3) rfl (fun cx => ?_)
              refine AT.runU tOk [(3, [])] 25 [] [3, 2, 1, 0] rfl (by kernel_rfl) (fun cx => ?_)
              refine AT.big1 tOk 4 (by kernel_rfl) (by kernel_rfl) ?_
              refine LAt.callU tOk [.rd] (f := 156) (av := #[.tmp 13]) (ats := #[147]) (d := (some 14)) (ty := 4) (g := none) (by kernel_rfl) (by kernel_rfl) (by kernel_rfl) [] (spec_l8Ent n v3 r4 er4) (by kernel_rfl) (.inl rfl) ?_
              refine LAt.fin (by kernel_rfl) (And.intro (And.intro (by kernel_rfl) (by kernel_rfl)) ?_)
              refine AT.runU tOk [(5, []), (6, [])] 22 [] [6, 5, 4, 3, 2, 1, 0] rfl (by kernel_rfl) (fun cx => ?_)
              refine AT.to ⟨42, 0, [(16, .val false [.lit (.bool (!r4))]), (15, .val false [.lit (.bool (!r4))]), (14, .val false [.lit (.bool r4)]), (13, .val true (Fent.row v3)), (12, .fad ((Fent.row v3))), (11, .val false [.lit (.int .i64 y1)]), (10, .val false [.sl false 5 (CV.frzEs (x0.map Fent.row))]), (7, .val false [.lit (.bool true)]), (6, .val false [.lit (.int .i64 (x0.length : Int))]), (5, .val false [.sl false 5 (CV.frzEs (x0.map Fent.row))]), (4, .val false [.lit (.int .i64 y1)]), (3, .val false [.lit (.int .i64 y1)]), (2, .val false [.lit (.bool false)]), (0, .val false [.sl false 5 (CV.frzEs (x0.map Fent.row))])], []⟩ (by kernel_rfl) ?_
              rw [h2]
              refine AT.runU tOk [(7, []), (8, []), (9, [])] 19 [] [9, 8, 7, 6, 5, 4, 3, 2, 1, 0] rfl (by kernel_rfl) (fun cx => ?_)
              refine AT.to ⟨42, 0, [(19, .val false [.lit (.bool (decide (y1 > 0)))]), (18, .val false [.lit (.bool (decide (y1 > 0)))]), (17, .val false [.lit (.int .i64 y1)]), (16, .val false [.lit (.bool false)]), (15, .val false [.lit (.bool false)]), (14, .val false [.lit (.bool r4)]), (13, .val true (Fent.row v3)), (12, .fad ((Fent.row v3))), (11, .val false [.lit (.int .i64 y1)]), (10, .val false [.sl false 5 (CV.frzEs (x0.map Fent.row))]), (7, .val false [.lit (.bool true)]), (6, .val false [.lit (.int .i64 (x0.length : Int))]), (5, .val false [.sl false 5 (CV.frzEs (x0.map Fent.row))]), (4, .val false [.lit (.int .i64 y1)]), (3, .val false [.lit (.int .i64 y1)]), (2, .val false [.lit (.bool false)]), (0, .val false [.sl false 5 (CV.frzEs (x0.map Fent.row))])], []⟩ (by kernel_rfl) ?_
              rw [h3]
              refine AT.runU tOk [(10, []), (11, []), (12, [])] 16 [] [12, 11, 10, 9, 8, 7, 6, 5, 4, 3, 2, 1, 0] rfl (by kernel_rfl) (fun cx => ?_)
              refine AT.indexF tOk 13 (t := 77) (ty := 0) (x := (.tmp 20)) (y := (.tmp 22)) (d := 23) (g := (some (9, true))) ⟨(.slot 20), [], 0, false, 5, (CV.frzEs (x0.map Fent.row))⟩ (IntKind.wrap .i64 (y1 - 1)) (Fent.row v5) _ (by kernel_rfl) (by kernel_rfl) (by kernel_rfl) (by kernel_rfl) (by kernel_rfl) (by kernel_rfl) rfl (idx_isF ev5) rfl (fun cx => ?_)
              refine AT.runU tOk [(14, []), (15, []), (16, [])] 12 [] [16, 15, 14, 13, 12, 11, 10, 9, 8, 7, 6, 5, 4, 3, 2, 1, 0] rfl (by kernel_rfl) (fun cx => ?_)
              refine AT.indexF tOk 17 (t := 77) (ty := 0) (x := (.tmp 25)) (y := (.tmp 26)) (d := 27) (g := (some (9, true))) ⟨(.slot 25), [], 0, false, 5, (CV.frzEs (x0.map Fent.row))⟩ y1 (Fent.row v6) _ (by kernel_rfl) (by kernel_rfl) (by kernel_rfl) (by kernel_rfl) (by kernel_rfl) (by kernel_rfl) rfl (idx_isF ev6) rfl (fun cx => ?_)
              refine AT.runU tOk [(18, []), (19, []), (20, []), (21, [])] 7 [] [21, 20, 19, 18, 17, 16, 15, 14, 13, 12, 11, 10, 9, 8, 7, 6, 5, 4, 3, 2, 1, 0] rfl (by kernel_rfl) (fun cx => ?_)
              refine AT.indexF tOk 22 (t := 77) (ty := 0) (x := (.tmp 30)) (y := (.tmp 31)) (d := 32) (g := (some (9, true))) ⟨(.slot 30), [], 0, false, 5, (CV.frzEs (x0.map Fent.row))⟩ y1 (Fent.row v7) _ (by kernel_rfl) (by kernel_rfl) (by kernel_rfl) (by kernel_rfl) (by kernel_rfl) (by kernel_rfl) rfl (idx_isF ev7) rfl (fun cx => ?_)
              refine AT.runU tOk [(23, []), (24, [])] 4 [] [24, 23, 22, 21, 20, 19, 18, 17, 16, 15, 14, 13, 12, 11, 10, 9, 8, 7, 6, 5, 4, 3, 2, 1, 0] rfl (by kernel_rfl) (fun cx => ?_)
              refine AT.big1 tOk 25 (by kernel_rfl) (by kernel_rfl) ?_
              refine LAt.callU tOk [.rd, .rd, .rd] (f := 157) (av := #[.tmp 24, .tmp 29, .tmp 34]) (ats := #[147, 3, 3]) (d := (some 35)) (ty := 4) (g := (some (9, true))) (by kernel_rfl) (by kernel_rfl) (by kernel_rfl) [] (spec_l8Ahead n v5 v6.Tag v7.Mac r8 er8) (by kernel_rfl) (.inl rfl) ?_
              refine LAt.fin (by kernel_rfl) (And.intro (And.intro (by kernel_rfl) (by kernel_rfl)) ?_)
              refine AT.runU tOk [(26, []), (27, []), (28, [])] 0 [] [28, 27, 26, 25, 24, 23, 22, 21, 20, 19, 18, 17, 16, 15, 14, 13, 12, 11, 10, 9, 8, 7, 6, 5, 4, 3, 2, 1, 0] rfl (by kernel_rfl) (fun cx => ?_)
              exact AT.done [38, 37, 36, 35, 34, 33, 32, 31, 30, 29, 28, 27, 26, 25, 24, 23, 22, 21, 20, 19, 18, 17, 16, 15, 14, 13, 12, 11, 10, 7, 6, 5, 4, 3, 2, 0] [] _ (by kernel_rfl) (by kernel_rfl) rfl
            · refine Tr.to ⟨42, 0, [(38, .val false [.lit (.bool (!r8))]), (37, .val false [.lit (.bool (!r8))]), (36, .val false [.lit (.bool (!r8))]), (35, .val false [.lit (.bool r8)]), (34, .val false [.lit (.int .i64 v7.Mac)]), (33, .fad (((Fent.row v7).drop 1))), (32, .fad ((Fent.row v7))), (31, .val false [.lit (.int .i64 y1)]), (30, .val false [.sl false 5 (CV.frzEs (x0.map Fent.row))]), (29, .val false [.lit (.int .i64 v6.Tag)]), (28, .fad ((Fent.row v6))), (27, .fad ((Fent.row v6))), (26, .val false [.lit (.int .i64 y1)]), (25, .val false [.sl false 5 (CV.frzEs (x0.map Fent.row))]), (24, .val true (Fent.row v5)), (23, .fad ((Fent.row v5))), (22, .val false [.lit (.int .i64 (IntKind.wrap .i64 (y1 - 1)))]), (21, .val false [.lit (.int .i64 y1)]), (20, .val false [.sl false 5 (CV.frzEs (x0.map Fent.row))]), (19, .val false [.lit (.bool true)]), (18, .val false [.lit (.bool true)]), (17, .val false [.lit (.int .i64 y1)]), (16, .val false [.lit (.bool false)]), (15, .val false [.lit (.bool false)]), (14, .val false [.lit (.bool r4)]), (13, .val true (Fent.row v3)), (12, .fad ((Fent.row v3))), (11, .val false [.lit (.int .i64 y1)]), (10, .val false [.sl false 5 (CV.frzEs (x0.map Fent.row))]), (7, .val false [.lit (.bool true)]), (6, .val false [.lit (.int .i64 (x0.length : Int))]), (5, .val false [.sl false 5 (CV.frzEs (x0.map Fent.row))]), (4, .val false [.lit (.int .i64 y1)]), (3, .val false [.lit (.int .i64 y1)]), (2, .val false [.lit (.bool false)]), (0, .val false [.sl false 5 (CV.frzEs (x0.map Fent.row))])], []⟩ (by kernel_rfl) ?_
              cases h4 : (!r8)
              · have H := bifF h4 H
                refine Tr.cond (b := false) (by kernel_rfl) (fun h => nomatch h) (fun _ => ?_)
                refine Tr.skip ?_
                show Tr _ _ _ _ _
                refine Tr.at ?_
                refine LAt.runU tOk 3 (by kernel_rfl) ?_
                refine LAt.doneU [3, 9, 8, 38, 37, 36, 35, 34, 33, 32, 31, 30, 29, 28, 27, 26, 25, 24, 23, 22, 21, 20, 19, 18, 17, 16, 15, 14, 13, 12, 11, 10, 7, 6, 5, 4, 2, 0] [] (by kernel_rfl) ?_
                exact Exists.intro (mo2, (IntKind.wrap .i64 (y1 + 1))) (And.intro H (And.intro (Nat.lt_succ_self mo2) (St.sub_of [3, 2, 0] [] (by kernel_rfl))))
              · have H := bifT h4 H
                refine Tr.cond (b := true) (by kernel_rfl) (fun _ => ?_) (fun h => nomatch h)
                refine Tr.rs ?_
                refine LAt.runU tOk 1 (by kernel_rfl) ?_
                refine LAt.doneU [2, 38, 37, 36, 35, 34, 33, 32, 31, 30, 29, 28, 27, 26, 25, 24, 23, 22, 21, 20, 19, 18, 17, 16, 15, 14, 13, 12, 11, 10, 7, 6, 5, 4, 3, 0] [] (by kernel_rfl) ?_
                refine Tr.ret ?_
                have H := Option.some.inj H
                subst H
                have H := Ho2
                dsimp only at H
                have H := Option.some.inj H
                subst H
                exact Fin.of _ [(false, [.lit (.bool false)])] (by kernel_rfl) rfl rfl
        · have H := bifT h2 H
          refine Tr.draws mixed 29 (by kernel_rfl) ⟨42, 0, [(38, .val false [.lit (.bool true)]), (37, .tup []), (36, .tup []), (35, .tup []), (34, .tup []), (33, .tup []), (32, .tup []), (31, .tup []), (30, .tup []), (29, .tup []), (28, .tup []), (27, .tup []), (26, .tup []), (25, .tup []), (24, .tup []), (23, .tup []), (22, .tup []), (21, .tup []), (20, .tup []), (19, .tup []), (18, .tup []), (17, .tup []), (16, .val false [.lit (.bool true)]), (15, .val false [.lit (.bool true)]), (14, .val false [.lit (.bool r4)]), (13, .val true (Fent.row v3)), (12, .fad ((Fent.row v3))), (11, .val false [.lit (.int .i64 y1)]), (10, .val false [.sl false 5 (CV.frzEs (x0.map Fent.row))]), (7, .val false [.lit (.bool true)]), (6, .val false [.lit (.int .i64 (x0.length : Int))]), (5, .val false [.sl false 5 (CV.frzEs (x0.map Fent.row))]), (4, .val false [.lit (.int .i64 y1)]), (3, .val false [.lit (.int .i64 y1)]), (2, .val false [.lit (.bool false)]), (0, .val false [.sl false 5 (CV.frzEs (x0.map Fent.row))])], []⟩ (fun cx => ?_) ?_
          · refine AT.runU tOk [(0, []), (1, [])] 27 [] [1, 0] rfl (by kernel_rfl) (fun cx => ?_)
            refine AT.indexF tOk 2 (t := 77) (ty := 0) (x := (.tmp 10)) (y := (.tmp 11)) (d := 12) (g := none) ⟨(.slot 10), [], 0, false, 5, (CV.frzEs (x0.map Fent.row))⟩ y1 (Fent.row v3) _ (by kernel_rfl) (by kernel_rfl) (by kernel_rfl) (by kernel_rfl) (by kernel_rfl) (by kernel_rfl) rfl (idx_isF ev3) rfl (fun cx => ?_)
            refine AT.runU tOk [(3, [])] 25 [] [3, 2, 1, 0] rfl (by kernel_rfl) (fun cx => ?_)
            refine AT.big1 tOk 4 (by kernel_rfl) (by kernel_rfl) ?_
            refine LAt.callU tOk [.rd] (f := 156) (av := #[.tmp 13]) (ats := #[147]) (d := (some 14)) (ty := 4) (g := none) (by kernel_rfl) (by kernel_rfl) (by kernel_rfl) [] (spec_l8Ent n v3 r4 er4) (by kernel_rfl) (.inl rfl) ?_
            refine LAt.fin (by kernel_rfl) (And.intro (And.intro (by kernel_rfl) (by kernel_rfl)) ?_)
            refine AT.runU tOk [(5, []), (6, [])] 22 [] [6, 5, 4, 3, 2, 1, 0] rfl (by kernel_rfl) (fun cx => ?_)
            refine AT.to ⟨42, 0, [(16, .val false [.lit (.bool (!r4))]), (15, .val false [.lit (.bool (!r4))]), (14, .val false [.lit (.bool r4)]), (13, .val true (Fent.row v3)), (12, .fad ((Fent.row v3))), (11, .val false [.lit (.int .i64 y1)]), (10, .val false [.sl false 5 (CV.frzEs (x0.map Fent.row))]), (7, .val false [.lit (.bool true)]), (6, .val false [.lit (.int .i64 (x0.length : Int))]), (5, .val false [.sl false 5 (CV.frzEs (x0.map Fent.row))]), (4, .val false [.lit (.int .i64 y1)]), (3, .val false [.lit (.int .i64 y1)]), (2, .val false [.lit (.bool false)]), (0, .val false [.sl false 5 (CV.frzEs (x0.map Fent.row))])], []⟩ (by kernel_rfl) ?_
            rw [h2]
            refine AT.runU tOk [(7, []), (8, []), (9, []), (10, []), (11, []), (12, []), (13, []), (14, []), (15, []), (16, []), (17, []), (18, []), (19, []), (20, []), (21, []), (22, []), (23, []), (24, []), (25, []), (26, []), (27, []), (28, [])] 0 [] [28, 27, 26, 25, 24, 23, 22, 21, 20, 19, 18, 17, 16, 15, 14, 13, 12, 11, 10, 9, 8, 7, 6, 5, 4, 3, 2, 1, 0] rfl (by kernel_rfl) (fun cx => ?_)
            exact AT.done [38, 37, 36, 35, 34, 33, 32, 31, 30, 29, 28, 27, 26, 25, 24, 23, 22, 21, 20, 19, 18, 17, 16, 15, 14, 13, 12, 11, 10, 7, 6, 5, 4, 3, 2, 0] [] _ (by kernel_rfl) (by kernel_rfl) rfl
          · refine Tr.cond (b := true) (by kernel_rfl) (fun _ => ?_) (fun h => nomatch h)
            refine Tr.rs ?_
            refine LAt.runU tOk 1 (by kernel_rfl) ?_
            refine LAt.doneU [2, 38, 37, 36, 35, 34, 33, 32, 31, 30, 29, 28, 27, 26, 25, 24, 23, 22, 21, 20, 19, 18, 17, 16, 15, 14, 13, 12, 11, 10, 7, 6, 5, 4, 3, 0] [] (by kernel_rfl) ?_
            refine Tr.ret ?_
            have H := Option.some.inj H
            subst H
            have H := Ho2
            dsimp only at H
            have H := Option.some.inj H
            subst H
            exact Fin.of _ [(false, [.lit (.bool false)])] (by kernel_rfl) rfl rfl
  · rintro _ H
    have H : (spec_FdbOk_J1 n x0) = some r := H
    unfold spec_FdbOk_J1 at H
    show Tr _ _ _ _ _
    refine Tr.rs ?_
    refine LAt.runU tOk 1 (by kernel_rfl) ?_
    refine LAt.lenE tOk (t := 77) (ty := 3) (e := 147) (x := (.tmp 39)) (d := 40) (g := none) ⟨(.slot 39), [], 0, false, 5, (CV.frzEs (x0.map Fent.row))⟩ (x0).length _ (by kernel_rfl) (by kernel_rfl) (by kernel_rfl) (by kernel_rfl) (by kernel_rfl) (frz_len _ _) rfl ?_
    refine LAt.runU tOk 2 (by kernel_rfl) ?_
    refine LAt.doneU [2] [] (by kernel_rfl) ?_
    refine Tr.ret ?_
    have H := Option.some.inj H
    subst H
    exact Fin.of _ [(false, [.lit (.bool (decide ((x0.length : Int) ≤ 12)))])] (by kernel_rfl) rfl rfl

def spec_RowAt_J1 (n : Nat) : Option (Int) :=
  (some (-1))
def spec_RowAt_L2 (n : Nat) : Nat → Vtab → Int → Int → Option ((Unit) ⊕ (Int))
  | 0, _, _, _ => none
  | mo2 + 1, x0, x1, y1 => (bif (decide (y1 < (x0.Rows.length : Int))) then ((idx x0.Rows y1).bind fun v3 => (bif (v3.Id == x1) then (some (Sum.inr y1)) else (spec_RowAt_L2 n mo2 x0 x1 (IntKind.wrap .i64 (y1 + 1))))) else (some (Sum.inl ())))
def spec_RowAtF (n : Nat) (x0 : Vtab) (x1 : Int) : Option (Int) :=
  ((spec_RowAt_L2 n n x0 x1 0).bind fun o => match o with | .inl _ => (spec_RowAt_J1 n) | .inr r => some r)
/-- loop.example/g00326/spec.RowAt -/
theorem spec_RowAt (n : Nat) (x0 : Vtab) (x1 : Int) (r : Int) (H : spec_RowAtF n x0 x1 = some r) : LCall Try.prog 102 [.val true (CV.frzRow (Vtab.row x0)), .val false [.lit (.int .i64 x1)]] [.val false [.lit (.int .i64 r)]] [] := by
  refine LCall.of_body tOk Try.func102 rfl (c := (.seq (.region 0 (rg Try.f102 0) false) (.seq (.seq (.region 1 (rg Try.f102 1) false) (.block 0 (.loop (.seq (.seq (.region 2 (rg Try.f102 2) false) (.cond (.tmp 10) .skip (.exit 0))) (.seq (.block 1 (.seq (.region 4 (rg Try.f102 4) false) (.cond (.tmp 20) (.seq (.region 5 (rg Try.f102 5) false) .ret) .skip))) (.region 3 (rg Try.f102 3) false)))))) (.seq (.region 6 (rg Try.f102 6) false) .ret)))) (by kernel_rfl) (Nat.le_of_ble_eq_true (by kernel_rfl)) 0 (rs := [.tmp 4]) rfl [] .nil [(false, [.lit (.int .i64 r)])] [] [] fun cx => ?_
  show Tr _ _ _ ⟨22, 0, [(0, .val true (CV.frzRow (Vtab.row x0))), (1, .val false [.lit (.int .i64 x1)])], []⟩ _
  unfold spec_RowAtF at H
  refine Tr.rs ?_
  refine LAt.runU tOk 2 (by kernel_rfl) ?_
  refine LAt.doneU [4, 2, 1] [2] (by kernel_rfl) ?_
  refine Tr.seq ?_
  refine Tr.rs ?_
  refine LAt.runU tOk 1 (by kernel_rfl) ?_
  refine LAt.doneU [5, 4, 2, 1] [2] (by kernel_rfl) ?_
  obtain ⟨o2, eo2, Ho2⟩ := bind_some H
  clear H
  refine Tr.mid (ι := Unit) (fun v => ⟨22, 0, [(4, .val false [.lit (.int .i64 0)])], []⟩) (fun v => spec_RowAt_J1 n = some r) ?_ ?_
  · refine Tr.block ?_
    refine Tr.loop (ι := Nat × (Int)) (fun v => ⟨22, 0, [(5, .val false [.lit (.int .i64 v.2)]), (4, .val false [.lit (.int .i64 0)]), (2, .adr (.box 2) [(0, 0)] 2 0), (1, .val false [.lit (.int .i64 x1)])], [(2, (CV.frzRow (Vtab.row x0)))]⟩) (fun v => spec_RowAt_L2 n v.1 x0 x1 v.2 = some o2) (fun v => v.1) (n, 0) eo2 (St.sub_of [5, 4, 2, 1] [2] (by kernel_rfl)) ?_
    rintro ⟨mo2, y1⟩ H
    have H : spec_RowAt_L2 n mo2 x0 x1 y1 = some o2 := H
    obtain _ | mo2 := mo2
    · cases (show (none : Option _) = some o2 from H)
    · rw [spec_RowAt_L2] at H
      refine Tr.seq ?_
      refine Tr.rs ?_
      refine LAt.runU tOk 3 (by kernel_rfl) ?_
      refine LAt.lenE tOk (t := 27) (ty := 3) (e := 56) (x := (.tmp 8)) (d := 9) (g := none) ⟨(.slot 8), [], 0, false, 3, (CV.frzEs (x0.Rows.map Vrow.row))⟩ (x0.Rows).length _ (by kernel_rfl) (by kernel_rfl) (by kernel_rfl) (by kernel_rfl) (by kernel_rfl) (frz_len _ _) rfl ?_
      refine LAt.runU tOk 1 (by kernel_rfl) ?_
      refine LAt.doneU [10, 9, 8, 7, 6, 5, 4, 2, 1] [2] (by kernel_rfl) ?_
      refine Tr.to ⟨22, 0, [(10, .val false [.lit (.bool (decide (y1 < (x0.Rows.length : Int))))]), (9, .val false [.lit (.int .i64 (x0.Rows.length : Int))]), (8, .val false [.sl false 3 (CV.frzEs (x0.Rows.map Vrow.row))]), (7, .adr (.box 2) [(0, 0)] 2 0), (6, .val false [.lit (.int .i64 y1)]), (5, .val false [.lit (.int .i64 y1)]), (4, .val false [.lit (.int .i64 0)]), (2, .adr (.box 2) [(0, 0)] 2 0), (1, .val false [.lit (.int .i64 x1)])], [(2, (CV.frzRow (Vtab.row x0)))]⟩ (by kernel_rfl) ?_
      cases h1 : (decide (y1 < (x0.Rows.length : Int)))
      · have H := bifF h1 H
        refine Tr.cond (b := false) (by kernel_rfl) (fun h => nomatch h) (fun _ => ?_)
        refine Tr.exit ?_
        refine And.intro (fun _ => ?_) (fun h => absurd rfl h)
        have H := Option.some.inj H
        subst H
        have H := Ho2
        dsimp only at H
        exact Exists.intro () (And.intro H (St.sub_of [4] [] (by kernel_rfl)))
      · have H := bifT h1 H
        refine Tr.cond (b := true) (by kernel_rfl) (fun _ => ?_) (fun h => nomatch h)
        refine Tr.skip ?_
        show Tr _ _ _ _ _
        refine Tr.seq ?_
        refine Tr.block ?_
        refine Tr.rs ?_
        refine LAt.runU tOk 3 (by kernel_rfl) ?_
        obtain ⟨v3, ev3, H⟩ := bind_some H
        refine LAt.indexF tOk (t := 27) (ty := 0) (x := (.tmp 14)) (y := (.tmp 15)) (d := 16) (g := none) ⟨(.slot 14), [], 0, false, 3, (CV.frzEs (x0.Rows.map Vrow.row))⟩ y1 (Vrow.row v3) _ (by kernel_rfl) (by kernel_rfl) (by kernel_rfl) (by kernel_rfl) rfl (idx_isF ev3) rfl ?_
        refine LAt.runU tOk 4 (by kernel_rfl) ?_
        refine LAt.doneU [20, 19, 18, 17, 16, 15, 14, 13, 10, 9, 8, 7, 6, 5, 4, 2, 1] [2] (by kernel_rfl) ?_
        refine Tr.to ⟨22, 0, [(20, .val false [.lit (.bool (v3.Id == x1))]), (19, .val false [.lit (.int .i64 x1)]), (18, .val false [.lit (.int .i64 v3.Id)]), (17, .fad ((Vrow.row v3))), (16, .fad ((Vrow.row v3))), (15, .val false [.lit (.int .i64 y1)]), (14, .val false [.sl false 3 (CV.frzEs (x0.Rows.map Vrow.row))]), (13, .adr (.box 2) [(0, 0)] 2 0), (10, .val false [.lit (.bool true)]), (9, .val false [.lit (.int .i64 (x0.Rows.length : Int))]), (8, .val false [.sl false 3 (CV.frzEs (x0.Rows.map Vrow.row))]), (7, .adr (.box 2) [(0, 0)] 2 0), (6, .val false [.lit (.int .i64 y1)]), (5, .val false [.lit (.int .i64 y1)]), (4, .val false [.lit (.int .i64 0)]), (2, .adr (.box 2) [(0, 0)] 2 0), (1, .val false [.lit (.int .i64 x1)])], [(2, (CV.frzRow (Vtab.row x0)))]⟩ (by kernel_rfl) ?_
        cases h2 : (v3.Id == x1)
        · have H := bifF h2 H
          refine Tr.cond (b := false) (by kernel_rfl) (fun h => nomatch h) (fun _ => ?_)
          refine Tr.skip ?_
          show Tr _ _ _ _ _
          refine Tr.at ?_
          refine LAt.runU tOk 3 (by kernel_rfl) ?_
          refine LAt.doneU [5, 12, 11, 20, 19, 18, 17, 16, 15, 14, 13, 10, 9, 8, 7, 6, 4, 2, 1] [2] (by kernel_rfl) ?_
          exact Exists.intro (mo2, (IntKind.wrap .i64 (y1 + 1))) (And.intro H (And.intro (Nat.lt_succ_self mo2) (St.sub_of [5, 4, 2, 1] [2] (by kernel_rfl))))
        · have H := bifT h2 H
          refine Tr.cond (b := true) (by kernel_rfl) (fun _ => ?_) (fun h => nomatch h)
          refine Tr.rs ?_
          refine LAt.runU tOk 2 (by kernel_rfl) ?_
          refine LAt.doneU [4, 21, 20, 19, 18, 17, 16, 15, 14, 13, 10, 9, 8, 7, 6, 5, 2, 1] [2] (by kernel_rfl) ?_
          refine Tr.ret ?_
          have H := Option.some.inj H
          subst H
          have H := Ho2
          dsimp only at H
          have H := Option.some.inj H
          subst H
          exact Fin.of _ [(false, [.lit (.int .i64 y1)])] (by kernel_rfl) rfl rfl
  · rintro _ H
    have H : (spec_RowAt_J1 n) = some r := H
    unfold spec_RowAt_J1 at H
    show Tr _ _ _ _ _
    refine Tr.rs ?_
    refine LAt.runU tOk 1 (by kernel_rfl) ?_
    refine LAt.doneU [4] [] (by kernel_rfl) ?_
    refine Tr.ret ?_
    have H := Option.some.inj H
    subst H
    exact Fin.of _ [(false, [.lit (.int .i64 (-1))])] (by kernel_rfl) rfl rfl
end Go.Proofs.Ytgpcfaiacggoiaa.Tw
