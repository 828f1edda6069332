/- Functions of the program, over trees. -/
import Derived.Test.YtgpcfaiacggoiaaProg
import Derived.Test.YtgpcfaiacggoiaaTlRule
import Derived.Test.YtgpcfaiacggoiaaTlU3
import Derived.WalkKit
set_option linter.unusedVariables false
set_option linter.unusedSimpArgs false
set_option maxRecDepth 100000
namespace Go.Proofs.Ytgpcfaiacggoiaa.Tw
open Go Go.TL Go.Proofs
def tab : List (Nat × TI) := [(2, ⟨.int .i64, 1, 8, [.lit (.int .i64 0)]⟩),
  (3, ⟨.int .i64, 1, 8, [.lit (.int .i64 0)]⟩),
  (4, ⟨.bool, 1, 1, [.lit (.bool false)]⟩),
  (5, ⟨.int .u8, 1, 1, [.lit (.int .u8 0)]⟩),
  (6, ⟨.int .u8, 1, 1, [.lit (.int .u8 0)]⟩),
  (7, ⟨.st [(0, 1, 2), (1, 1, 3), (2, 1, 4), (3, 1, 6)], 4, 24, [.lit (.int .i64 0), .lit (.int .i64 0), .lit (.bool false), .lit (.int .u8 0)]⟩),
  (8, ⟨.st [(0, 1, 2), (1, 1, 3), (2, 1, 4), (3, 1, 6)], 4, 24, [.lit (.int .i64 0), .lit (.int .i64 0), .lit (.bool false), .lit (.int .u8 0)]⟩),
  (9, ⟨.str, 1, 16, [.lit (.string ⟨#[]⟩)]⟩),
  (22, ⟨.sl 62, 1, 24, [.sl true 3 []]⟩),
  (23, ⟨.sl 3, 1, 24, [.sl true 1 []]⟩),
  (25, ⟨.st [(0, 1, 22), (1, 1, 23)], 2, 48, [.sl true 3 [], .sl true 1 []]⟩),
  (27, ⟨.sl 56, 1, 24, [.sl true 3 []]⟩),
  (29, ⟨.st [(0, 1, 27), (1, 1, 23)], 2, 48, [.sl true 3 [], .sl true 1 []]⟩),
  (39, ⟨.st [(0, 1, 3), (1, 1, 3), (2, 1, 3), (3, 1, 3), (4, 1, 3)], 5, 40, [.lit (.int .i64 0), .lit (.int .i64 0), .lit (.int .i64 0), .lit (.int .i64 0), .lit (.int .i64 0)]⟩),
  (41, ⟨.st [(0, 1, 4), (1, 1, 3), (2, 1, 4), (3, 5, 39)], 8, 64, [.lit (.bool false), .lit (.int .i64 0), .lit (.bool false), .lit (.int .i64 0), .lit (.int .i64 0), .lit (.int .i64 0), .lit (.int .i64 0), .lit (.int .i64 0)]⟩),
  (43, ⟨.sl 41, 1, 24, [.sl true 8 []]⟩),
  (56, ⟨.st [(0, 1, 3), (1, 1, 3), (2, 1, 3)], 3, 24, [.lit (.int .i64 0), .lit (.int .i64 0), .lit (.int .i64 0)]⟩),
  (62, ⟨.st [(0, 1, 3), (1, 1, 3), (2, 1, 3)], 3, 24, [.lit (.int .i64 0), .lit (.int .i64 0), .lit (.int .i64 0)]⟩),
  (71, ⟨.sl 184, 1, 24, [.sl true 8 []]⟩),
  (72, ⟨.sl 186, 1, 24, [.sl true 5 []]⟩),
  (74, ⟨.st [(0, 1, 3), (1, 1, 9), (2, 1, 71), (3, 1, 72), (4, 2, 25), (6, 1, 3), (7, 1, 3), (8, 1, 3), (9, 1, 3), (10, 1, 3)], 11, 160, [.lit (.int .i64 0), .lit (.string ⟨#[]⟩), .sl true 8 [], .sl true 5 [], .sl true 3 [], .sl true 1 [], .lit (.int .i64 0), .lit (.int .i64 0), .lit (.int .i64 0), .lit (.int .i64 0), .lit (.int .i64 0)]⟩),
  (77, ⟨.sl 147, 1, 24, [.sl true 5 []]⟩),
  (79, ⟨.st [(0, 1, 3), (1, 1, 9), (2, 1, 43), (3, 1, 77), (4, 2, 29), (6, 1, 3), (7, 1, 3), (8, 1, 3), (9, 1, 3), (10, 1, 3)], 11, 160, [.lit (.int .i64 0), .lit (.string ⟨#[]⟩), .sl true 8 [], .sl true 5 [], .sl true 3 [], .sl true 1 [], .lit (.int .i64 0), .lit (.int .i64 0), .lit (.int .i64 0), .lit (.int .i64 0), .lit (.int .i64 0)]⟩),
  (147, ⟨.st [(0, 1, 3), (1, 1, 3), (2, 1, 3), (3, 1, 3), (4, 1, 4)], 5, 40, [.lit (.int .i64 0), .lit (.int .i64 0), .lit (.int .i64 0), .lit (.int .i64 0), .lit (.bool false)]⟩),
  (182, ⟨.st [(0, 1, 3), (1, 1, 3), (2, 1, 3), (3, 1, 3), (4, 1, 3)], 5, 40, [.lit (.int .i64 0), .lit (.int .i64 0), .lit (.int .i64 0), .lit (.int .i64 0), .lit (.int .i64 0)]⟩),
  (184, ⟨.st [(0, 1, 4), (1, 1, 3), (2, 1, 4), (3, 5, 182)], 8, 64, [.lit (.bool false), .lit (.int .i64 0), .lit (.bool false), .lit (.int .i64 0), .lit (.int .i64 0), .lit (.int .i64 0), .lit (.int .i64 0), .lit (.int .i64 0)]⟩),
  (186, ⟨.st [(0, 1, 3), (1, 1, 3), (2, 1, 3), (3, 1, 3), (4, 1, 4)], 5, 40, [.lit (.int .i64 0), .lit (.int .i64 0), .lit (.int .i64 0), .lit (.int .i64 0), .lit (.bool false)]⟩)]
theorem mixed : Try.prog.follows .mixedOrders = true := by kernel_rfl
theorem tOk : TOk Try.prog (lk tab) := tok_of (by kernel_rfl)

structure Vec where
  Root : Int
  Cost : Int
  Hops : Int
  Bridge : Int
  Port : Int
def Vec.row (v : Vec) : List CV := [.lit (.int .i64 v.Root), .lit (.int .i64 v.Cost), .lit (.int .i64 v.Hops), .lit (.int .i64 v.Bridge), .lit (.int .i64 v.Port)]
def Vec.wf (v : Vec) : Prop := intWf v.Root ∧ intWf v.Cost ∧ intWf v.Hops ∧ intWf v.Bridge ∧ intWf v.Port ∧ True
theorem Vec.enc : Enc Vec [.int .i64, .int .i64, .int .i64, .int .i64, .int .i64] Vec.row Vec.wf := fun cs h => by
  obtain ⟨c0, r0, rfl, k0, h⟩ := fitR_cons h
  obtain ⟨c1, r1, rfl, k1, h⟩ := fitR_cons h
  obtain ⟨c2, r2, rfl, k2, h⟩ := fitR_cons h
  obtain ⟨c3, r3, rfl, k3, h⟩ := fitR_cons h
  obtain ⟨c4, r4, rfl, k4, h⟩ := fitR_cons h
  obtain rfl := fitR_nil h
  obtain ⟨x0, rfl, w0⟩ := fitC_int k0
  obtain ⟨x1, rfl, w1⟩ := fitC_int k1
  obtain ⟨x2, rfl, w2⟩ := fitC_int k2
  obtain ⟨x3, rfl, w3⟩ := fitC_int k3
  obtain ⟨x4, rfl, w4⟩ := fitC_int k4
  exact ⟨⟨x0, x1, x2, x3, x4⟩, rfl, ⟨w0, w1, w2, w3, w4, trivial⟩⟩
theorem Vec.row_mine (v : Vec) : CV.mineRow (Vec.row v) := mine_cons mine_lit (mine_cons mine_lit (mine_cons mine_lit (mine_cons mine_lit (mine_cons mine_lit (mine_nil)))))

structure Pt where
  Up : Bool
  Cost : Int
  Has : Bool
  Heard : Vec
def Pt.row (v : Pt) : List CV := [.lit (.bool v.Up), .lit (.int .i64 v.Cost), .lit (.bool v.Has), .lit (.int .i64 v.Heard.Root), .lit (.int .i64 v.Heard.Cost), .lit (.int .i64 v.Heard.Hops), .lit (.int .i64 v.Heard.Bridge), .lit (.int .i64 v.Heard.Port)]
def Pt.wf (v : Pt) : Prop := intWf v.Cost ∧ intWf v.Heard.Root ∧ intWf v.Heard.Cost ∧ intWf v.Heard.Hops ∧ intWf v.Heard.Bridge ∧ intWf v.Heard.Port ∧ True
theorem Pt.enc : Enc Pt [.bool, .int .i64, .bool, .int .i64, .int .i64, .int .i64, .int .i64, .int .i64] Pt.row Pt.wf := fun cs h => by
  obtain ⟨c0, r0, rfl, k0, h⟩ := fitR_cons h
  obtain ⟨c1, r1, rfl, k1, h⟩ := fitR_cons h
  obtain ⟨c2, r2, rfl, k2, h⟩ := fitR_cons h
  obtain ⟨c3, r3, rfl, k3, h⟩ := fitR_cons h
  obtain ⟨c4, r4, rfl, k4, h⟩ := fitR_cons h
  obtain ⟨c5, r5, rfl, k5, h⟩ := fitR_cons h
  obtain ⟨c6, r6, rfl, k6, h⟩ := fitR_cons h
  obtain ⟨c7, r7, rfl, k7, h⟩ := fitR_cons h
  obtain rfl := fitR_nil h
  obtain ⟨x0, rfl⟩ := fitC_bool k0
  obtain ⟨x1, rfl, w1⟩ := fitC_int k1
  obtain ⟨x2, rfl⟩ := fitC_bool k2
  obtain ⟨x3, rfl, w3⟩ := fitC_int k3
  obtain ⟨x4, rfl, w4⟩ := fitC_int k4
  obtain ⟨x5, rfl, w5⟩ := fitC_int k5
  obtain ⟨x6, rfl, w6⟩ := fitC_int k6
  obtain ⟨x7, rfl, w7⟩ := fitC_int k7
  exact ⟨⟨x0, x1, x2, ⟨x3, x4, x5, x6, x7⟩⟩, rfl, ⟨w1, w3, w4, w5, w6, w7, trivial⟩⟩
theorem Pt.row_mine (v : Pt) : CV.mineRow (Pt.row v) := mine_cons mine_lit (mine_cons mine_lit (mine_cons mine_lit (mine_cons mine_lit (mine_cons mine_lit (mine_cons mine_lit (mine_cons mine_lit (mine_cons mine_lit (mine_nil))))))))

structure Fent where
  Tag : Int
  Mac : Int
  Port : Int
  Age : Int
  Static : Bool
def Fent.row (v : Fent) : List CV := [.lit (.int .i64 v.Tag), .lit (.int .i64 v.Mac), .lit (.int .i64 v.Port), .lit (.int .i64 v.Age), .lit (.bool v.Static)]
def Fent.wf (v : Fent) : Prop := intWf v.Tag ∧ intWf v.Mac ∧ intWf v.Port ∧ intWf v.Age ∧ True
theorem Fent.enc : Enc Fent [.int .i64, .int .i64, .int .i64, .int .i64, .bool] Fent.row Fent.wf := fun cs h => by
  obtain ⟨c0, r0, rfl, k0, h⟩ := fitR_cons h
  obtain ⟨c1, r1, rfl, k1, h⟩ := fitR_cons h
  obtain ⟨c2, r2, rfl, k2, h⟩ := fitR_cons h
  obtain ⟨c3, r3, rfl, k3, h⟩ := fitR_cons h
  obtain ⟨c4, r4, rfl, k4, h⟩ := fitR_cons h
  obtain rfl := fitR_nil h
  obtain ⟨x0, rfl, w0⟩ := fitC_int k0
  obtain ⟨x1, rfl, w1⟩ := fitC_int k1
  obtain ⟨x2, rfl, w2⟩ := fitC_int k2
  obtain ⟨x3, rfl, w3⟩ := fitC_int k3
  obtain ⟨x4, rfl⟩ := fitC_bool k4
  exact ⟨⟨x0, x1, x2, x3, x4⟩, rfl, ⟨w0, w1, w2, w3, trivial⟩⟩
theorem Fent.row_mine (v : Fent) : CV.mineRow (Fent.row v) := mine_cons mine_lit (mine_cons mine_lit (mine_cons mine_lit (mine_cons mine_lit (mine_cons mine_lit (mine_nil)))))

structure Vrow where
  Id : Int
  Members : Int
  Bare : Int
def Vrow.row (v : Vrow) : List CV := [.lit (.int .i64 v.Id), .lit (.int .i64 v.Members), .lit (.int .i64 v.Bare)]
def Vrow.wf (v : Vrow) : Prop := intWf v.Id ∧ intWf v.Members ∧ intWf v.Bare ∧ True
theorem Vrow.enc : Enc Vrow [.int .i64, .int .i64, .int .i64] Vrow.row Vrow.wf := fun cs h => by
  obtain ⟨c0, r0, rfl, k0, h⟩ := fitR_cons h
  obtain ⟨c1, r1, rfl, k1, h⟩ := fitR_cons h
  obtain ⟨c2, r2, rfl, k2, h⟩ := fitR_cons h
  obtain rfl := fitR_nil h
  obtain ⟨x0, rfl, w0⟩ := fitC_int k0
  obtain ⟨x1, rfl, w1⟩ := fitC_int k1
  obtain ⟨x2, rfl, w2⟩ := fitC_int k2
  exact ⟨⟨x0, x1, x2⟩, rfl, ⟨w0, w1, w2, trivial⟩⟩
theorem Vrow.row_mine (v : Vrow) : CV.mineRow (Vrow.row v) := mine_cons mine_lit (mine_cons mine_lit (mine_cons mine_lit (mine_nil)))

structure Vtab where
  Rows : (List Vrow)
  Pvid : (List Int)
def Vtab.row (v : Vtab) : List CV := [.sl true 3 (v.Rows.map Vrow.row), .sl true 1 (v.Pvid.map intRow)]
def Vtab.wf (v : Vtab) : Prop := listWf Vrow.wf v.Rows ∧ listWf intWf v.Pvid ∧ True
theorem Vtab.enc : Enc Vtab [.sl 3 [.int .i64, .int .i64, .int .i64], .sl 1 [.int .i64]] Vtab.row Vtab.wf := fun cs h => by
  obtain ⟨c0, r0, rfl, k0, h⟩ := fitR_cons h
  obtain ⟨c1, r1, rfl, k1, h⟩ := fitR_cons h
  obtain rfl := fitR_nil h
  obtain ⟨x0, rfl, w0⟩ := Enc.sl Vrow.enc k0
  obtain ⟨x1, rfl, w1⟩ := Enc.sl encInt k1
  exact ⟨⟨x0, x1⟩, rfl, ⟨w0, w1, trivial⟩⟩
theorem Vtab.row_mine (v : Vtab) : CV.mineRow (Vtab.row v) := mine_cons (mine_sl (mine_map Vrow.row_mine _)) (mine_cons (mine_sl (mine_map intRow_mine _)) (mine_nil))

structure Bridge where
  Id : Int
  Name : ByteArray
  Ports : (List Pt)
  F : (List Fent)
  V : Vtab
  Ticks : Int
  Parse : Int
  Word : Int
  Drops : Int
  Vers : Int
def Bridge.row (v : Bridge) : List CV := [.lit (.int .i64 v.Id), .lit (.string v.Name), .sl true 8 (v.Ports.map Pt.row), .sl true 5 (v.F.map Fent.row), .sl true 3 (v.V.Rows.map Vrow.row), .sl true 1 (v.V.Pvid.map intRow), .lit (.int .i64 v.Ticks), .lit (.int .i64 v.Parse), .lit (.int .i64 v.Word), .lit (.int .i64 v.Drops), .lit (.int .i64 v.Vers)]
def Bridge.wf (v : Bridge) : Prop := intWf v.Id ∧ v.Name.size ≤ maxLen ∧ listWf Pt.wf v.Ports ∧ listWf Fent.wf v.F ∧ listWf Vrow.wf v.V.Rows ∧ listWf intWf v.V.Pvid ∧ intWf v.Ticks ∧ intWf v.Parse ∧ intWf v.Word ∧ intWf v.Drops ∧ intWf v.Vers ∧ True
theorem Bridge.enc : Enc Bridge [.int .i64, .str, .sl 8 [.bool, .int .i64, .bool, .int .i64, .int .i64, .int .i64, .int .i64, .int .i64], .sl 5 [.int .i64, .int .i64, .int .i64, .int .i64, .bool], .sl 3 [.int .i64, .int .i64, .int .i64], .sl 1 [.int .i64], .int .i64, .int .i64, .int .i64, .int .i64, .int .i64] Bridge.row Bridge.wf := fun cs h => by
  obtain ⟨c0, r0, rfl, k0, h⟩ := fitR_cons h
  obtain ⟨c1, r1, rfl, k1, h⟩ := fitR_cons h
  obtain ⟨c2, r2, rfl, k2, h⟩ := fitR_cons h
  obtain ⟨c3, r3, rfl, k3, h⟩ := fitR_cons h
  obtain ⟨c4, r4, rfl, k4, h⟩ := fitR_cons h
  obtain ⟨c5, r5, rfl, k5, h⟩ := fitR_cons h
  obtain ⟨c6, r6, rfl, k6, h⟩ := fitR_cons h
  obtain ⟨c7, r7, rfl, k7, h⟩ := fitR_cons h
  obtain ⟨c8, r8, rfl, k8, h⟩ := fitR_cons h
  obtain ⟨c9, r9, rfl, k9, h⟩ := fitR_cons h
  obtain ⟨c10, r10, rfl, k10, h⟩ := fitR_cons h
  obtain rfl := fitR_nil h
  obtain ⟨x0, rfl, w0⟩ := fitC_int k0
  obtain ⟨x1, rfl, w1⟩ := fitC_str k1
  obtain ⟨x2, rfl, w2⟩ := Enc.sl Pt.enc k2
  obtain ⟨x3, rfl, w3⟩ := Enc.sl Fent.enc k3
  obtain ⟨x4, rfl, w4⟩ := Enc.sl Vrow.enc k4
  obtain ⟨x5, rfl, w5⟩ := Enc.sl encInt k5
  obtain ⟨x6, rfl, w6⟩ := fitC_int k6
  obtain ⟨x7, rfl, w7⟩ := fitC_int k7
  obtain ⟨x8, rfl, w8⟩ := fitC_int k8
  obtain ⟨x9, rfl, w9⟩ := fitC_int k9
  obtain ⟨x10, rfl, w10⟩ := fitC_int k10
  exact ⟨⟨x0, x1, x2, x3, ⟨x4, x5⟩, x6, x7, x8, x9, x10⟩, rfl, ⟨w0, w1, w2, w3, w4, w5, w6, w7, w8, w9, w10, trivial⟩⟩
theorem Bridge.row_mine (v : Bridge) : CV.mineRow (Bridge.row v) := mine_cons mine_lit (mine_cons mine_lit (mine_cons (mine_sl (mine_map Pt.row_mine _)) (mine_cons (mine_sl (mine_map Fent.row_mine _)) (mine_cons (mine_sl (mine_map Vrow.row_mine _)) (mine_cons (mine_sl (mine_map intRow_mine _)) (mine_cons mine_lit (mine_cons mine_lit (mine_cons mine_lit (mine_cons mine_lit (mine_cons mine_lit (mine_nil)))))))))))

def laws_szPtSF (n : Nat) (x0 : (List Pt)) (x1 : Int) : Option (Int) :=
  (bif (decide ((IntKind.wrap .i64 (x1 - (x0.length : Int))) < 0)) then (some (-1)) else (some (IntKind.wrap .i64 (x1 - (x0.length : Int)))))
/-- loop.example/g00326/laws.szPtS -/
theorem laws_szPtS (n : Nat) (x0 : (List Pt)) (x1 : Int) (r : Int) (H : laws_szPtSF n x0 x1 = some r) : LCall Try.prog 113 [.val false [.sl false 8 (CV.frzEs (x0.map Pt.row))], .val false [.lit (.int .i64 x1)]] [.val false [.lit (.int .i64 r)]] [] := by
  refine LCall.of_body tOk Try.func113 rfl (c := (.seq (.region 0 (rg Try.f113 0) false) (.seq (.region 1 (rg Try.f113 1) false) (.seq (.seq (.region 2 (rg Try.f113 2) false) (.cond (.tmp 10) (.seq (.region 3 (rg Try.f113 3) false) .ret) .skip)) (.seq (.region 4 (rg Try.f113 4) false) .ret))))) (by kernel_rfl) (Nat.le_of_ble_eq_true (by kernel_rfl)) 0 (rs := [.tmp 4]) rfl [] .nil [(false, [.lit (.int .i64 r)])] [] [] fun cx => ?_
  show Tr _ _ _ ⟨12, 0, [(0, .val false [.sl false 8 (CV.frzEs (x0.map Pt.row))]), (1, .val false [.lit (.int .i64 x1)])], []⟩ _
  unfold laws_szPtSF at H
  refine Tr.rs ?_
  refine LAt.runU tOk 1 (by kernel_rfl) ?_
  refine LAt.doneU [4, 0, 1] [] (by kernel_rfl) ?_
  refine Tr.rs ?_
  refine LAt.runU tOk 2 (by kernel_rfl) ?_
  refine LAt.lenE tOk (t := 71) (ty := 3) (e := 184) (x := (.tmp 6)) (d := 7) (g := none) ⟨(.slot 6), [], 0, false, 8, (CV.frzEs (x0.map Pt.row))⟩ (x0).length _ (by kernel_rfl) (by kernel_rfl) (by kernel_rfl) (by kernel_rfl) (by kernel_rfl) (frz_len _ _) rfl ?_
  refine LAt.runU tOk 2 (by kernel_rfl) ?_
  refine LAt.doneU [1, 4] [] (by kernel_rfl) ?_
  refine Tr.seq ?_
  refine Tr.rs ?_
  refine LAt.runU tOk 2 (by kernel_rfl) ?_
  refine LAt.doneU [10, 1, 4] [] (by kernel_rfl) ?_
  refine Tr.to ⟨12, 0, [(10, .val false [.lit (.bool (decide ((IntKind.wrap .i64 (x1 - (x0.length : Int))) < 0)))]), (1, .val false [.lit (.int .i64 (IntKind.wrap .i64 (x1 - (x0.length : Int))))]), (4, .val false [.lit (.int .i64 0)])], []⟩ (by kernel_rfl) ?_
  cases h1 : (decide ((IntKind.wrap .i64 (x1 - (x0.length : Int))) < 0))
  · have H := bifF h1 H
    refine Tr.cond (b := false) (by kernel_rfl) (fun h => nomatch h) (fun _ => ?_)
    refine Tr.skip ?_
    show Tr _ _ _ _ _
    refine Tr.rs ?_
    refine LAt.runU tOk 2 (by kernel_rfl) ?_
    refine LAt.doneU [4] [] (by kernel_rfl) ?_
    refine Tr.ret ?_
    have H := Option.some.inj H
    subst H
    exact Fin.of _ [(false, [.lit (.int .i64 (IntKind.wrap .i64 (x1 - (x0.length : Int))))])] (by kernel_rfl) rfl rfl
  · have H := bifT h1 H
    refine Tr.cond (b := true) (by kernel_rfl) (fun _ => ?_) (fun h => nomatch h)
    refine Tr.rs ?_
    refine LAt.runU tOk 1 (by kernel_rfl) ?_
    refine LAt.doneU [4, 1] [] (by kernel_rfl) ?_
    refine Tr.ret ?_
    have H := Option.some.inj H
    subst H
    exact Fin.of _ [(false, [.lit (.int .i64 (-1))])] (by kernel_rfl) rfl rfl

def laws_szFentSF (n : Nat) (x0 : (List Fent)) (x1 : Int) : Option (Int) :=
  (bif (decide ((IntKind.wrap .i64 (x1 - (x0.length : Int))) < 0)) then (some (-1)) else (some (IntKind.wrap .i64 (x1 - (x0.length : Int)))))
/-- loop.example/g00326/laws.szFentS -/
theorem laws_szFentS (n : Nat) (x0 : (List Fent)) (x1 : Int) (r : Int) (H : laws_szFentSF n x0 x1 = some r) : LCall Try.prog 114 [.val false [.sl false 5 (CV.frzEs (x0.map Fent.row))], .val false [.lit (.int .i64 x1)]] [.val false [.lit (.int .i64 r)]] [] := by
  refine LCall.of_body tOk Try.func114 rfl (c := (.seq (.region 0 (rg Try.f114 0) false) (.seq (.region 1 (rg Try.f114 1) false) (.seq (.seq (.region 2 (rg Try.f114 2) false) (.cond (.tmp 10) (.seq (.region 3 (rg Try.f114 3) false) .ret) .skip)) (.seq (.region 4 (rg Try.f114 4) false) .ret))))) (by kernel_rfl) (Nat.le_of_ble_eq_true (by kernel_rfl)) 0 (rs := [.tmp 4]) rfl [] .nil [(false, [.lit (.int .i64 r)])] [] [] fun cx => ?_
  show Tr _ _ _ ⟨12, 0, [(0, .val false [.sl false 5 (CV.frzEs (x0.map Fent.row))]), (1, .val false [.lit (.int .i64 x1)])], []⟩ _
  unfold laws_szFentSF at H
  refine Tr.rs ?_
  refine LAt.runU tOk 1 (by kernel_rfl) ?_
  refine LAt.doneU [4, 0, 1] [] (by kernel_rfl) ?_
  refine Tr.rs ?_
  refine LAt.runU tOk 2 (by kernel_rfl) ?_
  refine LAt.lenE tOk (t := 72) (ty := 3) (e := 186) (x := (.tmp 6)) (d := 7) (g := none) ⟨(.slot 6), [], 0, false, 5, (CV.frzEs (x0.map Fent.row))⟩ (x0).length _ (by kernel_rfl) (by kernel_rfl) (by kernel_rfl) (by kernel_rfl) (by kernel_rfl) (frz_len _ _) rfl ?_
  refine LAt.runU tOk 2 (by kernel_rfl) ?_
  refine LAt.doneU [1, 4] [] (by kernel_rfl) ?_
  refine Tr.seq ?_
  refine Tr.rs ?_
  refine LAt.runU tOk 2 (by kernel_rfl) ?_
  refine LAt.doneU [10, 1, 4] [] (by kernel_rfl) ?_
  refine Tr.to ⟨12, 0, [(10, .val false [.lit (.bool (decide ((IntKind.wrap .i64 (x1 - (x0.length : Int))) < 0)))]), (1, .val false [.lit (.int .i64 (IntKind.wrap .i64 (x1 - (x0.length : Int))))]), (4, .val false [.lit (.int .i64 0)])], []⟩ (by kernel_rfl) ?_
  cases h1 : (decide ((IntKind.wrap .i64 (x1 - (x0.length : Int))) < 0))
  · have H := bifF h1 H
    refine Tr.cond (b := false) (by kernel_rfl) (fun h => nomatch h) (fun _ => ?_)
    refine Tr.skip ?_
    show Tr _ _ _ _ _
    refine Tr.rs ?_
    refine LAt.runU tOk 2 (by kernel_rfl) ?_
    refine LAt.doneU [4] [] (by kernel_rfl) ?_
    refine Tr.ret ?_
    have H := Option.some.inj H
    subst H
    exact Fin.of _ [(false, [.lit (.int .i64 (IntKind.wrap .i64 (x1 - (x0.length : Int))))])] (by kernel_rfl) rfl rfl
  · have H := bifT h1 H
    refine Tr.cond (b := true) (by kernel_rfl) (fun _ => ?_) (fun h => nomatch h)
    refine Tr.rs ?_
    refine LAt.runU tOk 1 (by kernel_rfl) ?_
    refine LAt.doneU [4, 1] [] (by kernel_rfl) ?_
    refine Tr.ret ?_
    have H := Option.some.inj H
    subst H
    exact Fin.of _ [(false, [.lit (.int .i64 (-1))])] (by kernel_rfl) rfl rfl

def laws_szVrowSF (n : Nat) (x0 : (List Vrow)) (x1 : Int) : Option (Int) :=
  (bif (decide ((IntKind.wrap .i64 (x1 - (x0.length : Int))) < 0)) then (some (-1)) else (some (IntKind.wrap .i64 (x1 - (x0.length : Int)))))
/-- loop.example/g00326/laws.szVrowS -/
theorem laws_szVrowS (n : Nat) (x0 : (List Vrow)) (x1 : Int) (r : Int) (H : laws_szVrowSF n x0 x1 = some r) : LCall Try.prog 74 [.val false [.sl false 3 (CV.frzEs (x0.map Vrow.row))], .val false [.lit (.int .i64 x1)]] [.val false [.lit (.int .i64 r)]] [] := by
  refine LCall.of_body tOk Try.func74 rfl (c := (.seq (.region 0 (rg Try.f74 0) false) (.seq (.region 1 (rg Try.f74 1) false) (.seq (.seq (.region 2 (rg Try.f74 2) false) (.cond (.tmp 10) (.seq (.region 3 (rg Try.f74 3) false) .ret) .skip)) (.seq (.region 4 (rg Try.f74 4) false) .ret))))) (by kernel_rfl) (Nat.le_of_ble_eq_true (by kernel_rfl)) 0 (rs := [.tmp 4]) rfl [] .nil [(false, [.lit (.int .i64 r)])] [] [] fun cx => ?_
  show Tr _ _ _ ⟨12, 0, [(0, .val false [.sl false 3 (CV.frzEs (x0.map Vrow.row))]), (1, .val false [.lit (.int .i64 x1)])], []⟩ _
  unfold laws_szVrowSF at H
  refine Tr.rs ?_
  refine LAt.runU tOk 1 (by kernel_rfl) ?_
  refine LAt.doneU [4, 0, 1] [] (by kernel_rfl) ?_
  refine Tr.rs ?_
  refine LAt.runU tOk 2 (by kernel_rfl) ?_
  refine LAt.lenE tOk (t := 22) (ty := 3) (e := 62) (x := (.tmp 6)) (d := 7) (g := none) ⟨(.slot 6), [], 0, false, 3, (CV.frzEs (x0.map Vrow.row))⟩ (x0).length _ (by kernel_rfl) (by kernel_rfl) (by kernel_rfl) (by kernel_rfl) (by kernel_rfl) (frz_len _ _) rfl ?_
  refine LAt.runU tOk 2 (by kernel_rfl) ?_
  refine LAt.doneU [1, 4] [] (by kernel_rfl) ?_
  refine Tr.seq ?_
  refine Tr.rs ?_
  refine LAt.runU tOk 2 (by kernel_rfl) ?_
  refine LAt.doneU [10, 1, 4] [] (by kernel_rfl) ?_
  refine Tr.to ⟨12, 0, [(10, .val false [.lit (.bool (decide ((IntKind.wrap .i64 (x1 - (x0.length : Int))) < 0)))]), (1, .val false [.lit (.int .i64 (IntKind.wrap .i64 (x1 - (x0.length : Int))))]), (4, .val false [.lit (.int .i64 0)])], []⟩ (by kernel_rfl) ?_
  cases h1 : (decide ((IntKind.wrap .i64 (x1 - (x0.length : Int))) < 0))
  · have H := bifF h1 H
    refine Tr.cond (b := false) (by kernel_rfl) (fun h => nomatch h) (fun _ => ?_)
    refine Tr.skip ?_
    show Tr _ _ _ _ _
    refine Tr.rs ?_
    refine LAt.runU tOk 2 (by kernel_rfl) ?_
    refine LAt.doneU [4] [] (by kernel_rfl) ?_
    refine Tr.ret ?_
    have H := Option.some.inj H
    subst H
    exact Fin.of _ [(false, [.lit (.int .i64 (IntKind.wrap .i64 (x1 - (x0.length : Int))))])] (by kernel_rfl) rfl rfl
  · have H := bifT h1 H
    refine Tr.cond (b := true) (by kernel_rfl) (fun _ => ?_) (fun h => nomatch h)
    refine Tr.rs ?_
    refine LAt.runU tOk 1 (by kernel_rfl) ?_
    refine LAt.doneU [4, 1] [] (by kernel_rfl) ?_
    refine Tr.ret ?_
    have H := Option.some.inj H
    subst H
    exact Fin.of _ [(false, [.lit (.int .i64 (-1))])] (by kernel_rfl) rfl rfl

def laws_szIntSF (n : Nat) (x0 : (List Int)) (x1 : Int) : Option (Int) :=
  (bif (decide ((IntKind.wrap .i64 (x1 - (x0.length : Int))) < 0)) then (some (-1)) else (some (IntKind.wrap .i64 (x1 - (x0.length : Int)))))
/-- loop.example/g00326/laws.szIntS -/
theorem laws_szIntS (n : Nat) (x0 : (List Int)) (x1 : Int) (r : Int) (H : laws_szIntSF n x0 x1 = some r) : LCall Try.prog 75 [.val false [.sl false 1 (CV.frzEs (x0.map intRow))], .val false [.lit (.int .i64 x1)]] [.val false [.lit (.int .i64 r)]] [] := by
  refine LCall.of_body tOk Try.func75 rfl (c := (.seq (.region 0 (rg Try.f75 0) false) (.seq (.region 1 (rg Try.f75 1) false) (.seq (.seq (.region 2 (rg Try.f75 2) false) (.cond (.tmp 10) (.seq (.region 3 (rg Try.f75 3) false) .ret) .skip)) (.seq (.region 4 (rg Try.f75 4) false) .ret))))) (by kernel_rfl) (Nat.le_of_ble_eq_true (by kernel_rfl)) 0 (rs := [.tmp 4]) rfl [] .nil [(false, [.lit (.int .i64 r)])] [] [] fun cx => ?_
  show Tr _ _ _ ⟨12, 0, [(0, .val false [.sl false 1 (CV.frzEs (x0.map intRow))]), (1, .val false [.lit (.int .i64 x1)])], []⟩ _
  unfold laws_szIntSF at H
  refine Tr.rs ?_
  refine LAt.runU tOk 1 (by kernel_rfl) ?_
  refine LAt.doneU [4, 0, 1] [] (by kernel_rfl) ?_
  refine Tr.rs ?_
  refine LAt.runU tOk 2 (by kernel_rfl) ?_
  refine LAt.lenE tOk (t := 23) (ty := 3) (e := 3) (x := (.tmp 6)) (d := 7) (g := none) ⟨(.slot 6), [], 0, false, 1, (CV.frzEs (x0.map intRow))⟩ (x0).length _ (by kernel_rfl) (by kernel_rfl) (by kernel_rfl) (by kernel_rfl) (by kernel_rfl) (frz_len _ _) rfl ?_
  refine LAt.runU tOk 2 (by kernel_rfl) ?_
  refine LAt.doneU [1, 4] [] (by kernel_rfl) ?_
  refine Tr.seq ?_
  refine Tr.rs ?_
  refine LAt.runU tOk 2 (by kernel_rfl) ?_
  refine LAt.doneU [10, 1, 4] [] (by kernel_rfl) ?_
  refine Tr.to ⟨12, 0, [(10, .val false [.lit (.bool (decide ((IntKind.wrap .i64 (x1 - (x0.length : Int))) < 0)))]), (1, .val false [.lit (.int .i64 (IntKind.wrap .i64 (x1 - (x0.length : Int))))]), (4, .val false [.lit (.int .i64 0)])], []⟩ (by kernel_rfl) ?_
  cases h1 : (decide ((IntKind.wrap .i64 (x1 - (x0.length : Int))) < 0))
  · have H := bifF h1 H
    refine Tr.cond (b := false) (by kernel_rfl) (fun h => nomatch h) (fun _ => ?_)
    refine Tr.skip ?_
    show Tr _ _ _ _ _
    refine Tr.rs ?_
    refine LAt.runU tOk 2 (by kernel_rfl) ?_
    refine LAt.doneU [4] [] (by kernel_rfl) ?_
    refine Tr.ret ?_
    have H := Option.some.inj H
    subst H
    exact Fin.of _ [(false, [.lit (.int .i64 (IntKind.wrap .i64 (x1 - (x0.length : Int))))])] (by kernel_rfl) rfl rfl
  · have H := bifT h1 H
    refine Tr.cond (b := true) (by kernel_rfl) (fun _ => ?_) (fun h => nomatch h)
    refine Tr.rs ?_
    refine LAt.runU tOk 1 (by kernel_rfl) ?_
    refine LAt.doneU [4, 1] [] (by kernel_rfl) ?_
    refine Tr.ret ?_
    have H := Option.some.inj H
    subst H
    exact Fin.of _ [(false, [.lit (.int .i64 (-1))])] (by kernel_rfl) rfl rfl

def laws_szVtabF (n : Nat) (x0 : Vtab) (x1 : Int) : Option (Int) :=
  ((laws_szVrowSF n x0.Rows x1).bind fun r1 => (bif (decide (r1 < 0)) then (some (-1)) else ((laws_szIntSF n x0.Pvid r1).bind fun r2 => (bif (decide (r2 < 0)) then (some (-1)) else (some r2)))))
/-- loop.example/g00326/laws.szVtab -/
theorem laws_szVtab (n : Nat) (x0 : Vtab) (x1 : Int) (r : Int) (H : laws_szVtabF n x0 x1 = some r) : LCall Try.prog 15 [.val true (CV.frzRow (Vtab.row x0)), .val false [.lit (.int .i64 x1)]] [.val false [.lit (.int .i64 r)]] [] := by
  refine LCall.of_body tOk Try.func15 rfl (c := (.seq (.region 0 (rg Try.f15 0) false) (.seq (.region 1 (rg Try.f15 1) false) (.seq (.seq (.region 2 (rg Try.f15 2) false) (.cond (.tmp 10) (.seq (.region 3 (rg Try.f15 3) false) .ret) .skip)) (.seq (.region 4 (rg Try.f15 4) false) (.seq (.seq (.region 5 (rg Try.f15 5) false) (.cond (.tmp 16) (.seq (.region 6 (rg Try.f15 6) false) .ret) .skip)) (.seq (.region 7 (rg Try.f15 7) false) .ret))))))) (by kernel_rfl) (Nat.le_of_ble_eq_true (by kernel_rfl)) 0 (rs := [.tmp 4]) rfl [] .nil [(false, [.lit (.int .i64 r)])] [] [] fun cx => ?_
  show Tr _ _ _ ⟨18, 0, [(0, .val true (CV.frzRow (Vtab.row x0))), (1, .val false [.lit (.int .i64 x1)])], []⟩ _
  unfold laws_szVtabF at H
  refine Tr.rs ?_
  refine LAt.runU tOk 2 (by kernel_rfl) ?_
  refine LAt.doneU [4, 2, 1] [2] (by kernel_rfl) ?_
  refine Tr.rs ?_
  refine LAt.runU tOk 3 (by kernel_rfl) ?_
  obtain ⟨r1, er1, H⟩ := bind_some H
  refine LAt.callU tOk [.rd, .rd] (f := 74) (av := #[.tmp 6, .tmp 7]) (ats := #[22, 3]) (d := (some 8)) (ty := 3) (g := none) (by kernel_rfl) (by kernel_rfl) (by kernel_rfl) [] (laws_szVrowS n x0.Rows x1 r1 er1) (by kernel_rfl) (.inl rfl) ?_
  refine LAt.runU tOk 1 (by kernel_rfl) ?_
  refine LAt.doneU [1, 4, 2] [2] (by kernel_rfl) ?_
  refine Tr.seq ?_
  refine Tr.rs ?_
  refine LAt.runU tOk 2 (by kernel_rfl) ?_
  refine LAt.doneU [10, 1, 4, 2] [2] (by kernel_rfl) ?_
  refine Tr.to ⟨18, 0, [(10, .val false [.lit (.bool (decide (r1 < 0)))]), (1, .val false [.lit (.int .i64 r1)]), (4, .val false [.lit (.int .i64 0)]), (2, .adr (.box 2) [(0, 0)] 2 0)], [(2, (CV.frzRow (Vtab.row x0)))]⟩ (by kernel_rfl) ?_
  cases h1 : (decide (r1 < 0))
  · have H := bifF h1 H
    refine Tr.cond (b := false) (by kernel_rfl) (fun h => nomatch h) (fun _ => ?_)
    refine Tr.skip ?_
    show Tr _ _ _ _ _
    refine Tr.rs ?_
    refine LAt.runU tOk 3 (by kernel_rfl) ?_
    obtain ⟨r2, er2, H⟩ := bind_some H
    refine LAt.callU tOk [.rd, .rd] (f := 75) (av := #[.tmp 12, .tmp 13]) (ats := #[23, 3]) (d := (some 14)) (ty := 3) (g := none) (by kernel_rfl) (by kernel_rfl) (by kernel_rfl) [] (laws_szIntS n x0.Pvid r1 r2 er2) (by kernel_rfl) (.inl rfl) ?_
    refine LAt.runU tOk 1 (by kernel_rfl) ?_
    refine LAt.doneU [1, 4] [] (by kernel_rfl) ?_
    refine Tr.seq ?_
    refine Tr.rs ?_
    refine LAt.runU tOk 2 (by kernel_rfl) ?_
    refine LAt.doneU [16, 1, 4] [] (by kernel_rfl) ?_
    refine Tr.to ⟨18, 0, [(16, .val false [.lit (.bool (decide (r2 < 0)))]), (1, .val false [.lit (.int .i64 r2)]), (4, .val false [.lit (.int .i64 0)])], []⟩ (by kernel_rfl) ?_
    cases h2 : (decide (r2 < 0))
    · have H := bifF h2 H
      refine Tr.cond (b := false) (by kernel_rfl) (fun h => nomatch h) (fun _ => ?_)
      refine Tr.skip ?_
      show Tr _ _ _ _ _
      refine Tr.rs ?_
      refine LAt.runU tOk 2 (by kernel_rfl) ?_
      refine LAt.doneU [4] [] (by kernel_rfl) ?_
      refine Tr.ret ?_
      have H := Option.some.inj H
      subst H
      exact Fin.of _ [(false, [.lit (.int .i64 r2)])] (by kernel_rfl) rfl rfl
    · have H := bifT h2 H
      refine Tr.cond (b := true) (by kernel_rfl) (fun _ => ?_) (fun h => nomatch h)
      refine Tr.rs ?_
      refine LAt.runU tOk 1 (by kernel_rfl) ?_
      refine LAt.doneU [4, 1] [] (by kernel_rfl) ?_
      refine Tr.ret ?_
      have H := Option.some.inj H
      subst H
      exact Fin.of _ [(false, [.lit (.int .i64 (-1))])] (by kernel_rfl) rfl rfl
  · have H := bifT h1 H
    refine Tr.cond (b := true) (by kernel_rfl) (fun _ => ?_) (fun h => nomatch h)
    refine Tr.rs ?_
    refine LAt.runU tOk 1 (by kernel_rfl) ?_
    refine LAt.doneU [4, 1, 2] [2] (by kernel_rfl) ?_
    refine Tr.ret ?_
    have H := Option.some.inj H
    subst H
    exact Fin.of _ [(false, [.lit (.int .i64 (-1))])] (by kernel_rfl) rfl rfl

def laws_szBridgeF (n : Nat) (x0 : Bridge) (x1 : Int) : Option (Int) :=
  (bif (decide ((IntKind.wrap .i64 (x1 - (x0.Name.size : Int))) < 0)) then (some (-1)) else ((laws_szPtSF n x0.Ports (IntKind.wrap .i64 (x1 - (x0.Name.size : Int)))).bind fun r1 => (bif (decide (r1 < 0)) then (some (-1)) else ((laws_szFentSF n x0.F r1).bind fun r2 => (bif (decide (r2 < 0)) then (some (-1)) else ((laws_szVtabF n x0.V r2).bind fun r3 => (bif (decide (r3 < 0)) then (some (-1)) else (some r3))))))))
/-- loop.example/g00326/laws.szBridge -/
theorem laws_szBridge (n : Nat) (x0 : Bridge) (x1 : Int) (r : Int) (H : laws_szBridgeF n x0 x1 = some r) : LCall Try.prog 51 [.val true (CV.frzRow (Bridge.row x0)), .val false [.lit (.int .i64 x1)]] [.val false [.lit (.int .i64 r)]] [] := by
  refine LCall.of_body tOk Try.func51 rfl (c := (.seq (.region 0 (rg Try.f51 0) false) (.seq (.region 1 (rg Try.f51 1) false) (.seq (.seq (.region 2 (rg Try.f51 2) false) (.cond (.tmp 11) (.seq (.region 3 (rg Try.f51 3) false) .ret) .skip)) (.seq (.region 4 (rg Try.f51 4) false) (.seq (.seq (.region 5 (rg Try.f51 5) false) (.cond (.tmp 17) (.seq (.region 6 (rg Try.f51 6) false) .ret) .skip)) (.seq (.region 7 (rg Try.f51 7) false) (.seq (.seq (.region 8 (rg Try.f51 8) false) (.cond (.tmp 23) (.seq (.region 9 (rg Try.f51 9) false) .ret) .skip)) (.seq (.region 10 (rg Try.f51 10) false) (.seq (.seq (.region 11 (rg Try.f51 11) false) (.cond (.tmp 29) (.seq (.region 12 (rg Try.f51 12) false) .ret) .skip)) (.seq (.region 13 (rg Try.f51 13) false) .ret))))))))))) (by kernel_rfl) (Nat.le_of_ble_eq_true (by kernel_rfl)) 0 (rs := [.tmp 4]) rfl [] .nil [(false, [.lit (.int .i64 r)])] [] [] fun cx => ?_
  show Tr _ _ _ ⟨31, 0, [(0, .val true (CV.frzRow (Bridge.row x0))), (1, .val false [.lit (.int .i64 x1)])], []⟩ _
  unfold laws_szBridgeF at H
  refine Tr.rs ?_
  refine LAt.runU tOk 2 (by kernel_rfl) ?_
  refine LAt.doneU [4, 2, 1] [2] (by kernel_rfl) ?_
  refine Tr.rs ?_
  refine LAt.runU tOk 6 (by kernel_rfl) ?_
  refine LAt.doneU [1, 4, 2] [2] (by kernel_rfl) ?_
  refine Tr.seq ?_
  refine Tr.rs ?_
  refine LAt.runU tOk 2 (by kernel_rfl) ?_
  refine LAt.doneU [11, 1, 4, 2] [2] (by kernel_rfl) ?_
  refine Tr.to ⟨31, 0, [(11, .val false [.lit (.bool (decide ((IntKind.wrap .i64 (x1 - (x0.Name.size : Int))) < 0)))]), (1, .val false [.lit (.int .i64 (IntKind.wrap .i64 (x1 - (x0.Name.size : Int))))]), (4, .val false [.lit (.int .i64 0)]), (2, .adr (.box 2) [(0, 0)] 11 0)], [(2, (CV.frzRow (Bridge.row x0)))]⟩ (by kernel_rfl) ?_
  cases h1 : (decide ((IntKind.wrap .i64 (x1 - (x0.Name.size : Int))) < 0))
  · have H := bifF h1 H
    refine Tr.cond (b := false) (by kernel_rfl) (fun h => nomatch h) (fun _ => ?_)
    refine Tr.skip ?_
    show Tr _ _ _ _ _
    refine Tr.rs ?_
    refine LAt.runU tOk 3 (by kernel_rfl) ?_
    obtain ⟨r1, er1, H⟩ := bind_some H
    refine LAt.callU tOk [.rd, .rd] (f := 113) (av := #[.tmp 13, .tmp 14]) (ats := #[71, 3]) (d := (some 15)) (ty := 3) (g := none) (by kernel_rfl) (by kernel_rfl) (by kernel_rfl) [] (laws_szPtS n x0.Ports (IntKind.wrap .i64 (x1 - (x0.Name.size : Int))) r1 er1) (by kernel_rfl) (.inl rfl) ?_
    refine LAt.runU tOk 1 (by kernel_rfl) ?_
    refine LAt.doneU [1, 4, 2] [2] (by kernel_rfl) ?_
    refine Tr.seq ?_
    refine Tr.rs ?_
    refine LAt.runU tOk 2 (by kernel_rfl) ?_
    refine LAt.doneU [17, 1, 4, 2] [2] (by kernel_rfl) ?_
    refine Tr.to ⟨31, 0, [(17, .val false [.lit (.bool (decide (r1 < 0)))]), (1, .val false [.lit (.int .i64 r1)]), (4, .val false [.lit (.int .i64 0)]), (2, .adr (.box 2) [(0, 0)] 11 0)], [(2, (CV.frzRow (Bridge.row x0)))]⟩ (by kernel_rfl) ?_
    cases h2 : (decide (r1 < 0))
    · have H := bifF h2 H
      refine Tr.cond (b := false) (by kernel_rfl) (fun h => nomatch h) (fun _ => ?_)
      refine Tr.skip ?_
      show Tr _ _ _ _ _
      refine Tr.rs ?_
      refine LAt.runU tOk 3 (by kernel_rfl) ?_
      obtain ⟨r2, er2, H⟩ := bind_some H
      refine LAt.callU tOk [.rd, .rd] (f := 114) (av := #[.tmp 19, .tmp 20]) (ats := #[72, 3]) (d := (some 21)) (ty := 3) (g := none) (by kernel_rfl) (by kernel_rfl) (by kernel_rfl) [] (laws_szFentS n x0.F r1 r2 er2) (by kernel_rfl) (.inl rfl) ?_
      refine LAt.runU tOk 1 (by kernel_rfl) ?_
      refine LAt.doneU [1, 4, 2] [2] (by kernel_rfl) ?_
      refine Tr.seq ?_
      refine Tr.rs ?_
      refine LAt.runU tOk 2 (by kernel_rfl) ?_
      refine LAt.doneU [23, 1, 4, 2] [2] (by kernel_rfl) ?_
      refine Tr.to ⟨31, 0, [(23, .val false [.lit (.bool (decide (r2 < 0)))]), (1, .val false [.lit (.int .i64 r2)]), (4, .val false [.lit (.int .i64 0)]), (2, .adr (.box 2) [(0, 0)] 11 0)], [(2, (CV.frzRow (Bridge.row x0)))]⟩ (by kernel_rfl) ?_
      cases h3 : (decide (r2 < 0))
      · have H := bifF h3 H
        refine Tr.cond (b := false) (by kernel_rfl) (fun h => nomatch h) (fun _ => ?_)
        refine Tr.skip ?_
        show Tr _ _ _ _ _
        refine Tr.rs ?_
        refine LAt.runU tOk 3 (by kernel_rfl) ?_
        obtain ⟨r3, er3, H⟩ := bind_some H
        refine LAt.callU tOk [.rd, .rd] (f := 15) (av := #[.tmp 25, .tmp 26]) (ats := #[25, 3]) (d := (some 27)) (ty := 3) (g := none) (by kernel_rfl) (by kernel_rfl) (by kernel_rfl) [] (laws_szVtab n x0.V r2 r3 er3) (by kernel_rfl) (.inl rfl) ?_
        refine LAt.runU tOk 1 (by kernel_rfl) ?_
        refine LAt.doneU [1, 4] [] (by kernel_rfl) ?_
        refine Tr.seq ?_
        refine Tr.rs ?_
        refine LAt.runU tOk 2 (by kernel_rfl) ?_
        refine LAt.doneU [29, 1, 4] [] (by kernel_rfl) ?_
        refine Tr.to ⟨31, 0, [(29, .val false [.lit (.bool (decide (r3 < 0)))]), (1, .val false [.lit (.int .i64 r3)]), (4, .val false [.lit (.int .i64 0)])], []⟩ (by kernel_rfl) ?_
        cases h4 : (decide (r3 < 0))
        · have H := bifF h4 H
          refine Tr.cond (b := false) (by kernel_rfl) (fun h => nomatch h) (fun _ => ?_)
          refine Tr.skip ?_
          show Tr _ _ _ _ _
          refine Tr.rs ?_
          refine LAt.runU tOk 2 (by kernel_rfl) ?_
          refine LAt.doneU [4] [] (by kernel_rfl) ?_
          refine Tr.ret ?_
          have H := Option.some.inj H
          subst H
          exact Fin.of _ [(false, [.lit (.int .i64 r3)])] (by kernel_rfl) rfl rfl
        · have H := bifT h4 H
          refine Tr.cond (b := true) (by kernel_rfl) (fun _ => ?_) (fun h => nomatch h)
          refine Tr.rs ?_
          refine LAt.runU tOk 1 (by kernel_rfl) ?_
          refine LAt.doneU [4, 1] [] (by kernel_rfl) ?_
          refine Tr.ret ?_
          have H := Option.some.inj H
          subst H
          exact Fin.of _ [(false, [.lit (.int .i64 (-1))])] (by kernel_rfl) rfl rfl
      · have H := bifT h3 H
        refine Tr.cond (b := true) (by kernel_rfl) (fun _ => ?_) (fun h => nomatch h)
        refine Tr.rs ?_
        refine LAt.runU tOk 1 (by kernel_rfl) ?_
        refine LAt.doneU [4, 1, 2] [2] (by kernel_rfl) ?_
        refine Tr.ret ?_
        have H := Option.some.inj H
        subst H
        exact Fin.of _ [(false, [.lit (.int .i64 (-1))])] (by kernel_rfl) rfl rfl
    · have H := bifT h2 H
      refine Tr.cond (b := true) (by kernel_rfl) (fun _ => ?_) (fun h => nomatch h)
      refine Tr.rs ?_
      refine LAt.runU tOk 1 (by kernel_rfl) ?_
      refine LAt.doneU [4, 1, 2] [2] (by kernel_rfl) ?_
      refine Tr.ret ?_
      have H := Option.some.inj H
      subst H
      exact Fin.of _ [(false, [.lit (.int .i64 (-1))])] (by kernel_rfl) rfl rfl
  · have H := bifT h1 H
    refine Tr.cond (b := true) (by kernel_rfl) (fun _ => ?_) (fun h => nomatch h)
    refine Tr.rs ?_
    refine LAt.runU tOk 1 (by kernel_rfl) ?_
    refine LAt.doneU [4, 1, 2] [2] (by kernel_rfl) ?_
    refine Tr.ret ?_
    have H := Option.some.inj H
    subst H
    exact Fin.of _ [(false, [.lit (.int .i64 (-1))])] (by kernel_rfl) rfl rfl

def laws_toVecF (n : Nat) (x0 : Vec) : Option (Vec) :=
  (some x0)
/-- loop.example/g00326/laws.toVec -/
theorem laws_toVec (n : Nat) (x0 : Vec) (r : Vec) (H : laws_toVecF n x0 = some r) : LCall Try.prog 177 [.val true (CV.frzRow (Vec.row x0))] [.val true (Vec.row r)] [] := by
  refine LCall.of_body tOk Try.func177 rfl (c := (.seq (.region 0 (rg Try.f177 0) false) (.seq (.region 1 (rg Try.f177 1) false) (.seq (.region 2 (rg Try.f177 2) false) (.seq (.region 3 (rg Try.f177 3) false) (.seq (.region 4 (rg Try.f177 4) false) (.seq (.region 5 (rg Try.f177 5) false) (.seq (.region 6 (rg Try.f177 6) false) (.seq (.region 7 (rg Try.f177 7) false) .ret))))))))) (by kernel_rfl) (Nat.le_of_ble_eq_true (by kernel_rfl)) 0 (rs := [.cell 2 39]) rfl [] .nil [(true, (Vec.row r))] [] [] fun cx => ?_
  show Tr _ _ _ ⟨20, 0, [(0, .val true (Vec.row x0))], []⟩ _
  unfold laws_toVecF at H
  refine Tr.rs ?_
  refine LAt.runU tOk 2 (by kernel_rfl) ?_
  refine LAt.doneU [2, 1] [2, 1] (by kernel_rfl) ?_
  refine Tr.rs ?_
  refine LAt.runU tOk 1 (by kernel_rfl) ?_
  refine LAt.doneU [3, 2, 1] [3, 2, 1] (by kernel_rfl) ?_
  refine Tr.rs ?_
  refine LAt.runU tOk 4 (by kernel_rfl) ?_
  refine LAt.doneU [3, 2, 1] [3, 2, 1] (by kernel_rfl) ?_
  refine Tr.rs ?_
  refine LAt.runU tOk 4 (by kernel_rfl) ?_
  refine LAt.doneU [3, 2, 1] [3, 2, 1] (by kernel_rfl) ?_
  refine Tr.rs ?_
  refine LAt.runU tOk 4 (by kernel_rfl) ?_
  refine LAt.doneU [3, 2, 1] [3, 2, 1] (by kernel_rfl) ?_
  refine Tr.rs ?_
  refine LAt.runU tOk 4 (by kernel_rfl) ?_
  refine LAt.doneU [3, 2, 1] [3, 2, 1] (by kernel_rfl) ?_
  refine Tr.rs ?_
  refine LAt.runU tOk 4 (by kernel_rfl) ?_
  refine LAt.doneU [3, 2] [3, 2] (by kernel_rfl) ?_
  refine Tr.rs ?_
  refine LAt.runU tOk 2 (by kernel_rfl) ?_
  refine LAt.doneU [2] [2] (by kernel_rfl) ?_
  refine Tr.ret ?_
  have H := Option.some.inj H
  subst H
  exact Fin.of _ [(true, (Vec.row x0))] (by kernel_rfl) rfl rfl

def laws_toPtF (n : Nat) (x0 : Pt) : Option (Pt) :=
  ((laws_toVecF n x0.Heard).bind fun r1 => (some (⟨x0.Up, x0.Cost, x0.Has, r1⟩ : Pt)))
/-- loop.example/g00326/laws.toPt -/
theorem laws_toPt (n : Nat) (x0 : Pt) (r : Pt) (H : laws_toPtF n x0 = some r) : LCall Try.prog 152 [.val true (CV.frzRow (Pt.row x0))] [.val true (Pt.row r)] [] := by
  refine LCall.of_body tOk Try.func152 rfl (c := (.seq (.region 0 (rg Try.f152 0) false) (.seq (.region 1 (rg Try.f152 1) false) (.seq (.region 2 (rg Try.f152 2) false) (.seq (.region 3 (rg Try.f152 3) false) (.seq (.region 4 (rg Try.f152 4) false) (.seq (.region 5 (rg Try.f152 5) false) (.seq (.region 6 (rg Try.f152 6) false) .ret)))))))) (by kernel_rfl) (Nat.le_of_ble_eq_true (by kernel_rfl)) 0 (rs := [.cell 2 41]) rfl [] .nil [(true, (Pt.row r))] [] [] fun cx => ?_
  show Tr _ _ _ ⟨18, 0, [(0, .val true (Pt.row x0))], []⟩ _
  unfold laws_toPtF at H
  refine Tr.rs ?_
  refine LAt.runU tOk 2 (by kernel_rfl) ?_
  refine LAt.doneU [2, 1] [2, 1] (by kernel_rfl) ?_
  refine Tr.rs ?_
  refine LAt.runU tOk 1 (by kernel_rfl) ?_
  refine LAt.doneU [3, 2, 1] [3, 2, 1] (by kernel_rfl) ?_
  refine Tr.rs ?_
  refine LAt.runU tOk 4 (by kernel_rfl) ?_
  refine LAt.doneU [3, 2, 1] [3, 2, 1] (by kernel_rfl) ?_
  refine Tr.rs ?_
  refine LAt.runU tOk 4 (by kernel_rfl) ?_
  refine LAt.doneU [3, 2, 1] [3, 2, 1] (by kernel_rfl) ?_
  refine Tr.rs ?_
  refine LAt.runU tOk 4 (by kernel_rfl) ?_
  refine LAt.doneU [3, 2, 1] [3, 2, 1] (by kernel_rfl) ?_
  refine Tr.rs ?_
  refine LAt.runU tOk 2 (by kernel_rfl) ?_
  obtain ⟨r1, er1, H⟩ := bind_some H
  refine LAt.callU tOk [.rd] (f := 177) (av := #[.tmp 14]) (ats := #[182]) (d := (some 15)) (ty := 39) (g := none) (by kernel_rfl) (by kernel_rfl) (by kernel_rfl) [] (laws_toVec n x0.Heard r1 er1) (by kernel_rfl) (.inl rfl) ?_
  refine LAt.runU tOk 2 (by kernel_rfl) ?_
  refine LAt.doneU [3, 2] [3, 2] (by kernel_rfl) ?_
  refine Tr.rs ?_
  refine LAt.runU tOk 2 (by kernel_rfl) ?_
  refine LAt.doneU [2] [2] (by kernel_rfl) ?_
  refine Tr.ret ?_
  have H := Option.some.inj H
  subst H
  exact Fin.of _ [(true, [.lit (.bool x0.Up), .lit (.int .i64 x0.Cost), .lit (.bool x0.Has), .lit (.int .i64 r1.Root), .lit (.int .i64 r1.Cost), .lit (.int .i64 r1.Hops), .lit (.int .i64 r1.Bridge), .lit (.int .i64 r1.Port)])] (by kernel_rfl) rfl rfl

def laws_toPtS_J1 (n : Nat) (y4 : (List Pt)) : Option ((List Pt)) :=
  (some y4)
def laws_toPtS_L2 (n : Nat) : Nat → (List Pt) → Int → (List Pt) → Option (((List Pt)) ⊕ ((List Pt)))
  | 0, _, _, _ => none
  | mo5 + 1, x0, y2, y3 => (bif (decide (y2 < (x0.length : Int))) then ((idx x0 y2).bind fun v6 => ((laws_toPtF n v6).bind fun r7 => ((idx y3 y2).bind fun v8 => (laws_toPtS_L2 n mo5 x0 (IntKind.wrap .i64 (y2 + 1)) (y3.set (y2.toNat) r7))))) else (some (Sum.inl y3)))
def laws_toPtSF (n : Nat) (x0 : (List Pt)) : Option ((List Pt)) :=
  (bif (decide (0 ≤ (x0.length : Int)) && decide ((x0.length : Int) ≤ 268435456)) then ((laws_toPtS_L2 n n x0 0 (List.replicate ((x0.length : Int)).toNat (⟨false, 0, false, (⟨0, 0, 0, 0, 0⟩ : Vec)⟩ : Pt))).bind fun o => match o with | .inl y4 => (laws_toPtS_J1 n y4) | .inr r => some r) else none)
/-- loop.example/g00326/laws.toPtS -/
theorem laws_toPtS (n : Nat) (x0 : (List Pt)) (r : (List Pt)) (H : laws_toPtSF n x0 = some r) : LCall Try.prog 116 [.val false [.sl false 8 (CV.frzEs (x0.map Pt.row))]] [.val false [.sl true 8 (r.map Pt.row)]] [] := by
  refine LCall.of_body tOk Try.func116 rfl (c := (.seq (.region 0 (rg Try.f116 0) false) (.seq (.region 1 (rg Try.f116 1) false) (.seq (.seq (.region 2 (rg Try.f116 2) false) (.block 0 (.loop (.seq (.seq (.region 3 (rg Try.f116 3) false) (.cond (.tmp 11) .skip (.exit 0))) (.seq (.block 1 (.region 5 (rg Try.f116 5) false)) (.region 4 (rg Try.f116 4) false)))))) (.seq (.region 6 (rg Try.f116 6) false) .ret))))) (by kernel_rfl) (Nat.le_of_ble_eq_true (by kernel_rfl)) 0 (rs := [.tmp 2]) rfl [] .nil [(false, [.sl true 8 (r.map Pt.row)])] [] [] fun cx => ?_
  show Tr _ _ _ ⟨23, 0, [(0, .val false [.sl false 8 (CV.frzEs (x0.map Pt.row))])], []⟩ _
  unfold laws_toPtSF at H
  refine Tr.rs ?_
  refine LAt.runU tOk 1 (by kernel_rfl) ?_
  refine LAt.doneU [2, 0] [] (by kernel_rfl) ?_
  refine Tr.rs ?_
  refine LAt.runU tOk 1 (by kernel_rfl) ?_
  refine LAt.lenE tOk (t := 71) (ty := 3) (e := 184) (x := (.tmp 5)) (d := 6) (g := none) ⟨(.slot 5), [], 0, false, 8, (CV.frzEs (x0.map Pt.row))⟩ (x0).length _ (by kernel_rfl) (by kernel_rfl) (by kernel_rfl) (by kernel_rfl) (by kernel_rfl) (frz_len _ _) rfl ?_
  obtain ⟨hg1, H⟩ := guard_some H
  refine LAt.makeG tOk (t := 43) (ty := 43) (e := 41) (x := (.tmp 6)) (d := 7) (g := none) ⟨.st [(0, 1, 4), (1, 1, 3), (2, 1, 4), (3, 5, 39)], 8, 64, [.lit (.bool false), .lit (.int .i64 0), .lit (.bool false), .lit (.int .i64 0), .lit (.int .i64 0), .lit (.int .i64 0), .lit (.int .i64 0), .lit (.int .i64 0)]⟩ (x0.length : Int) ((List.replicate ((x0.length : Int)).toNat (⟨false, 0, false, (⟨0, 0, 0, 0, 0⟩ : Vec)⟩ : Pt)).map Pt.row) _ (by kernel_rfl) (by kernel_rfl) (by kernel_rfl) (by kernel_rfl) (by kernel_rfl) (by kernel_rfl) hg1 (by kernel_rfl) (rep_map _ rfl) rfl ?_
  refine LAt.moveU (T := lk tab) (ty := 43) (x := (.tmp 7)) (d := 3) (g := none) false [.sl true 8 ((List.replicate ((x0.length : Int)).toNat (⟨false, 0, false, (⟨0, 0, 0, 0, 0⟩ : Vec)⟩ : Pt)).map Pt.row)] (by kernel_rfl) (by kernel_rfl) (by kernel_rfl) (by kernel_rfl) (by kernel_rfl) ?_
  refine LAt.doneU [3, 2, 0] [] (by kernel_rfl) ?_
  refine Tr.seq ?_
  refine Tr.rs ?_
  refine LAt.runU tOk 1 (by kernel_rfl) ?_
  refine LAt.doneU [4, 3, 2, 0] [] (by kernel_rfl) ?_
  obtain ⟨o5, eo5, Ho5⟩ := bind_some H
  clear H
  refine Tr.mid (ι := (List Pt)) (fun v => ⟨23, 0, [(3, .val false [.sl true 8 (v.map Pt.row)]), (2, .val false [.sl true 8 (([] : List Pt).map Pt.row)])], []⟩) (fun v => laws_toPtS_J1 n v = some r) ?_ ?_
  · refine Tr.block ?_
    refine Tr.loop (ι := Nat × (Int × (List Pt))) (fun v => ⟨23, 0, [(4, .val false [.lit (.int .i64 v.2.1)]), (3, .val false [.sl true 8 (v.2.2.map Pt.row)]), (2, .val false [.sl true 8 (([] : List Pt).map Pt.row)]), (0, .val false [.sl false 8 (CV.frzEs (x0.map Pt.row))])], []⟩) (fun v => laws_toPtS_L2 n v.1 x0 v.2.1 v.2.2 = some o5) (fun v => v.1) (n, (0, (List.replicate ((x0.length : Int)).toNat (⟨false, 0, false, (⟨0, 0, 0, 0, 0⟩ : Vec)⟩ : Pt)))) eo5 (St.sub_of [4, 3, 2, 0] [] (by kernel_rfl)) ?_
    rintro ⟨mo5, y2, y3⟩ H
    have H : laws_toPtS_L2 n mo5 x0 y2 y3 = some o5 := H
    obtain _ | mo5 := mo5
    · cases (show (none : Option _) = some o5 from H)
    · rw [laws_toPtS_L2] at H
      refine Tr.seq ?_
      refine Tr.rs ?_
      refine LAt.runU tOk 2 (by kernel_rfl) ?_
      refine LAt.lenE tOk (t := 71) (ty := 3) (e := 184) (x := (.tmp 9)) (d := 10) (g := none) ⟨(.slot 9), [], 0, false, 8, (CV.frzEs (x0.map Pt.row))⟩ (x0).length _ (by kernel_rfl) (by kernel_rfl) (by kernel_rfl) (by kernel_rfl) (by kernel_rfl) (frz_len _ _) rfl ?_
      refine LAt.runU tOk 1 (by kernel_rfl) ?_
      refine LAt.doneU [11, 10, 9, 8, 4, 3, 2, 0] [] (by kernel_rfl) ?_
      refine Tr.to ⟨23, 0, [(11, .val false [.lit (.bool (decide (y2 < (x0.length : Int))))]), (10, .val false [.lit (.int .i64 (x0.length : Int))]), (9, .val false [.sl false 8 (CV.frzEs (x0.map Pt.row))]), (8, .val false [.lit (.int .i64 y2)]), (4, .val false [.lit (.int .i64 y2)]), (3, .val false [.sl true 8 (y3.map Pt.row)]), (2, .val false [.sl true 8 (([] : List Pt).map Pt.row)]), (0, .val false [.sl false 8 (CV.frzEs (x0.map Pt.row))])], []⟩ (by kernel_rfl) ?_
      cases h1 : (decide (y2 < (x0.length : Int)))
      · have H := bifF h1 H
        refine Tr.cond (b := false) (by kernel_rfl) (fun h => nomatch h) (fun _ => ?_)
        refine Tr.exit ?_
        refine And.intro (fun _ => ?_) (fun h => absurd rfl h)
        have H := Option.some.inj H
        subst H
        have H := Ho5
        dsimp only at H
        exact Exists.intro y3 (And.intro H (St.sub_of [3, 2] [] (by kernel_rfl)))
      · have H := bifT h1 H
        refine Tr.cond (b := true) (by kernel_rfl) (fun _ => ?_) (fun h => nomatch h)
        refine Tr.skip ?_
        show Tr _ _ _ _ _
        refine Tr.seq ?_
        refine Tr.block ?_
        refine Tr.at ?_
        refine LAt.runU tOk 4 (by kernel_rfl) ?_
        obtain ⟨v6, ev6, H⟩ := bind_some H
        refine LAt.indexF tOk (t := 71) (ty := 0) (x := (.tmp 16)) (y := (.tmp 17)) (d := 18) (g := none) ⟨(.slot 16), [], 0, false, 8, (CV.frzEs (x0.map Pt.row))⟩ y2 (Pt.row v6) _ (by kernel_rfl) (by kernel_rfl) (by kernel_rfl) (by kernel_rfl) rfl (idx_isF ev6) rfl ?_
        refine LAt.runU tOk 1 (by kernel_rfl) ?_
        obtain ⟨r7, er7, H⟩ := bind_some H
        refine LAt.callU tOk [.rd] (f := 152) (av := #[.tmp 19]) (ats := #[184]) (d := (some 20)) (ty := 41) (g := none) (by kernel_rfl) (by kernel_rfl) (by kernel_rfl) [] (laws_toPt n v6 r7 er7) (by kernel_rfl) (.inl rfl) ?_
        obtain ⟨v8, ev8, H⟩ := bind_some H
        refine LAt.indexO tOk (t := 43) (ty := 0) (x := (.tmp 14)) (y := (.tmp 15)) (d := 21) (g := none) ⟨(.slot 3), [], 0, true, 8, (y3.map Pt.row)⟩ y2 (y2.toNat) (Pt.row v8) _ (by kernel_rfl) (by kernel_rfl) (by kernel_rfl) (by kernel_rfl) rfl (by kernel_rfl) (idx_isE ev8) rfl rfl ?_
        refine LAt.storeU tOk (t := 41) (ty := 0) (ad := (.tmp 21)) (x := (.tmp 20)) (g := none) ⟨.st [(0, 1, 4), (1, 1, 3), (2, 1, 4), (3, 5, 39)], 8, 64, [.lit (.bool false), .lit (.int .i64 0), .lit (.bool false), .lit (.int .i64 0), .lit (.int .i64 0), .lit (.int .i64 0), .lit (.int .i64 0), .lit (.int .i64 0)]⟩ true (Pt.row r7) (.slot 3) [(0, (y2.toNat))] [(0, (y2.toNat))] 8 0 [.sl true 8 (y3.map Pt.row)] (Pt.row v8) [.sl true 8 (y3.map Pt.row)] [.sl true 8 ((y3.set (y2.toNat) r7).map Pt.row)] (by kernel_rfl) (by kernel_rfl) (by kernel_rfl) (by kernel_rfl) (by kernel_rfl) (by kernel_rfl) (getQ_elem rfl (idx_get ev8).2) rfl (by intro h; cases h) (by kernel_rfl) (by kernel_rfl) (by kernel_rfl) (modQ_elem (new := r7) rfl (idx_get ev8).2 rfl) (by kernel_rfl) ?_
        refine LAt.doneU [3, 21, 20, 19, 18, 17, 16, 15, 11, 10, 9, 8, 4, 2, 0] [] (by kernel_rfl) ?_
        show Tr _ _ _ _ _
        refine Tr.at ?_
        refine LAt.runU tOk 3 (by kernel_rfl) ?_
        refine LAt.doneU [4, 13, 12, 3, 21, 20, 19, 18, 17, 16, 15, 11, 10, 9, 8, 2, 0] [] (by kernel_rfl) ?_
        exact Exists.intro (mo5, ((IntKind.wrap .i64 (y2 + 1)), (y3.set (y2.toNat) r7))) (And.intro H (And.intro (Nat.lt_succ_self mo5) (St.sub_of [4, 3, 2, 0] [] (by kernel_rfl))))
  · rintro y4 H
    have H : (laws_toPtS_J1 n y4) = some r := H
    unfold laws_toPtS_J1 at H
    show Tr _ _ _ _ _
    refine Tr.rs ?_
    refine LAt.runU tOk 2 (by kernel_rfl) ?_
    refine LAt.doneU [2, 3] [] (by kernel_rfl) ?_
    refine Tr.ret ?_
    have H := Option.some.inj H
    subst H
    exact Fin.of _ [(false, [.sl true 8 (y4.map Pt.row)])] (by kernel_rfl) rfl rfl

def laws_toFentF (n : Nat) (x0 : Fent) : Option (Fent) :=
  (some x0)
/-- loop.example/g00326/laws.toFent -/
theorem laws_toFent (n : Nat) (x0 : Fent) (r : Fent) (H : laws_toFentF n x0 = some r) : LCall Try.prog 153 [.val true (CV.frzRow (Fent.row x0))] [.val true (Fent.row r)] [] := by
  refine LCall.of_body tOk Try.func153 rfl (c := (.seq (.region 0 (rg Try.f153 0) false) (.seq (.region 1 (rg Try.f153 1) false) (.seq (.region 2 (rg Try.f153 2) false) (.seq (.region 3 (rg Try.f153 3) false) (.seq (.region 4 (rg Try.f153 4) false) (.seq (.region 5 (rg Try.f153 5) false) (.seq (.region 6 (rg Try.f153 6) false) (.seq (.region 7 (rg Try.f153 7) false) .ret))))))))) (by kernel_rfl) (Nat.le_of_ble_eq_true (by kernel_rfl)) 0 (rs := [.cell 2 147]) rfl [] .nil [(true, (Fent.row r))] [] [] fun cx => ?_
  show Tr _ _ _ ⟨20, 0, [(0, .val true (Fent.row x0))], []⟩ _
  unfold laws_toFentF at H
  refine Tr.rs ?_
  refine LAt.runU tOk 2 (by kernel_rfl) ?_
  refine LAt.doneU [2, 1] [2, 1] (by kernel_rfl) ?_
  refine Tr.rs ?_
  refine LAt.runU tOk 1 (by kernel_rfl) ?_
  refine LAt.doneU [3, 2, 1] [3, 2, 1] (by kernel_rfl) ?_
  refine Tr.rs ?_
  refine LAt.runU tOk 4 (by kernel_rfl) ?_
  refine LAt.doneU [3, 2, 1] [3, 2, 1] (by kernel_rfl) ?_
  refine Tr.rs ?_
  refine LAt.runU tOk 4 (by kernel_rfl) ?_
  refine LAt.doneU [3, 2, 1] [3, 2, 1] (by kernel_rfl) ?_
  refine Tr.rs ?_
  refine LAt.runU tOk 4 (by kernel_rfl) ?_
  refine LAt.doneU [3, 2, 1] [3, 2, 1] (by kernel_rfl) ?_
  refine Tr.rs ?_
  refine LAt.runU tOk 4 (by kernel_rfl) ?_
  refine LAt.doneU [3, 2, 1] [3, 2, 1] (by kernel_rfl) ?_
  refine Tr.rs ?_
  refine LAt.runU tOk 4 (by kernel_rfl) ?_
  refine LAt.doneU [3, 2] [3, 2] (by kernel_rfl) ?_
  refine Tr.rs ?_
  refine LAt.runU tOk 2 (by kernel_rfl) ?_
  refine LAt.doneU [2] [2] (by kernel_rfl) ?_
  refine Tr.ret ?_
  have H := Option.some.inj H
  subst H
  exact Fin.of _ [(true, (Fent.row x0))] (by kernel_rfl) rfl rfl

def laws_toFentS_J1 (n : Nat) (y4 : (List Fent)) : Option ((List Fent)) :=
  (some y4)
def laws_toFentS_L2 (n : Nat) : Nat → (List Fent) → Int → (List Fent) → Option (((List Fent)) ⊕ ((List Fent)))
  | 0, _, _, _ => none
  | mo5 + 1, x0, y2, y3 => (bif (decide (y2 < (x0.length : Int))) then ((idx x0 y2).bind fun v6 => ((laws_toFentF n v6).bind fun r7 => ((idx y3 y2).bind fun v8 => (laws_toFentS_L2 n mo5 x0 (IntKind.wrap .i64 (y2 + 1)) (y3.set (y2.toNat) r7))))) else (some (Sum.inl y3)))
def laws_toFentSF (n : Nat) (x0 : (List Fent)) : Option ((List Fent)) :=
  (bif (decide (0 ≤ (x0.length : Int)) && decide ((x0.length : Int) ≤ 268435456)) then ((laws_toFentS_L2 n n x0 0 (List.replicate ((x0.length : Int)).toNat (⟨0, 0, 0, 0, false⟩ : Fent))).bind fun o => match o with | .inl y4 => (laws_toFentS_J1 n y4) | .inr r => some r) else none)
/-- loop.example/g00326/laws.toFentS -/
theorem laws_toFentS (n : Nat) (x0 : (List Fent)) (r : (List Fent)) (H : laws_toFentSF n x0 = some r) : LCall Try.prog 117 [.val false [.sl false 5 (CV.frzEs (x0.map Fent.row))]] [.val false [.sl true 5 (r.map Fent.row)]] [] := by
  refine LCall.of_body tOk Try.func117 rfl (c := (.seq (.region 0 (rg Try.f117 0) false) (.seq (.region 1 (rg Try.f117 1) false) (.seq (.seq (.region 2 (rg Try.f117 2) false) (.block 0 (.loop (.seq (.seq (.region 3 (rg Try.f117 3) false) (.cond (.tmp 11) .skip (.exit 0))) (.seq (.block 1 (.region 5 (rg Try.f117 5) false)) (.region 4 (rg Try.f117 4) false)))))) (.seq (.region 6 (rg Try.f117 6) false) .ret))))) (by kernel_rfl) (Nat.le_of_ble_eq_true (by kernel_rfl)) 0 (rs := [.tmp 2]) rfl [] .nil [(false, [.sl true 5 (r.map Fent.row)])] [] [] fun cx => ?_
  show Tr _ _ _ ⟨23, 0, [(0, .val false [.sl false 5 (CV.frzEs (x0.map Fent.row))])], []⟩ _
  unfold laws_toFentSF at H
  refine Tr.rs ?_
  refine LAt.runU tOk 1 (by kernel_rfl) ?_
  refine LAt.doneU [2, 0] [] (by kernel_rfl) ?_
  refine Tr.rs ?_
  refine LAt.runU tOk 1 (by kernel_rfl) ?_
  refine LAt.lenE tOk (t := 72) (ty := 3) (e := 186) (x := (.tmp 5)) (d := 6) (g := none) ⟨(.slot 5), [], 0, false, 5, (CV.frzEs (x0.map Fent.row))⟩ (x0).length _ (by kernel_rfl) (by kernel_rfl) (by kernel_rfl) (by kernel_rfl) (by kernel_rfl) (frz_len _ _) rfl ?_
  obtain ⟨hg1, H⟩ := guard_some H
  refine LAt.makeG tOk (t := 77) (ty := 77) (e := 147) (x := (.tmp 6)) (d := 7) (g := none) ⟨.st [(0, 1, 3), (1, 1, 3), (2, 1, 3), (3, 1, 3), (4, 1, 4)], 5, 40, [.lit (.int .i64 0), .lit (.int .i64 0), .lit (.int .i64 0), .lit (.int .i64 0), .lit (.bool false)]⟩ (x0.length : Int) ((List.replicate ((x0.length : Int)).toNat (⟨0, 0, 0, 0, false⟩ : Fent)).map Fent.row) _ (by kernel_rfl) (by kernel_rfl) (by kernel_rfl) (by kernel_rfl) (by kernel_rfl) (by kernel_rfl) hg1 (by kernel_rfl) (rep_map _ rfl) rfl ?_
  refine LAt.moveU (T := lk tab) (ty := 77) (x := (.tmp 7)) (d := 3) (g := none) false [.sl true 5 ((List.replicate ((x0.length : Int)).toNat (⟨0, 0, 0, 0, false⟩ : Fent)).map Fent.row)] (by kernel_rfl) (by kernel_rfl) (by kernel_rfl) (by kernel_rfl) (by kernel_rfl) ?_
  refine LAt.doneU [3, 2, 0] [] (by kernel_rfl) ?_
  refine Tr.seq ?_
  refine Tr.rs ?_
  refine LAt.runU tOk 1 (by kernel_rfl) ?_
  refine LAt.doneU [4, 3, 2, 0] [] (by kernel_rfl) ?_
  obtain ⟨o5, eo5, Ho5⟩ := bind_some H
  clear H
  refine Tr.mid (ι := (List Fent)) (fun v => ⟨23, 0, [(3, .val false [.sl true 5 (v.map Fent.row)]), (2, .val false [.sl true 5 (([] : List Fent).map Fent.row)])], []⟩) (fun v => laws_toFentS_J1 n v = some r) ?_ ?_
  · refine Tr.block ?_
    refine Tr.loop (ι := Nat × (Int × (List Fent))) (fun v => ⟨23, 0, [(4, .val false [.lit (.int .i64 v.2.1)]), (3, .val false [.sl true 5 (v.2.2.map Fent.row)]), (2, .val false [.sl true 5 (([] : List Fent).map Fent.row)]), (0, .val false [.sl false 5 (CV.frzEs (x0.map Fent.row))])], []⟩) (fun v => laws_toFentS_L2 n v.1 x0 v.2.1 v.2.2 = some o5) (fun v => v.1) (n, (0, (List.replicate ((x0.length : Int)).toNat (⟨0, 0, 0, 0, false⟩ : Fent)))) eo5 (St.sub_of [4, 3, 2, 0] [] (by kernel_rfl)) ?_
    rintro ⟨mo5, y2, y3⟩ H
    have H : laws_toFentS_L2 n mo5 x0 y2 y3 = some o5 := H
    obtain _ | mo5 := mo5
    · cases (show (none : Option _) = some o5 from H)
    · rw [laws_toFentS_L2] at H
      refine Tr.seq ?_
      refine Tr.rs ?_
      refine LAt.runU tOk 2 (by kernel_rfl) ?_
      refine LAt.lenE tOk (t := 72) (ty := 3) (e := 186) (x := (.tmp 9)) (d := 10) (g := none) ⟨(.slot 9), [], 0, false, 5, (CV.frzEs (x0.map Fent.row))⟩ (x0).length _ (by kernel_rfl) (by kernel_rfl) (by kernel_rfl) (by kernel_rfl) (by kernel_rfl) (frz_len _ _) rfl ?_
      refine LAt.runU tOk 1 (by kernel_rfl) ?_
      refine LAt.doneU [11, 10, 9, 8, 4, 3, 2, 0] [] (by kernel_rfl) ?_
      refine Tr.to ⟨23, 0, [(11, .val false [.lit (.bool (decide (y2 < (x0.length : Int))))]), (10, .val false [.lit (.int .i64 (x0.length : Int))]), (9, .val false [.sl false 5 (CV.frzEs (x0.map Fent.row))]), (8, .val false [.lit (.int .i64 y2)]), (4, .val false [.lit (.int .i64 y2)]), (3, .val false [.sl true 5 (y3.map Fent.row)]), (2, .val false [.sl true 5 (([] : List Fent).map Fent.row)]), (0, .val false [.sl false 5 (CV.frzEs (x0.map Fent.row))])], []⟩ (by kernel_rfl) ?_
      cases h1 : (decide (y2 < (x0.length : Int)))
      · have H := bifF h1 H
        refine Tr.cond (b := false) (by kernel_rfl) (fun h => nomatch h) (fun _ => ?_)
        refine Tr.exit ?_
        refine And.intro (fun _ => ?_) (fun h => absurd rfl h)
        have H := Option.some.inj H
        subst H
        have H := Ho5
        dsimp only at H
        exact Exists.intro y3 (And.intro H (St.sub_of [3, 2] [] (by kernel_rfl)))
      · have H := bifT h1 H
        refine Tr.cond (b := true) (by kernel_rfl) (fun _ => ?_) (fun h => nomatch h)
        refine Tr.skip ?_
        show Tr _ _ _ _ _
        refine Tr.seq ?_
        refine Tr.block ?_
        refine Tr.at ?_
        refine LAt.runU tOk 4 (by kernel_rfl) ?_
        obtain ⟨v6, ev6, H⟩ := bind_some H
        refine LAt.indexF tOk (t := 72) (ty := 0) (x := (.tmp 16)) (y := (.tmp 17)) (d := 18) (g := none) ⟨(.slot 16), [], 0, false, 5, (CV.frzEs (x0.map Fent.row))⟩ y2 (Fent.row v6) _ (by kernel_rfl) (by kernel_rfl) (by kernel_rfl) (by kernel_rfl) rfl (idx_isF ev6) rfl ?_
        refine LAt.runU tOk 1 (by kernel_rfl) ?_
        obtain ⟨r7, er7, H⟩ := bind_some H
        refine LAt.callU tOk [.rd] (f := 153) (av := #[.tmp 19]) (ats := #[186]) (d := (some 20)) (ty := 147) (g := none) (by kernel_rfl) (by kernel_rfl) (by kernel_rfl) [] (laws_toFent n v6 r7 er7) (by kernel_rfl) (.inl rfl) ?_
        obtain ⟨v8, ev8, H⟩ := bind_some H
        refine LAt.indexO tOk (t := 77) (ty := 0) (x := (.tmp 14)) (y := (.tmp 15)) (d := 21) (g := none) ⟨(.slot 3), [], 0, true, 5, (y3.map Fent.row)⟩ y2 (y2.toNat) (Fent.row v8) _ (by kernel_rfl) (by kernel_rfl) (by kernel_rfl) (by kernel_rfl) rfl (by kernel_rfl) (idx_isE ev8) rfl rfl ?_
        refine LAt.storeU tOk (t := 147) (ty := 0) (ad := (.tmp 21)) (x := (.tmp 20)) (g := none) ⟨.st [(0, 1, 3), (1, 1, 3), (2, 1, 3), (3, 1, 3), (4, 1, 4)], 5, 40, [.lit (.int .i64 0), .lit (.int .i64 0), .lit (.int .i64 0), .lit (.int .i64 0), .lit (.bool false)]⟩ true (Fent.row r7) (.slot 3) [(0, (y2.toNat))] [(0, (y2.toNat))] 5 0 [.sl true 5 (y3.map Fent.row)] (Fent.row v8) [.sl true 5 (y3.map Fent.row)] [.sl true 5 ((y3.set (y2.toNat) r7).map Fent.row)] (by kernel_rfl) (by kernel_rfl) (by kernel_rfl) (by kernel_rfl) (by kernel_rfl) (by kernel_rfl) (getQ_elem rfl (idx_get ev8).2) rfl (by intro h; cases h) (by kernel_rfl) (by kernel_rfl) (by kernel_rfl) (modQ_elem (new := r7) rfl (idx_get ev8).2 rfl) (by kernel_rfl) ?_
        refine LAt.doneU [3, 21, 20, 19, 18, 17, 16, 15, 11, 10, 9, 8, 4, 2, 0] [] (by kernel_rfl) ?_
        show Tr _ _ _ _ _
        refine Tr.at ?_
        refine LAt.runU tOk 3 (by kernel_rfl) ?_
        refine LAt.doneU [4, 13, 12, 3, 21, 20, 19, 18, 17, 16, 15, 11, 10, 9, 8, 2, 0] [] (by kernel_rfl) ?_
        exact Exists.intro (mo5, ((IntKind.wrap .i64 (y2 + 1)), (y3.set (y2.toNat) r7))) (And.intro H (And.intro (Nat.lt_succ_self mo5) (St.sub_of [4, 3, 2, 0] [] (by kernel_rfl))))
  · rintro y4 H
    have H : (laws_toFentS_J1 n y4) = some r := H
    unfold laws_toFentS_J1 at H
    show Tr _ _ _ _ _
    refine Tr.rs ?_
    refine LAt.runU tOk 2 (by kernel_rfl) ?_
    refine LAt.doneU [2, 3] [] (by kernel_rfl) ?_
    refine Tr.ret ?_
    have H := Option.some.inj H
    subst H
    exact Fin.of _ [(false, [.sl true 5 (y4.map Fent.row)])] (by kernel_rfl) rfl rfl

def laws_toVrowF (n : Nat) (x0 : Vrow) : Option (Vrow) :=
  (some x0)
/-- loop.example/g00326/laws.toVrow -/
theorem laws_toVrow (n : Nat) (x0 : Vrow) (r : Vrow) (H : laws_toVrowF n x0 = some r) : LCall Try.prog 43 [.val true (CV.frzRow (Vrow.row x0))] [.val true (Vrow.row r)] [] := by
  refine LCall.of_body tOk Try.func43 rfl (c := (.seq (.region 0 (rg Try.f43 0) false) (.seq (.region 1 (rg Try.f43 1) false) (.seq (.region 2 (rg Try.f43 2) false) (.seq (.region 3 (rg Try.f43 3) false) (.seq (.region 4 (rg Try.f43 4) false) (.seq (.region 5 (rg Try.f43 5) false) .ret))))))) (by kernel_rfl) (Nat.le_of_ble_eq_true (by kernel_rfl)) 0 (rs := [.cell 2 56]) rfl [] .nil [(true, (Vrow.row r))] [] [] fun cx => ?_
  show Tr _ _ _ ⟨14, 0, [(0, .val true (Vrow.row x0))], []⟩ _
  unfold laws_toVrowF at H
  refine Tr.rs ?_
  refine LAt.runU tOk 2 (by kernel_rfl) ?_
  refine LAt.doneU [2, 1] [2, 1] (by kernel_rfl) ?_
  refine Tr.rs ?_
  refine LAt.runU tOk 1 (by kernel_rfl) ?_
  refine LAt.doneU [3, 2, 1] [3, 2, 1] (by kernel_rfl) ?_
  refine Tr.rs ?_
  refine LAt.runU tOk 4 (by kernel_rfl) ?_
  refine LAt.doneU [3, 2, 1] [3, 2, 1] (by kernel_rfl) ?_
  refine Tr.rs ?_
  refine LAt.runU tOk 4 (by kernel_rfl) ?_
  refine LAt.doneU [3, 2, 1] [3, 2, 1] (by kernel_rfl) ?_
  refine Tr.rs ?_
  refine LAt.runU tOk 4 (by kernel_rfl) ?_
  refine LAt.doneU [3, 2] [3, 2] (by kernel_rfl) ?_
  refine Tr.rs ?_
  refine LAt.runU tOk 2 (by kernel_rfl) ?_
  refine LAt.doneU [2] [2] (by kernel_rfl) ?_
  refine Tr.ret ?_
  have H := Option.some.inj H
  subst H
  exact Fin.of _ [(true, (Vrow.row x0))] (by kernel_rfl) rfl rfl

def laws_toVrowS_J1 (n : Nat) (y4 : (List Vrow)) : Option ((List Vrow)) :=
  (some y4)
def laws_toVrowS_L2 (n : Nat) : Nat → (List Vrow) → Int → (List Vrow) → Option (((List Vrow)) ⊕ ((List Vrow)))
  | 0, _, _, _ => none
  | mo5 + 1, x0, y2, y3 => (bif (decide (y2 < (x0.length : Int))) then ((idx x0 y2).bind fun v6 => ((laws_toVrowF n v6).bind fun r7 => ((idx y3 y2).bind fun v8 => (laws_toVrowS_L2 n mo5 x0 (IntKind.wrap .i64 (y2 + 1)) (y3.set (y2.toNat) r7))))) else (some (Sum.inl y3)))
def laws_toVrowSF (n : Nat) (x0 : (List Vrow)) : Option ((List Vrow)) :=
  (bif (decide (0 ≤ (x0.length : Int)) && decide ((x0.length : Int) ≤ 268435456)) then ((laws_toVrowS_L2 n n x0 0 (List.replicate ((x0.length : Int)).toNat (⟨0, 0, 0⟩ : Vrow))).bind fun o => match o with | .inl y4 => (laws_toVrowS_J1 n y4) | .inr r => some r) else none)
/-- loop.example/g00326/laws.toVrowS -/
theorem laws_toVrowS (n : Nat) (x0 : (List Vrow)) (r : (List Vrow)) (H : laws_toVrowSF n x0 = some r) : LCall Try.prog 79 [.val false [.sl false 3 (CV.frzEs (x0.map Vrow.row))]] [.val false [.sl true 3 (r.map Vrow.row)]] [] := by
  refine LCall.of_body tOk Try.func79 rfl (c := (.seq (.region 0 (rg Try.f79 0) false) (.seq (.region 1 (rg Try.f79 1) false) (.seq (.seq (.region 2 (rg Try.f79 2) false) (.block 0 (.loop (.seq (.seq (.region 3 (rg Try.f79 3) false) (.cond (.tmp 11) .skip (.exit 0))) (.seq (.block 1 (.region 5 (rg Try.f79 5) false)) (.region 4 (rg Try.f79 4) false)))))) (.seq (.region 6 (rg Try.f79 6) false) .ret))))) (by kernel_rfl) (Nat.le_of_ble_eq_true (by kernel_rfl)) 0 (rs := [.tmp 2]) rfl [] .nil [(false, [.sl true 3 (r.map Vrow.row)])] [] [] fun cx => ?_
  show Tr _ _ _ ⟨23, 0, [(0, .val false [.sl false 3 (CV.frzEs (x0.map Vrow.row))])], []⟩ _
  unfold laws_toVrowSF at H
  refine Tr.rs ?_
  refine LAt.runU tOk 1 (by kernel_rfl) ?_
  refine LAt.doneU [2, 0] [] (by kernel_rfl) ?_
  refine Tr.rs ?_
  refine LAt.runU tOk 1 (by kernel_rfl) ?_
  refine LAt.lenE tOk (t := 22) (ty := 3) (e := 62) (x := (.tmp 5)) (d := 6) (g := none) ⟨(.slot 5), [], 0, false, 3, (CV.frzEs (x0.map Vrow.row))⟩ (x0).length _ (by kernel_rfl) (by kernel_rfl) (by kernel_rfl) (by kernel_rfl) (by kernel_rfl) (frz_len _ _) rfl ?_
  obtain ⟨hg1, H⟩ := guard_some H
  refine LAt.makeG tOk (t := 27) (ty := 27) (e := 56) (x := (.tmp 6)) (d := 7) (g := none) ⟨.st [(0, 1, 3), (1, 1, 3), (2, 1, 3)], 3, 24, [.lit (.int .i64 0), .lit (.int .i64 0), .lit (.int .i64 0)]⟩ (x0.length : Int) ((List.replicate ((x0.length : Int)).toNat (⟨0, 0, 0⟩ : Vrow)).map Vrow.row) _ (by kernel_rfl) (by kernel_rfl) (by kernel_rfl) (by kernel_rfl) (by kernel_rfl) (by kernel_rfl) hg1 (by kernel_rfl) (rep_map _ rfl) rfl ?_
  refine LAt.moveU (T := lk tab) (ty := 27) (x := (.tmp 7)) (d := 3) (g := none) false [.sl true 3 ((List.replicate ((x0.length : Int)).toNat (⟨0, 0, 0⟩ : Vrow)).map Vrow.row)] (by kernel_rfl) (by kernel_rfl) (by kernel_rfl) (by kernel_rfl) (by kernel_rfl) ?_
  refine LAt.doneU [3, 2, 0] [] (by kernel_rfl) ?_
  refine Tr.seq ?_
  refine Tr.rs ?_
  refine LAt.runU tOk 1 (by kernel_rfl) ?_
  refine LAt.doneU [4, 3, 2, 0] [] (by kernel_rfl) ?_
  obtain ⟨o5, eo5, Ho5⟩ := bind_some H
  clear H
  refine Tr.mid (ι := (List Vrow)) (fun v => ⟨23, 0, [(3, .val false [.sl true 3 (v.map Vrow.row)]), (2, .val false [.sl true 3 (([] : List Vrow).map Vrow.row)])], []⟩) (fun v => laws_toVrowS_J1 n v = some r) ?_ ?_
  · refine Tr.block ?_
    refine Tr.loop (ι := Nat × (Int × (List Vrow))) (fun v => ⟨23, 0, [(4, .val false [.lit (.int .i64 v.2.1)]), (3, .val false [.sl true 3 (v.2.2.map Vrow.row)]), (2, .val false [.sl true 3 (([] : List Vrow).map Vrow.row)]), (0, .val false [.sl false 3 (CV.frzEs (x0.map Vrow.row))])], []⟩) (fun v => laws_toVrowS_L2 n v.1 x0 v.2.1 v.2.2 = some o5) (fun v => v.1) (n, (0, (List.replicate ((x0.length : Int)).toNat (⟨0, 0, 0⟩ : Vrow)))) eo5 (St.sub_of [4, 3, 2, 0] [] (by kernel_rfl)) ?_
    rintro ⟨mo5, y2, y3⟩ H
    have H : laws_toVrowS_L2 n mo5 x0 y2 y3 = some o5 := H
    obtain _ | mo5 := mo5
    · cases (show (none : Option _) = some o5 from H)
    · rw [laws_toVrowS_L2] at H
      refine Tr.seq ?_
      refine Tr.rs ?_
      refine LAt.runU tOk 2 (by kernel_rfl) ?_
      refine LAt.lenE tOk (t := 22) (ty := 3) (e := 62) (x := (.tmp 9)) (d := 10) (g := none) ⟨(.slot 9), [], 0, false, 3, (CV.frzEs (x0.map Vrow.row))⟩ (x0).length _ (by kernel_rfl) (by kernel_rfl) (by kernel_rfl) (by kernel_rfl) (by kernel_rfl) (frz_len _ _) rfl ?_
      refine LAt.runU tOk 1 (by kernel_rfl) ?_
      refine LAt.doneU [11, 10, 9, 8, 4, 3, 2, 0] [] (by kernel_rfl) ?_
      refine Tr.to ⟨23, 0, [(11, .val false [.lit (.bool (decide (y2 < (x0.length : Int))))]), (10, .val false [.lit (.int .i64 (x0.length : Int))]), (9, .val false [.sl false 3 (CV.frzEs (x0.map Vrow.row))]), (8, .val false [.lit (.int .i64 y2)]), (4, .val false [.lit (.int .i64 y2)]), (3, .val false [.sl true 3 (y3.map Vrow.row)]), (2, .val false [.sl true 3 (([] : List Vrow).map Vrow.row)]), (0, .val false [.sl false 3 (CV.frzEs (x0.map Vrow.row))])], []⟩ (by kernel_rfl) ?_
      cases h1 : (decide (y2 < (x0.length : Int)))
      · have H := bifF h1 H
        refine Tr.cond (b := false) (by kernel_rfl) (fun h => nomatch h) (fun _ => ?_)
        refine Tr.exit ?_
        refine And.intro (fun _ => ?_) (fun h => absurd rfl h)
        have H := Option.some.inj H
        subst H
        have H := Ho5
        dsimp only at H
        exact Exists.intro y3 (And.intro H (St.sub_of [3, 2] [] (by kernel_rfl)))
      · have H := bifT h1 H
        refine Tr.cond (b := true) (by kernel_rfl) (fun _ => ?_) (fun h => nomatch h)
        refine Tr.skip ?_
        show Tr _ _ _ _ _
        refine Tr.seq ?_
        refine Tr.block ?_
        refine Tr.at ?_
        refine LAt.runU tOk 4 (by kernel_rfl) ?_
        obtain ⟨v6, ev6, H⟩ := bind_some H
        refine LAt.indexF tOk (t := 22) (ty := 0) (x := (.tmp 16)) (y := (.tmp 17)) (d := 18) (g := none) ⟨(.slot 16), [], 0, false, 3, (CV.frzEs (x0.map Vrow.row))⟩ y2 (Vrow.row v6) _ (by kernel_rfl) (by kernel_rfl) (by kernel_rfl) (by kernel_rfl) rfl (idx_isF ev6) rfl ?_
        refine LAt.runU tOk 1 (by kernel_rfl) ?_
        obtain ⟨r7, er7, H⟩ := bind_some H
        refine LAt.callU tOk [.rd] (f := 43) (av := #[.tmp 19]) (ats := #[62]) (d := (some 20)) (ty := 56) (g := none) (by kernel_rfl) (by kernel_rfl) (by kernel_rfl) [] (laws_toVrow n v6 r7 er7) (by kernel_rfl) (.inl rfl) ?_
        obtain ⟨v8, ev8, H⟩ := bind_some H
        refine LAt.indexO tOk (t := 27) (ty := 0) (x := (.tmp 14)) (y := (.tmp 15)) (d := 21) (g := none) ⟨(.slot 3), [], 0, true, 3, (y3.map Vrow.row)⟩ y2 (y2.toNat) (Vrow.row v8) _ (by kernel_rfl) (by kernel_rfl) (by kernel_rfl) (by kernel_rfl) rfl (by kernel_rfl) (idx_isE ev8) rfl rfl ?_
        refine LAt.storeU tOk (t := 56) (ty := 0) (ad := (.tmp 21)) (x := (.tmp 20)) (g := none) ⟨.st [(0, 1, 3), (1, 1, 3), (2, 1, 3)], 3, 24, [.lit (.int .i64 0), .lit (.int .i64 0), .lit (.int .i64 0)]⟩ true (Vrow.row r7) (.slot 3) [(0, (y2.toNat))] [(0, (y2.toNat))] 3 0 [.sl true 3 (y3.map Vrow.row)] (Vrow.row v8) [.sl true 3 (y3.map Vrow.row)] [.sl true 3 ((y3.set (y2.toNat) r7).map Vrow.row)] (by kernel_rfl) (by kernel_rfl) (by kernel_rfl) (by kernel_rfl) (by kernel_rfl) (by kernel_rfl) (getQ_elem rfl (idx_get ev8).2) rfl (by intro h; cases h) (by kernel_rfl) (by kernel_rfl) (by kernel_rfl) (modQ_elem (new := r7) rfl (idx_get ev8).2 rfl) (by kernel_rfl) ?_
        refine LAt.doneU [3, 21, 20, 19, 18, 17, 16, 15, 11, 10, 9, 8, 4, 2, 0] [] (by kernel_rfl) ?_
        show Tr _ _ _ _ _
        refine Tr.at ?_
        refine LAt.runU tOk 3 (by kernel_rfl) ?_
        refine LAt.doneU [4, 13, 12, 3, 21, 20, 19, 18, 17, 16, 15, 11, 10, 9, 8, 2, 0] [] (by kernel_rfl) ?_
        exact Exists.intro (mo5, ((IntKind.wrap .i64 (y2 + 1)), (y3.set (y2.toNat) r7))) (And.intro H (And.intro (Nat.lt_succ_self mo5) (St.sub_of [4, 3, 2, 0] [] (by kernel_rfl))))
  · rintro y4 H
    have H : (laws_toVrowS_J1 n y4) = some r := H
    unfold laws_toVrowS_J1 at H
    show Tr _ _ _ _ _
    refine Tr.rs ?_
    refine LAt.runU tOk 2 (by kernel_rfl) ?_
    refine LAt.doneU [2, 3] [] (by kernel_rfl) ?_
    refine Tr.ret ?_
    have H := Option.some.inj H
    subst H
    exact Fin.of _ [(false, [.sl true 3 (y4.map Vrow.row)])] (by kernel_rfl) rfl rfl

def laws_toIntS_J1 (n : Nat) (y4 : (List Int)) : Option ((List Int)) :=
  (some y4)
def laws_toIntS_L2 (n : Nat) : Nat → (List Int) → Int → (List Int) → Option (((List Int)) ⊕ ((List Int)))
  | 0, _, _, _ => none
  | mo5 + 1, x0, y2, y3 => (bif (decide (y2 < (x0.length : Int))) then ((idx x0 y2).bind fun v6 => ((idx y3 y2).bind fun v7 => (laws_toIntS_L2 n mo5 x0 (IntKind.wrap .i64 (y2 + 1)) (y3.set (y2.toNat) v6)))) else (some (Sum.inl y3)))
def laws_toIntSF (n : Nat) (x0 : (List Int)) : Option ((List Int)) :=
  (bif (decide (0 ≤ (x0.length : Int)) && decide ((x0.length : Int) ≤ 268435456)) then ((laws_toIntS_L2 n n x0 0 (List.replicate ((x0.length : Int)).toNat 0)).bind fun o => match o with | .inl y4 => (laws_toIntS_J1 n y4) | .inr r => some r) else none)
/-- loop.example/g00326/laws.toIntS -/
theorem laws_toIntS (n : Nat) (x0 : (List Int)) (r : (List Int)) (H : laws_toIntSF n x0 = some r) : LCall Try.prog 80 [.val false [.sl false 1 (CV.frzEs (x0.map intRow))]] [.val false [.sl true 1 (r.map intRow)]] [] := by
  refine LCall.of_body tOk Try.func80 rfl (c := (.seq (.region 0 (rg Try.f80 0) false) (.seq (.region 1 (rg Try.f80 1) false) (.seq (.seq (.region 2 (rg Try.f80 2) false) (.block 0 (.loop (.seq (.seq (.region 3 (rg Try.f80 3) false) (.cond (.tmp 11) .skip (.exit 0))) (.seq (.block 1 (.region 5 (rg Try.f80 5) false)) (.region 4 (rg Try.f80 4) false)))))) (.seq (.region 6 (rg Try.f80 6) false) .ret))))) (by kernel_rfl) (Nat.le_of_ble_eq_true (by kernel_rfl)) 0 (rs := [.tmp 2]) rfl [] .nil [(false, [.sl true 1 (r.map intRow)])] [] [] fun cx => ?_
  show Tr _ _ _ ⟨22, 0, [(0, .val false [.sl false 1 (CV.frzEs (x0.map intRow))])], []⟩ _
  unfold laws_toIntSF at H
  refine Tr.rs ?_
  refine LAt.runU tOk 1 (by kernel_rfl) ?_
  refine LAt.doneU [2, 0] [] (by kernel_rfl) ?_
  refine Tr.rs ?_
  refine LAt.runU tOk 1 (by kernel_rfl) ?_
  refine LAt.lenE tOk (t := 23) (ty := 3) (e := 3) (x := (.tmp 5)) (d := 6) (g := none) ⟨(.slot 5), [], 0, false, 1, (CV.frzEs (x0.map intRow))⟩ (x0).length _ (by kernel_rfl) (by kernel_rfl) (by kernel_rfl) (by kernel_rfl) (by kernel_rfl) (frz_len _ _) rfl ?_
  obtain ⟨hg1, H⟩ := guard_some H
  refine LAt.makeG tOk (t := 23) (ty := 23) (e := 3) (x := (.tmp 6)) (d := 7) (g := none) ⟨.int .i64, 1, 8, [.lit (.int .i64 0)]⟩ (x0.length : Int) ((List.replicate ((x0.length : Int)).toNat 0).map intRow) _ (by kernel_rfl) (by kernel_rfl) (by kernel_rfl) (by kernel_rfl) (by kernel_rfl) (by kernel_rfl) hg1 (by kernel_rfl) (rep_map _ rfl) rfl ?_
  refine LAt.moveU (T := lk tab) (ty := 23) (x := (.tmp 7)) (d := 3) (g := none) false [.sl true 1 ((List.replicate ((x0.length : Int)).toNat 0).map intRow)] (by kernel_rfl) (by kernel_rfl) (by kernel_rfl) (by kernel_rfl) (by kernel_rfl) ?_
  refine LAt.doneU [3, 2, 0] [] (by kernel_rfl) ?_
  refine Tr.seq ?_
  refine Tr.rs ?_
  refine LAt.runU tOk 1 (by kernel_rfl) ?_
  refine LAt.doneU [4, 3, 2, 0] [] (by kernel_rfl) ?_
  obtain ⟨o5, eo5, Ho5⟩ := bind_some H
  clear H
  refine Tr.mid (ι := (List Int)) (fun v => ⟨22, 0, [(3, .val false [.sl true 1 (v.map intRow)]), (2, .val false [.sl true 1 (([] : List Int).map intRow)])], []⟩) (fun v => laws_toIntS_J1 n v = some r) ?_ ?_
  · refine Tr.block ?_
    refine Tr.loop (ι := Nat × (Int × (List Int))) (fun v => ⟨22, 0, [(4, .val false [.lit (.int .i64 v.2.1)]), (3, .val false [.sl true 1 (v.2.2.map intRow)]), (2, .val false [.sl true 1 (([] : List Int).map intRow)]), (0, .val false [.sl false 1 (CV.frzEs (x0.map intRow))])], []⟩) (fun v => laws_toIntS_L2 n v.1 x0 v.2.1 v.2.2 = some o5) (fun v => v.1) (n, (0, (List.replicate ((x0.length : Int)).toNat 0))) eo5 (St.sub_of [4, 3, 2, 0] [] (by kernel_rfl)) ?_
    rintro ⟨mo5, y2, y3⟩ H
    have H : laws_toIntS_L2 n mo5 x0 y2 y3 = some o5 := H
    obtain _ | mo5 := mo5
    · cases (show (none : Option _) = some o5 from H)
    · rw [laws_toIntS_L2] at H
      refine Tr.seq ?_
      refine Tr.rs ?_
      refine LAt.runU tOk 2 (by kernel_rfl) ?_
      refine LAt.lenE tOk (t := 23) (ty := 3) (e := 3) (x := (.tmp 9)) (d := 10) (g := none) ⟨(.slot 9), [], 0, false, 1, (CV.frzEs (x0.map intRow))⟩ (x0).length _ (by kernel_rfl) (by kernel_rfl) (by kernel_rfl) (by kernel_rfl) (by kernel_rfl) (frz_len _ _) rfl ?_
      refine LAt.runU tOk 1 (by kernel_rfl) ?_
      refine LAt.doneU [11, 10, 9, 8, 4, 3, 2, 0] [] (by kernel_rfl) ?_
      refine Tr.to ⟨22, 0, [(11, .val false [.lit (.bool (decide (y2 < (x0.length : Int))))]), (10, .val false [.lit (.int .i64 (x0.length : Int))]), (9, .val false [.sl false 1 (CV.frzEs (x0.map intRow))]), (8, .val false [.lit (.int .i64 y2)]), (4, .val false [.lit (.int .i64 y2)]), (3, .val false [.sl true 1 (y3.map intRow)]), (2, .val false [.sl true 1 (([] : List Int).map intRow)]), (0, .val false [.sl false 1 (CV.frzEs (x0.map intRow))])], []⟩ (by kernel_rfl) ?_
      cases h1 : (decide (y2 < (x0.length : Int)))
      · have H := bifF h1 H
        refine Tr.cond (b := false) (by kernel_rfl) (fun h => nomatch h) (fun _ => ?_)
        refine Tr.exit ?_
        refine And.intro (fun _ => ?_) (fun h => absurd rfl h)
        have H := Option.some.inj H
        subst H
        have H := Ho5
        dsimp only at H
        exact Exists.intro y3 (And.intro H (St.sub_of [3, 2] [] (by kernel_rfl)))
      · have H := bifT h1 H
        refine Tr.cond (b := true) (by kernel_rfl) (fun _ => ?_) (fun h => nomatch h)
        refine Tr.skip ?_
        show Tr _ _ _ _ _
        refine Tr.seq ?_
        refine Tr.block ?_
        refine Tr.at ?_
        refine LAt.runU tOk 4 (by kernel_rfl) ?_
        obtain ⟨v6, ev6, H⟩ := bind_some H
        refine LAt.indexF tOk (t := 23) (ty := 0) (x := (.tmp 16)) (y := (.tmp 17)) (d := 18) (g := none) ⟨(.slot 16), [], 0, false, 1, (CV.frzEs (x0.map intRow))⟩ y2 [.lit (.int .i64 v6)] _ (by kernel_rfl) (by kernel_rfl) (by kernel_rfl) (by kernel_rfl) rfl (idx_isF ev6) rfl ?_
        refine LAt.runU tOk 1 (by kernel_rfl) ?_
        obtain ⟨v7, ev7, H⟩ := bind_some H
        refine LAt.indexO tOk (t := 23) (ty := 0) (x := (.tmp 14)) (y := (.tmp 15)) (d := 20) (g := none) ⟨(.slot 3), [], 0, true, 1, (y3.map intRow)⟩ y2 (y2.toNat) (intRow v7) _ (by kernel_rfl) (by kernel_rfl) (by kernel_rfl) (by kernel_rfl) rfl (by kernel_rfl) (idx_isE ev7) rfl rfl ?_
        refine LAt.storeU tOk (t := 3) (ty := 0) (ad := (.tmp 20)) (x := (.tmp 19)) (g := none) ⟨.int .i64, 1, 8, [.lit (.int .i64 0)]⟩ false [.lit (.int .i64 v6)] (.slot 3) [(0, (y2.toNat))] [(0, (y2.toNat))] 1 0 [.sl true 1 (y3.map intRow)] (intRow v7) [.sl true 1 (y3.map intRow)] [.sl true 1 ((y3.set (y2.toNat) v6).map intRow)] (by kernel_rfl) (by kernel_rfl) (by kernel_rfl) (by kernel_rfl) (by kernel_rfl) (by kernel_rfl) (getQ_elem rfl (idx_get ev7).2) rfl (by intro h; cases h) (by kernel_rfl) (by kernel_rfl) (by kernel_rfl) (modQ_elem (new := v6) rfl (idx_get ev7).2 rfl) (by kernel_rfl) ?_
        refine LAt.doneU [3, 20, 19, 18, 17, 16, 15, 11, 10, 9, 8, 4, 2, 0] [] (by kernel_rfl) ?_
        show Tr _ _ _ _ _
        refine Tr.at ?_
        refine LAt.runU tOk 3 (by kernel_rfl) ?_
        refine LAt.doneU [4, 13, 12, 3, 20, 19, 18, 17, 16, 15, 11, 10, 9, 8, 2, 0] [] (by kernel_rfl) ?_
        exact Exists.intro (mo5, ((IntKind.wrap .i64 (y2 + 1)), (y3.set (y2.toNat) v6))) (And.intro H (And.intro (Nat.lt_succ_self mo5) (St.sub_of [4, 3, 2, 0] [] (by kernel_rfl))))
  · rintro y4 H
    have H : (laws_toIntS_J1 n y4) = some r := H
    unfold laws_toIntS_J1 at H
    show Tr _ _ _ _ _
    refine Tr.rs ?_
    refine LAt.runU tOk 2 (by kernel_rfl) ?_
    refine LAt.doneU [2, 3] [] (by kernel_rfl) ?_
    refine Tr.ret ?_
    have H := Option.some.inj H
    subst H
    exact Fin.of _ [(false, [.sl true 1 (y4.map intRow)])] (by kernel_rfl) rfl rfl

def laws_toVtabF (n : Nat) (x0 : Vtab) : Option (Vtab) :=
  ((laws_toVrowSF n x0.Rows).bind fun r1 => ((laws_toIntSF n x0.Pvid).bind fun r2 => (some (⟨r1, r2⟩ : Vtab))))
/-- loop.example/g00326/laws.toVtab -/
theorem laws_toVtab (n : Nat) (x0 : Vtab) (r : Vtab) (H : laws_toVtabF n x0 = some r) : LCall Try.prog 17 [.val true (CV.frzRow (Vtab.row x0))] [.val true (Vtab.row r)] [] := by
  refine LCall.of_body tOk Try.func17 rfl (c := (.seq (.region 0 (rg Try.f17 0) false) (.seq (.region 1 (rg Try.f17 1) false) (.seq (.region 2 (rg Try.f17 2) false) (.seq (.region 3 (rg Try.f17 3) false) (.seq (.region 4 (rg Try.f17 4) false) .ret)))))) (by kernel_rfl) (Nat.le_of_ble_eq_true (by kernel_rfl)) 0 (rs := [.cell 2 29]) rfl [] .nil [(true, (Vtab.row r))] [] [] fun cx => ?_
  show Tr _ _ _ ⟨13, 0, [(0, .val true (CV.frzRow (Vtab.row x0)))], []⟩ _
  unfold laws_toVtabF at H
  refine Tr.rs ?_
  refine LAt.runU tOk 2 (by kernel_rfl) ?_
  refine LAt.doneU [2, 1] [2, 1] (by kernel_rfl) ?_
  refine Tr.rs ?_
  refine LAt.runU tOk 1 (by kernel_rfl) ?_
  refine LAt.doneU [3, 2, 1] [3, 2, 1] (by kernel_rfl) ?_
  refine Tr.rs ?_
  refine LAt.runU tOk 2 (by kernel_rfl) ?_
  obtain ⟨r1, er1, H⟩ := bind_some H
  refine LAt.callU tOk [.rd] (f := 79) (av := #[.tmp 5]) (ats := #[22]) (d := (some 6)) (ty := 27) (g := none) (by kernel_rfl) (by kernel_rfl) (by kernel_rfl) [] (laws_toVrowS n x0.Rows r1 er1) (by kernel_rfl) (.inl rfl) ?_
  refine LAt.runU tOk 2 (by kernel_rfl) ?_
  refine LAt.doneU [3, 2, 1] [3, 2, 1] (by kernel_rfl) ?_
  refine Tr.rs ?_
  refine LAt.runU tOk 2 (by kernel_rfl) ?_
  obtain ⟨r2, er2, H⟩ := bind_some H
  refine LAt.callU tOk [.rd] (f := 80) (av := #[.tmp 9]) (ats := #[23]) (d := (some 10)) (ty := 23) (g := none) (by kernel_rfl) (by kernel_rfl) (by kernel_rfl) [] (laws_toIntS n x0.Pvid r2 er2) (by kernel_rfl) (.inl rfl) ?_
  refine LAt.runU tOk 2 (by kernel_rfl) ?_
  refine LAt.doneU [3, 2] [3, 2] (by kernel_rfl) ?_
  refine Tr.rs ?_
  refine LAt.runU tOk 2 (by kernel_rfl) ?_
  refine LAt.doneU [2] [2] (by kernel_rfl) ?_
  refine Tr.ret ?_
  have H := Option.some.inj H
  subst H
  exact Fin.of _ [(true, [.sl true 3 (r1.map Vrow.row), .sl true 1 (r2.map intRow)])] (by kernel_rfl) rfl rfl

def laws_toBridgeF (n : Nat) (x0 : Bridge) : Option (Bridge) :=
  ((laws_toPtSF n x0.Ports).bind fun r1 => ((laws_toFentSF n x0.F).bind fun r2 => ((laws_toVtabF n x0.V).bind fun r3 => (some (⟨x0.Id, x0.Name, r1, r2, r3, x0.Ticks, x0.Parse, x0.Word, x0.Drops, x0.Vers⟩ : Bridge)))))
/-- loop.example/g00326/laws.toBridge -/
theorem laws_toBridge (n : Nat) (x0 : Bridge) (r : Bridge) (H : laws_toBridgeF n x0 = some r) : LCall Try.prog 53 [.val true (CV.frzRow (Bridge.row x0))] [.val true (Bridge.row r)] [] := by
  refine LCall.of_body tOk Try.func53 rfl (c := (.seq (.region 0 (rg Try.f53 0) false) (.seq (.region 1 (rg Try.f53 1) false) (.seq (.region 2 (rg Try.f53 2) false) (.seq (.region 3 (rg Try.f53 3) false) (.seq (.region 4 (rg Try.f53 4) false) (.seq (.region 5 (rg Try.f53 5) false) (.seq (.region 6 (rg Try.f53 6) false) (.seq (.region 7 (rg Try.f53 7) false) (.seq (.region 8 (rg Try.f53 8) false) (.seq (.region 9 (rg Try.f53 9) false) (.seq (.region 10 (rg Try.f53 10) false) (.seq (.region 11 (rg Try.f53 11) false) (.seq (.region 12 (rg Try.f53 12) false) .ret)))))))))))))) (by kernel_rfl) (Nat.le_of_ble_eq_true (by kernel_rfl)) 0 (rs := [.cell 2 79]) rfl [] .nil [(true, (Bridge.row r))] [] [] fun cx => ?_
  show Tr _ _ _ ⟨38, 0, [(0, .val true (CV.frzRow (Bridge.row x0)))], []⟩ _
  unfold laws_toBridgeF at H
  refine Tr.rs ?_
  refine LAt.runU tOk 2 (by kernel_rfl) ?_
  refine LAt.doneU [2, 1] [2, 1] (by kernel_rfl) ?_
  refine Tr.rs ?_
  refine LAt.runU tOk 1 (by kernel_rfl) ?_
  refine LAt.doneU [3, 2, 1] [3, 2, 1] (by kernel_rfl) ?_
  refine Tr.rs ?_
  refine LAt.runU tOk 4 (by kernel_rfl) ?_
  refine LAt.doneU [3, 2, 1] [3, 2, 1] (by kernel_rfl) ?_
  refine Tr.rs ?_
  refine LAt.runU tOk 4 (by kernel_rfl) ?_
  refine LAt.doneU [3, 2, 1] [3, 2, 1] (by kernel_rfl) ?_
  refine Tr.rs ?_
  refine LAt.runU tOk 2 (by kernel_rfl) ?_
  obtain ⟨r1, er1, H⟩ := bind_some H
  refine LAt.callU tOk [.rd] (f := 116) (av := #[.tmp 11]) (ats := #[71]) (d := (some 12)) (ty := 43) (g := none) (by kernel_rfl) (by kernel_rfl) (by kernel_rfl) [] (laws_toPtS n x0.Ports r1 er1) (by kernel_rfl) (.inl rfl) ?_
  refine LAt.runU tOk 2 (by kernel_rfl) ?_
  refine LAt.doneU [3, 2, 1] [3, 2, 1] (by kernel_rfl) ?_
  refine Tr.rs ?_
  refine LAt.runU tOk 2 (by kernel_rfl) ?_
  obtain ⟨r2, er2, H⟩ := bind_some H
  refine LAt.callU tOk [.rd] (f := 117) (av := #[.tmp 15]) (ats := #[72]) (d := (some 16)) (ty := 77) (g := none) (by kernel_rfl) (by kernel_rfl) (by kernel_rfl) [] (laws_toFentS n x0.F r2 er2) (by kernel_rfl) (.inl rfl) ?_
  refine LAt.runU tOk 2 (by kernel_rfl) ?_
  refine LAt.doneU [3, 2, 1] [3, 2, 1] (by kernel_rfl) ?_
  refine Tr.rs ?_
  refine LAt.runU tOk 2 (by kernel_rfl) ?_
  obtain ⟨r3, er3, H⟩ := bind_some H
  refine LAt.callU tOk [.rd] (f := 17) (av := #[.tmp 19]) (ats := #[25]) (d := (some 20)) (ty := 29) (g := none) (by kernel_rfl) (by kernel_rfl) (by kernel_rfl) [] (laws_toVtab n x0.V r3 er3) (by kernel_rfl) (.inl rfl) ?_
  refine LAt.runU tOk 2 (by kernel_rfl) ?_
  refine LAt.doneU [3, 2, 1] [3, 2, 1] (by kernel_rfl) ?_
  refine Tr.rs ?_
  refine LAt.runU tOk 4 (by kernel_rfl) ?_
  refine LAt.doneU [3, 2, 1] [3, 2, 1] (by kernel_rfl) ?_
  refine Tr.rs ?_
  refine LAt.runU tOk 4 (by kernel_rfl) ?_
  refine LAt.doneU [3, 2, 1] [3, 2, 1] (by kernel_rfl) ?_
  refine Tr.rs ?_
  refine LAt.runU tOk 4 (by kernel_rfl) ?_
  refine LAt.doneU [3, 2, 1] [3, 2, 1] (by kernel_rfl) ?_
  refine Tr.rs ?_
  refine LAt.runU tOk 4 (by kernel_rfl) ?_
  refine LAt.doneU [3, 2, 1] [3, 2, 1] (by kernel_rfl) ?_
  refine Tr.rs ?_
  refine LAt.runU tOk 4 (by kernel_rfl) ?_
  refine LAt.doneU [3, 2] [3, 2] (by kernel_rfl) ?_
  refine Tr.rs ?_
  refine LAt.runU tOk 2 (by kernel_rfl) ?_
  refine LAt.doneU [2] [2] (by kernel_rfl) ?_
  refine Tr.ret ?_
  have H := Option.some.inj H
  subst H
  exact Fin.of _ [(true, [.lit (.int .i64 x0.Id), .lit (.string x0.Name), .sl true 8 (r1.map Pt.row), .sl true 5 (r2.map Fent.row), .sl true 3 (r3.Rows.map Vrow.row), .sl true 1 (r3.Pvid.map intRow), .lit (.int .i64 x0.Ticks), .lit (.int .i64 x0.Parse), .lit (.int .i64 x0.Word), .lit (.int .i64 x0.Drops), .lit (.int .i64 x0.Vers)])] (by kernel_rfl) rfl rfl

def spec_SameOid_J1 (n : Nat) : Option (Bool) :=
  (some true)
def spec_SameOid_L2 (n : Nat) : Nat → (List Int) → (List Int) → Int → Option ((Unit) ⊕ (Bool))
  | 0, _, _, _ => none
  | mo2 + 1, x0, x1, y1 => (bif (decide (y1 < (x0.length : Int))) then ((idx x0 y1).bind fun v3 => ((idx x1 y1).bind fun v4 => (bif (v3 != v4) then (some (Sum.inr false)) else (spec_SameOid_L2 n mo2 x0 x1 (IntKind.wrap .i64 (y1 + 1)))))) else (some (Sum.inl ())))
def spec_SameOidF (n : Nat) (x0 : (List Int)) (x1 : (List Int)) : Option (Bool) :=
  (bif ((x0.length : Int) != (x1.length : Int)) then (some false) else ((spec_SameOid_L2 n n x0 x1 0).bind fun o => match o with | .inl _ => (spec_SameOid_J1 n) | .inr r => some r))
/-- loop.example/g00326/spec.SameOid -/
theorem spec_SameOid (n : Nat) (x0 : (List Int)) (x1 : (List Int)) (r : Bool) (H : spec_SameOidF n x0 x1 = some r) : LCall Try.prog 115 [.val false [.sl false 1 (CV.frzEs (x0.map intRow))], .val false [.sl false 1 (CV.frzEs (x1.map intRow))]] [.val false [.lit (.bool r)]] [] := by
  refine LCall.of_body tOk Try.func115 rfl (c := (.seq (.region 0 (rg Try.f115 0) false) (.seq (.seq (.region 1 (rg Try.f115 1) false) (.cond (.tmp 10) (.seq (.region 2 (rg Try.f115 2) false) .ret) .skip)) (.seq (.seq (.region 3 (rg Try.f115 3) false) (.block 0 (.loop (.seq (.seq (.region 4 (rg Try.f115 4) false) (.cond (.tmp 14) .skip (.exit 0))) (.seq (.block 1 (.seq (.region 6 (rg Try.f115 6) true) (.cond (.tmp 25) (.seq (.region 7 (rg Try.f115 7) false) .ret) .skip))) (.region 5 (rg Try.f115 5) false)))))) (.seq (.region 8 (rg Try.f115 8) false) .ret))))) (by kernel_rfl) (Nat.le_of_ble_eq_true (by kernel_rfl)) 0 (rs := [.tmp 4]) rfl [] .nil [(false, [.lit (.bool r)])] [] [] fun cx => ?_
  show Tr _ _ _ ⟨26, 0, [(0, .val false [.sl false 1 (CV.frzEs (x0.map intRow))]), (1, .val false [.sl false 1 (CV.frzEs (x1.map intRow))])], []⟩ _
  unfold spec_SameOidF at H
  refine Tr.rs ?_
  refine LAt.runU tOk 1 (by kernel_rfl) ?_
  refine LAt.doneU [4, 0, 1] [] (by kernel_rfl) ?_
  refine Tr.seq ?_
  refine Tr.rs ?_
  refine LAt.runU tOk 1 (by kernel_rfl) ?_
  refine LAt.lenE tOk (t := 23) (ty := 3) (e := 3) (x := (.tmp 6)) (d := 7) (g := none) ⟨(.slot 6), [], 0, false, 1, (CV.frzEs (x0.map intRow))⟩ (x0).length _ (by kernel_rfl) (by kernel_rfl) (by kernel_rfl) (by kernel_rfl) (by kernel_rfl) (frz_len _ _) rfl ?_
  refine LAt.runU tOk 1 (by kernel_rfl) ?_
  refine LAt.lenE tOk (t := 23) (ty := 3) (e := 3) (x := (.tmp 8)) (d := 9) (g := none) ⟨(.slot 8), [], 0, false, 1, (CV.frzEs (x1.map intRow))⟩ (x1).length _ (by kernel_rfl) (by kernel_rfl) (by kernel_rfl) (by kernel_rfl) (by kernel_rfl) (frz_len _ _) rfl ?_
  refine LAt.runU tOk 1 (by kernel_rfl) ?_
  refine LAt.doneU [10, 4, 0, 1] [] (by kernel_rfl) ?_
  refine Tr.to ⟨26, 0, [(10, .val false [.lit (.bool ((x0.length : Int) != (x1.length : Int)))]), (4, .val false [.lit (.bool false)]), (0, .val false [.sl false 1 (CV.frzEs (x0.map intRow))]), (1, .val false [.sl false 1 (CV.frzEs (x1.map intRow))])], []⟩ (by kernel_rfl) ?_
  cases h1 : ((x0.length : Int) != (x1.length : Int))
  · have H := bifF h1 H
    refine Tr.cond (b := false) (by kernel_rfl) (fun h => nomatch h) (fun _ => ?_)
    refine Tr.skip ?_
    show Tr _ _ _ _ _
    refine Tr.seq ?_
    refine Tr.rs ?_
    refine LAt.runU tOk 1 (by kernel_rfl) ?_
    refine LAt.doneU [5, 4, 0, 1] [] (by kernel_rfl) ?_
    obtain ⟨o2, eo2, Ho2⟩ := bind_some H
    clear H
    refine Tr.mid (ι := Unit) (fun v => ⟨26, 0, [(4, .val false [.lit (.bool false)])], []⟩) (fun v => spec_SameOid_J1 n = some r) ?_ ?_
    · refine Tr.block ?_
      refine Tr.loop (ι := Nat × (Int)) (fun v => ⟨26, 0, [(5, .val false [.lit (.int .i64 v.2)]), (4, .val false [.lit (.bool false)]), (0, .val false [.sl false 1 (CV.frzEs (x0.map intRow))]), (1, .val false [.sl false 1 (CV.frzEs (x1.map intRow))])], []⟩) (fun v => spec_SameOid_L2 n v.1 x0 x1 v.2 = some o2) (fun v => v.1) (n, 0) eo2 (St.sub_of [5, 4, 0, 1] [] (by kernel_rfl)) ?_
      rintro ⟨mo2, y1⟩ H
      have H : spec_SameOid_L2 n mo2 x0 x1 y1 = some o2 := H
      obtain _ | mo2 := mo2
      · cases (show (none : Option _) = some o2 from H)
      · rw [spec_SameOid_L2] at H
        refine Tr.seq ?_
        refine Tr.rs ?_
        refine LAt.runU tOk 2 (by kernel_rfl) ?_
        refine LAt.lenE tOk (t := 23) (ty := 3) (e := 3) (x := (.tmp 12)) (d := 13) (g := none) ⟨(.slot 12), [], 0, false, 1, (CV.frzEs (x0.map intRow))⟩ (x0).length _ (by kernel_rfl) (by kernel_rfl) (by kernel_rfl) (by kernel_rfl) (by kernel_rfl) (frz_len _ _) rfl ?_
        refine LAt.runU tOk 1 (by kernel_rfl) ?_
        refine LAt.doneU [14, 13, 12, 11, 5, 4, 0, 1] [] (by kernel_rfl) ?_
        refine Tr.to ⟨26, 0, [(14, .val false [.lit (.bool (decide (y1 < (x0.length : Int))))]), (13, .val false [.lit (.int .i64 (x0.length : Int))]), (12, .val false [.sl false 1 (CV.frzEs (x0.map intRow))]), (11, .val false [.lit (.int .i64 y1)]), (5, .val false [.lit (.int .i64 y1)]), (4, .val false [.lit (.bool false)]), (0, .val false [.sl false 1 (CV.frzEs (x0.map intRow))]), (1, .val false [.sl false 1 (CV.frzEs (x1.map intRow))])], []⟩ (by kernel_rfl) ?_
        cases h2 : (decide (y1 < (x0.length : Int)))
        · have H := bifF h2 H
          refine Tr.cond (b := false) (by kernel_rfl) (fun h => nomatch h) (fun _ => ?_)
          refine Tr.exit ?_
          refine And.intro (fun _ => ?_) (fun h => absurd rfl h)
          have H := Option.some.inj H
          subst H
          have H := Ho2
          dsimp only at H
          exact Exists.intro () (And.intro H (St.sub_of [4] [] (by kernel_rfl)))
        · have H := bifT h2 H
          refine Tr.cond (b := true) (by kernel_rfl) (fun _ => ?_) (fun h => nomatch h)
          refine Tr.skip ?_
          show Tr _ _ _ _ _
          refine Tr.seq ?_
          refine Tr.block ?_
          obtain ⟨v3, ev3, H⟩ := bind_some H
          obtain ⟨v4, ev4, H⟩ := bind_some H
          refine Tr.draws mixed 9 (by kernel_rfl) ⟨26, 0, [(25, .val false [.lit (.bool (v3 != v4))]), (24, .val false [.lit (.int .i64 v4)]), (23, .fad ([.lit (.int .i64 v4)])), (22, .val false [.lit (.int .i64 y1)]), (21, .val false [.sl false 1 (CV.frzEs (x1.map intRow))]), (20, .val false [.lit (.int .i64 v3)]), (19, .fad ([.lit (.int .i64 v3)])), (18, .val false [.lit (.int .i64 y1)]), (17, .val false [.sl false 1 (CV.frzEs (x0.map intRow))]), (14, .val false [.lit (.bool true)]), (13, .val false [.lit (.int .i64 (x0.length : Int))]), (12, .val false [.sl false 1 (CV.frzEs (x0.map intRow))]), (11, .val false [.lit (.int .i64 y1)]), (5, .val false [.lit (.int .i64 y1)]), (4, .val false [.lit (.bool false)]), (0, .val false [.sl false 1 (CV.frzEs (x0.map intRow))]), (1, .val false [.sl false 1 (CV.frzEs (x1.map intRow))])], []⟩ (fun cx => ?_) ?_
          · refine AT.runU tOk [(0, []), (1, [])] 7 [] [1, 0] rfl (by kernel_rfl) (fun cx => ?_)
            refine AT.indexF tOk 2 (t := 23) (ty := 0) (x := (.tmp 17)) (y := (.tmp 18)) (d := 19) (g := none) ⟨(.slot 17), [], 0, false, 1, (CV.frzEs (x0.map intRow))⟩ y1 [.lit (.int .i64 v3)] _ (by kernel_rfl) (by kernel_rfl) (by kernel_rfl) (by kernel_rfl) (by kernel_rfl) (by kernel_rfl) rfl (idx_isF ev3) rfl (fun cx => ?_)
            refine AT.runU tOk [(3, []), (4, []), (5, [])] 3 [] [5, 4, 3, 2, 1, 0] rfl (by kernel_rfl) (fun cx => ?_)
            refine AT.indexF tOk 6 (t := 23) (ty := 0) (x := (.tmp 21)) (y := (.tmp 22)) (d := 23) (g := none) ⟨(.slot 21), [], 0, false, 1, (CV.frzEs (x1.map intRow))⟩ y1 [.lit (.int .i64 v4)] _ (by kernel_rfl) (by kernel_rfl) (by kernel_rfl) (by kernel_rfl) (by kernel_rfl) (by kernel_rfl) rfl (idx_isF ev4) rfl (fun cx => ?_)
            refine AT.runU tOk [(7, []), (8, [])] 0 [] [8, 7, 6, 5, 4, 3, 2, 1, 0] rfl (by kernel_rfl) (fun cx => ?_)
            exact AT.done [25, 24, 23, 22, 21, 20, 19, 18, 17, 14, 13, 12, 11, 5, 4, 0, 1] [] _ (by kernel_rfl) (by kernel_rfl) rfl
          · refine Tr.to ⟨26, 0, [(25, .val false [.lit (.bool (v3 != v4))]), (24, .val false [.lit (.int .i64 v4)]), (23, .fad ([.lit (.int .i64 v4)])), (22, .val false [.lit (.int .i64 y1)]), (21, .val false [.sl false 1 (CV.frzEs (x1.map intRow))]), (20, .val false [.lit (.int .i64 v3)]), (19, .fad ([.lit (.int .i64 v3)])), (18, .val false [.lit (.int .i64 y1)]), (17, .val false [.sl false 1 (CV.frzEs (x0.map intRow))]), (14, .val false [.lit (.bool true)]), (13, .val false [.lit (.int .i64 (x0.length : Int))]), (12, .val false [.sl false 1 (CV.frzEs (x0.map intRow))]), (11, .val false [.lit (.int .i64 y1)]), (5, .val false [.lit (.int .i64 y1)]), (4, .val false [.lit (.bool false)]), (0, .val false [.sl false 1 (CV.frzEs (x0.map intRow))]), (1, .val false [.sl false 1 (CV.frzEs (x1.map intRow))])], []⟩ (by kernel_rfl) ?_
            cases h3 : (v3 != v4)
            · have H := bifF h3 H
              refine Tr.cond (b := false) (by kernel_rfl) (fun h => nomatch h) (fun _ => ?_)
              refine Tr.skip ?_
              show Tr _ _ _ _ _
              refine Tr.at ?_
              refine LAt.runU tOk 3 (by kernel_rfl) ?_
              refine LAt.doneU [5, 16, 15, 25, 24, 23, 22, 21, 20, 19, 18, 17, 14, 13, 12, 11, 4, 0, 1] [] (by kernel_rfl) ?_
              exact Exists.intro (mo2, (IntKind.wrap .i64 (y1 + 1))) (And.intro H (And.intro (Nat.lt_succ_self mo2) (St.sub_of [5, 4, 0, 1] [] (by kernel_rfl))))
            · have H := bifT h3 H
              refine Tr.cond (b := true) (by kernel_rfl) (fun _ => ?_) (fun h => nomatch h)
              refine Tr.rs ?_
              refine LAt.runU tOk 1 (by kernel_rfl) ?_
              refine LAt.doneU [4, 25, 24, 23, 22, 21, 20, 19, 18, 17, 14, 13, 12, 11, 5, 0, 1] [] (by kernel_rfl) ?_
              refine Tr.ret ?_
              have H := Option.some.inj H
              subst H
              have H := Ho2
              dsimp only at H
              have H := Option.some.inj H
              subst H
              exact Fin.of _ [(false, [.lit (.bool false)])] (by kernel_rfl) rfl rfl
    · rintro _ H
      have H : (spec_SameOid_J1 n) = some r := H
      unfold spec_SameOid_J1 at H
      show Tr _ _ _ _ _
      refine Tr.rs ?_
      refine LAt.runU tOk 1 (by kernel_rfl) ?_
      refine LAt.doneU [4] [] (by kernel_rfl) ?_
      refine Tr.ret ?_
      have H := Option.some.inj H
      subst H
      exact Fin.of _ [(false, [.lit (.bool true)])] (by kernel_rfl) rfl rfl
  · have H := bifT h1 H
    refine Tr.cond (b := true) (by kernel_rfl) (fun _ => ?_) (fun h => nomatch h)
    refine Tr.rs ?_
    refine LAt.runU tOk 1 (by kernel_rfl) ?_
    refine LAt.doneU [4, 0, 1] [] (by kernel_rfl) ?_
    refine Tr.ret ?_
    have H := Option.some.inj H
    subst H
    exact Fin.of _ [(false, [.lit (.bool false)])] (by kernel_rfl) rfl rfl

def spec_SameBridge_J3 (n : Nat) : Option (Bool) :=
  (some true)
def spec_SameBridge_L4 (n : Nat) : Nat → Bridge → Bridge → Int → Option ((Unit) ⊕ (Bool))
  | 0, _, _, _ => none
  | mo5 + 1, x0, x1, y4 => (bif (decide (y4 < (x0.V.Rows.length : Int))) then ((idx x0.V.Rows y4).bind fun v6 => ((idx x1.V.Rows y4).bind fun v7 => (bif (!((v6.Id == v7.Id) && ((v6.Members == v7.Members) && ((v6.Bare == v7.Bare) && true)))) then (some (Sum.inr false)) else (spec_SameBridge_L4 n mo5 x0 x1 (IntKind.wrap .i64 (y4 + 1)))))) else (some (Sum.inl ())))
def spec_SameBridge_J2 (n : Nat) (x0 : Bridge) (x1 : Bridge) : Option (Bool) :=
  ((spec_SameBridge_L4 n n x0 x1 0).bind fun o => match o with | .inl _ => (spec_SameBridge_J3 n) | .inr r => some r)
def spec_SameBridge_L5 (n : Nat) : Nat → Bridge → Bridge → Int → Option ((Unit) ⊕ (Bool))
  | 0, _, _, _ => none
  | mo8 + 1, x0, x1, y3 => (bif (decide (y3 < (x0.F.length : Int))) then ((idx x0.F y3).bind fun v9 => ((idx x1.F y3).bind fun v10 => (bif (!((v9.Tag == v10.Tag) && ((v9.Mac == v10.Mac) && ((v9.Port == v10.Port) && ((v9.Age == v10.Age) && ((v9.Static == v10.Static) && true)))))) then (some (Sum.inr false)) else (spec_SameBridge_L5 n mo8 x0 x1 (IntKind.wrap .i64 (y3 + 1)))))) else (some (Sum.inl ())))
def spec_SameBridge_J1 (n : Nat) (x0 : Bridge) (x1 : Bridge) : Option (Bool) :=
  ((spec_SameBridge_L5 n n x0 x1 0).bind fun o => match o with | .inl _ => (spec_SameBridge_J2 n x0 x1) | .inr r => some r)
def spec_SameBridge_L6 (n : Nat) : Nat → Bridge → Bridge → Int → Option ((Unit) ⊕ (Bool))
  | 0, _, _, _ => none
  | mo11 + 1, x0, x1, y2 => (bif (decide (y2 < (x0.Ports.length : Int))) then ((idx x0.Ports y2).bind fun v12 => ((idx x1.Ports y2).bind fun v13 => (bif (!((v12.Up == v13.Up) && ((v12.Cost == v13.Cost) && ((v12.Has == v13.Has) && (((v12.Heard.Root == v13.Heard.Root) && ((v12.Heard.Cost == v13.Heard.Cost) && ((v12.Heard.Hops == v13.Heard.Hops) && ((v12.Heard.Bridge == v13.Heard.Bridge) && ((v12.Heard.Port == v13.Heard.Port) && true))))) && true))))) then (some (Sum.inr false)) else (spec_SameBridge_L6 n mo11 x0 x1 (IntKind.wrap .i64 (y2 + 1)))))) else (some (Sum.inl ())))
def spec_SameBridgeF (n : Nat) (x0 : Bridge) (x1 : Bridge) : Option (Bool) :=
  (bif (x0.Id != x1.Id) then (some false) else (bif (!(x0.Name.toList == x1.Name.toList)) then (some false) else (bif (x0.Ticks != x1.Ticks) then (some false) else (bif (x0.Parse != x1.Parse) then (some false) else (bif (x0.Word != x1.Word) then (some false) else (bif (x0.Drops != x1.Drops) then (some false) else (bif (x0.Vers != x1.Vers) then (some false) else (bif ((x0.Ports.length : Int) != (x1.Ports.length : Int)) then (some false) else (bif ((x0.F.length : Int) != (x1.F.length : Int)) then (some false) else (bif ((x0.V.Rows.length : Int) != (x1.V.Rows.length : Int)) then (some false) else ((spec_SameOidF n x0.V.Pvid x1.V.Pvid).bind fun r1 => (bif (!r1) then (some false) else ((spec_SameBridge_L6 n n x0 x1 0).bind fun o => match o with | .inl _ => (spec_SameBridge_J1 n x0 x1) | .inr r => some r)))))))))))))
/-- loop.example/g00326/spec.SameBridge -/
theorem spec_SameBridge (n : Nat) (x0 : Bridge) (x1 : Bridge) (r : Bool) (H : spec_SameBridgeF n x0 x1 = some r) : LCall Try.prog 52 [.val true (CV.frzRow (Bridge.row x0)), .val true (CV.frzRow (Bridge.row x1))] [.val false [.lit (.bool r)]] [] := by
  refine LCall.of_body tOk Try.func52 rfl (c := (.seq (.region 0 (rg Try.f52 0) false) (.seq (.seq (.region 1 (rg Try.f52 1) false) (.cond (.tmp 93) (.seq (.region 2 (rg Try.f52 2) false) .ret) .skip)) (.seq (.seq (.region 3 (rg Try.f52 3) false) (.block 0 (.loop (.seq (.seq (.region 4 (rg Try.f52 4) false) (.cond (.tmp 98) .skip (.exit 0))) (.seq (.block 1 (.seq (.region 6 (rg Try.f52 6) true) (.cond (.tmp 111) (.seq (.region 7 (rg Try.f52 7) false) .ret) .skip))) (.region 5 (rg Try.f52 5) false)))))) (.seq (.seq (.region 8 (rg Try.f52 8) false) (.block 2 (.loop (.seq (.seq (.region 9 (rg Try.f52 9) false) (.cond (.tmp 116) .skip (.exit 2))) (.seq (.block 3 (.seq (.region 11 (rg Try.f52 11) true) (.cond (.tmp 129) (.seq (.region 12 (rg Try.f52 12) false) .ret) .skip))) (.region 10 (rg Try.f52 10) false)))))) (.seq (.seq (.region 13 (rg Try.f52 13) false) (.block 4 (.loop (.seq (.seq (.region 14 (rg Try.f52 14) false) (.cond (.tmp 135) .skip (.exit 4))) (.seq (.block 5 (.seq (.region 16 (rg Try.f52 16) true) (.cond (.tmp 150) (.seq (.region 17 (rg Try.f52 17) false) .ret) .skip))) (.region 15 (rg Try.f52 15) false)))))) (.seq (.region 18 (rg Try.f52 18) false) .ret))))))) (by kernel_rfl) (Nat.le_of_ble_eq_true (by kernel_rfl)) 0 (rs := [.tmp 4]) rfl [] .nil [(false, [.lit (.bool r)])] [] [] fun cx => ?_
  show Tr _ _ _ ⟨151, 0, [(0, .val true (CV.frzRow (Bridge.row x0))), (1, .val true (CV.frzRow (Bridge.row x1)))], []⟩ _
  unfold spec_SameBridgeF at H
  refine Tr.rs ?_
  refine LAt.runU tOk 3 (by kernel_rfl) ?_
  refine LAt.doneU [4, 3, 2] [3, 2] (by kernel_rfl) ?_
  refine Tr.seq ?_
  refine Tr.rs ?_
  refine LAt.runU tOk 6 (by kernel_rfl) ?_
  refine LAt.to ⟨151, 0, [(13, .val false [.lit (.bool (x0.Id != x1.Id))]), (12, .val false [.lit (.bool (x0.Id != x1.Id))]), (11, .val false [.lit (.int .i64 x1.Id)]), (10, .adr (.box 3) [(0, 0)] 11 0), (9, .val false [.lit (.int .i64 x0.Id)]), (8, .adr (.box 2) [(0, 0)] 11 0), (4, .val false [.lit (.bool false)]), (3, .adr (.box 3) [(0, 0)] 11 0), (2, .adr (.box 2) [(0, 0)] 11 0)], [(3, (CV.frzRow (Bridge.row x1))), (2, (CV.frzRow (Bridge.row x0)))]⟩ (by kernel_rfl) ?_
  cases h1 : (x0.Id != x1.Id)
  · have H := bifF h1 H
    refine LAt.runU tOk 7 (by kernel_rfl) ?_
    refine LAt.to ⟨151, 0, [(20, .val false [.lit (.bool (!(x0.Name.toList == x1.Name.toList)))]), (19, .val false [.lit (.bool (!(x0.Name.toList == x1.Name.toList)))]), (18, .val false [.lit (.bool (!(x0.Name.toList == x1.Name.toList)))]), (17, .val false [.lit (.string x1.Name)]), (16, .adr (.box 3) [(0, 0)] 11 1), (15, .val false [.lit (.string x0.Name)]), (14, .adr (.box 2) [(0, 0)] 11 1), (13, .val false [.lit (.bool false)]), (12, .val false [.lit (.bool false)]), (11, .val false [.lit (.int .i64 x1.Id)]), (10, .adr (.box 3) [(0, 0)] 11 0), (9, .val false [.lit (.int .i64 x0.Id)]), (8, .adr (.box 2) [(0, 0)] 11 0), (4, .val false [.lit (.bool false)]), (3, .adr (.box 3) [(0, 0)] 11 0), (2, .adr (.box 2) [(0, 0)] 11 0)], [(3, (CV.frzRow (Bridge.row x1))), (2, (CV.frzRow (Bridge.row x0)))]⟩ (by kernel_rfl) ?_
    cases h2 : (!(x0.Name.toList == x1.Name.toList))
    · have H := bifF h2 H
      refine LAt.runU tOk 7 (by kernel_rfl) ?_
      refine LAt.to ⟨151, 0, [(27, .val false [.lit (.bool (x0.Ticks != x1.Ticks))]), (26, .val false [.lit (.bool (x0.Ticks != x1.Ticks))]), (25, .val false [.lit (.bool (x0.Ticks != x1.Ticks))]), (24, .val false [.lit (.int .i64 x1.Ticks)]), (23, .adr (.box 3) [(0, 0)] 11 6), (22, .val false [.lit (.int .i64 x0.Ticks)]), (21, .adr (.box 2) [(0, 0)] 11 6), (20, .val false [.lit (.bool false)]), (19, .val false [.lit (.bool false)]), (18, .val false [.lit (.bool false)]), (17, .val false [.lit (.string x1.Name)]), (16, .adr (.box 3) [(0, 0)] 11 1), (15, .val false [.lit (.string x0.Name)]), (14, .adr (.box 2) [(0, 0)] 11 1), (13, .val false [.lit (.bool false)]), (12, .val false [.lit (.bool false)]), (11, .val false [.lit (.int .i64 x1.Id)]), (10, .adr (.box 3) [(0, 0)] 11 0), (9, .val false [.lit (.int .i64 x0.Id)]), (8, .adr (.box 2) [(0, 0)] 11 0), (4, .val false [.lit (.bool false)]), (3, .adr (.box 3) [(0, 0)] 11 0), (2, .adr (.box 2) [(0, 0)] 11 0)], [(3, (CV.frzRow (Bridge.row x1))), (2, (CV.frzRow (Bridge.row x0)))]⟩ (by kernel_rfl) ?_
      cases h3 : (x0.Ticks != x1.Ticks)
      · have H := bifF h3 H
        refine LAt.runU tOk 7 (by kernel_rfl) ?_
        refine LAt.to ⟨151, 0, [(34, .val false [.lit (.bool (x0.Parse != x1.Parse))]), (33, .val false [.lit (.bool (x0.Parse != x1.Parse))]), (32, .val false [.lit (.bool (x0.Parse != x1.Parse))]), (31, .val false [.lit (.int .i64 x1.Parse)]), (30, .adr (.box 3) [(0, 0)] 11 7), (29, .val false [.lit (.int .i64 x0.Parse)]), (28, .adr (.box 2) [(0, 0)] 11 7), (27, .val false [.lit (.bool false)]), (26, .val false [.lit (.bool false)]), (25, .val false [.lit (.bool false)]), (24, .val false [.lit (.int .i64 x1.Ticks)]), (23, .adr (.box 3) [(0, 0)] 11 6), (22, .val false [.lit (.int .i64 x0.Ticks)]), (21, .adr (.box 2) [(0, 0)] 11 6), (20, .val false [.lit (.bool false)]), (19, .val false [.lit (.bool false)]), (18, .val false [.lit (.bool false)]), (17, .val false [.lit (.string x1.Name)]), (16, .adr (.box 3) [(0, 0)] 11 1), (15, .val false [.lit (.string x0.Name)]), (14, .adr (.box 2) [(0, 0)] 11 1), (13, .val false [.lit (.bool false)]), (12, .val false [.lit (.bool false)]), (11, .val false [.lit (.int .i64 x1.Id)]), (10, .adr (.box 3) [(0, 0)] 11 0), (9, .val false [.lit (.int .i64 x0.Id)]), (8, .adr (.box 2) [(0, 0)] 11 0), (4, .val false [.lit (.bool false)]), (3, .adr (.box 3) [(0, 0)] 11 0), (2, .adr (.box 2) [(0, 0)] 11 0)], [(3, (CV.frzRow (Bridge.row x1))), (2, (CV.frzRow (Bridge.row x0)))]⟩ (by kernel_rfl) ?_
        cases h4 : (x0.Parse != x1.Parse)
        · have H := bifF h4 H
          refine LAt.runU tOk 7 (by kernel_rfl) ?_
          refine LAt.to ⟨151, 0, [(41, .val false [.lit (.bool (x0.Word != x1.Word))]), (40, .val false [.lit (.bool (x0.Word != x1.Word))]), (39, .val false [.lit (.bool (x0.Word != x1.Word))]), (38, .val false [.lit (.int .i64 x1.Word)]), (37, .adr (.box 3) [(0, 0)] 11 8), (36, .val false [.lit (.int .i64 x0.Word)]), (35, .adr (.box 2) [(0, 0)] 11 8), (34, .val false [.lit (.bool false)]), (33, .val false [.lit (.bool false)]), (32, .val false [.lit (.bool false)]), (31, .val false [.lit (.int .i64 x1.Parse)]), (30, .adr (.box 3) [(0, 0)] 11 7), (29, .val false [.lit (.int .i64 x0.Parse)]), (28, .adr (.box 2) [(0, 0)] 11 7), (27, .val false [.lit (.bool false)]), (26, .val false [.lit (.bool false)]), (25, .val false [.lit (.bool false)]), (24, .val false [.lit (.int .i64 x1.Ticks)]), (23, .adr (.box 3) [(0, 0)] 11 6), (22, .val false [.lit (.int .i64 x0.Ticks)]), (21, .adr (.box 2) [(0, 0)] 11 6), (20, .val false [.lit (.bool false)]), (19, .val false [.lit (.bool false)]), (18, .val false [.lit (.bool false)]), (17, .val false [.lit (.string x1.Name)]), (16, .adr (.box 3) [(0, 0)] 11 1), (15, .val false [.lit (.string x0.Name)]), (14, .adr (.box 2) [(0, 0)] 11 1), (13, .val false [.lit (.bool false)]), (12, .val false [.lit (.bool false)]), (11, .val false [.lit (.int .i64 x1.Id)]), (10, .adr (.box 3) [(0, 0)] 11 0), (9, .val false [.lit (.int .i64 x0.Id)]), (8, .adr (.box 2) [(0, 0)] 11 0), (4, .val false [.lit (.bool false)]), (3, .adr (.box 3) [(0, 0)] 11 0), (2, .adr (.box 2) [(0, 0)] 11 0)], [(3, (CV.frzRow (Bridge.row x1))), (2, (CV.frzRow (Bridge.row x0)))]⟩ (by kernel_rfl) ?_
          cases h5 : (x0.Word != x1.Word)
          · have H := bifF h5 H
            refine LAt.runU tOk 7 (by kernel_rfl) ?_
            refine LAt.to ⟨151, 0, [(48, .val false [.lit (.bool (x0.Drops != x1.Drops))]), (47, .val false [.lit (.bool (x0.Drops != x1.Drops))]), (46, .val false [.lit (.bool (x0.Drops != x1.Drops))]), (45, .val false [.lit (.int .i64 x1.Drops)]), (44, .adr (.box 3) [(0, 0)] 11 9), (43, .val false [.lit (.int .i64 x0.Drops)]), (42, .adr (.box 2) [(0, 0)] 11 9), (41, .val false [.lit (.bool false)]), (40, .val false [.lit (.bool false)]), (39, .val false [.lit (.bool false)]), (38, .val false [.lit (.int .i64 x1.Word)]), (37, .adr (.box 3) [(0, 0)] 11 8), (36, .val false [.lit (.int .i64 x0.Word)]), (35, .adr (.box 2) [(0, 0)] 11 8), (34, .val false [.lit (.bool false)]), (33, .val false [.lit (.bool false)]), (32, .val false [.lit (.bool false)]), (31, .val false [.lit (.int .i64 x1.Parse)]), (30, .adr (.box 3) [(0, 0)] 11 7), (29, .val false [.lit (.int .i64 x0.Parse)]), (28, .adr (.box 2) [(0, 0)] 11 7), (27, .val false [.lit (.bool false)]), (26, .val false [.lit (.bool false)]), (25, .val false [.lit (.bool false)]), (24, .val false [.lit (.int .i64 x1.Ticks)]), (23, .adr (.box 3) [(0, 0)] 11 6), (22, .val false [.lit (.int .i64 x0.Ticks)]), (21, .adr (.box 2) [(0, 0)] 11 6), (20, .val false [.lit (.bool false)]), (19, .val false [.lit (.bool false)]), (18, .val false [.lit (.bool false)]), (17, .val false [.lit (.string x1.Name)]), (16, .adr (.box 3) [(0, 0)] 11 1), (15, .val false [.lit (.string x0.Name)]), (14, .adr (.box 2) [(0, 0)] 11 1), (13, .val false [.lit (.bool false)]), (12, .val false [.lit (.bool false)]), (11, .val false [.lit (.int .i64 x1.Id)]), (10, .adr (.box 3) [(0, 0)] 11 0), (9, .val false [.lit (.int .i64 x0.Id)]), (8, .adr (.box 2) [(0, 0)] 11 0), (4, .val false [.lit (.bool false)]), (3, .adr (.box 3) [(0, 0)] 11 0), (2, .adr (.box 2) [(0, 0)] 11 0)], [(3, (CV.frzRow (Bridge.row x1))), (2, (CV.frzRow (Bridge.row x0)))]⟩ (by kernel_rfl) ?_
            cases h6 : (x0.Drops != x1.Drops)
            · have H := bifF h6 H
              refine LAt.runU tOk 7 (by kernel_rfl) ?_
              refine LAt.to ⟨151, 0, [(55, .val false [.lit (.bool (x0.Vers != x1.Vers))]), (54, .val false [.lit (.bool (x0.Vers != x1.Vers))]), (53, .val false [.lit (.bool (x0.Vers != x1.Vers))]), (52, .val false [.lit (.int .i64 x1.Vers)]), (51, .adr (.box 3) [(0, 0)] 11 10), (50, .val false [.lit (.int .i64 x0.Vers)]), (49, .adr (.box 2) [(0, 0)] 11 10), (48, .val false [.lit (.bool false)]), (47, .val false [.lit (.bool false)]), (46, .val false [.lit (.bool false)]), (45, .val false [.lit (.int .i64 x1.Drops)]), (44, .adr (.box 3) [(0, 0)] 11 9), (43, .val false [.lit (.int .i64 x0.Drops)]), (42, .adr (.box 2) [(0, 0)] 11 9), (41, .val false [.lit (.bool false)]), (40, .val false [.lit (.bool false)]), (39, .val false [.lit (.bool false)]), (38, .val false [.lit (.int .i64 x1.Word)]), (37, .adr (.box 3) [(0, 0)] 11 8), (36, .val false [.lit (.int .i64 x0.Word)]), (35, .adr (.box 2) [(0, 0)] 11 8), (34, .val false [.lit (.bool false)]), (33, .val false [.lit (.bool false)]), (32, .val false [.lit (.bool false)]), (31, .val false [.lit (.int .i64 x1.Parse)]), (30, .adr (.box 3) [(0, 0)] 11 7), (29, .val false [.lit (.int .i64 x0.Parse)]), (28, .adr (.box 2) [(0, 0)] 11 7), (27, .val false [.lit (.bool false)]), (26, .val false [.lit (.bool false)]), (25, .val false [.lit (.bool false)]), (24, .val false [.lit (.int .i64 x1.Ticks)]), (23, .adr (.box 3) [(0, 0)] 11 6), (22, .val false [.lit (.int .i64 x0.Ticks)]), (21, .adr (.box 2) [(0, 0)] 11 6), (20, .val false [.lit (.bool false)]), (19, .val false [.lit (.bool false)]), (18, .val false [.lit (.bool false)]), (17, .val false [.lit (.string x1.Name)]), (16, .adr (.box 3) [(0, 0)] 11 1), (15, .val false [.lit (.string x0.Name)]), (14, .adr (.box 2) [(0, 0)] 11 1), (13, .val false [.lit (.bool false)]), (12, .val false [.lit (.bool false)]), (11, .val false [.lit (.int .i64 x1.Id)]), (10, .adr (.box 3) [(0, 0)] 11 0), (9, .val false [.lit (.int .i64 x0.Id)]), (8, .adr (.box 2) [(0, 0)] 11 0), (4, .val false [.lit (.bool false)]), (3, .adr (.box 3) [(0, 0)] 11 0), (2, .adr (.box 2) [(0, 0)] 11 0)], [(3, (CV.frzRow (Bridge.row x1))), (2, (CV.frzRow (Bridge.row x0)))]⟩ (by kernel_rfl) ?_
              cases h7 : (x0.Vers != x1.Vers)
              · have H := bifF h7 H
                refine LAt.runU tOk 2 (by kernel_rfl) ?_
                refine LAt.lenE tOk (t := 43) (ty := 3) (e := 41) (x := (.tmp 57)) (d := 58) (g := (some (47, false))) ⟨(.slot 57), [], 0, false, 8, (CV.frzEs (x0.Ports.map Pt.row))⟩ (x0.Ports).length _ (by kernel_rfl) (by kernel_rfl) (by kernel_rfl) (by kernel_rfl) (by kernel_rfl) (frz_len _ _) rfl ?_
                refine LAt.runU tOk 2 (by kernel_rfl) ?_
                refine LAt.lenE tOk (t := 43) (ty := 3) (e := 41) (x := (.tmp 60)) (d := 61) (g := (some (47, false))) ⟨(.slot 60), [], 0, false, 8, (CV.frzEs (x1.Ports.map Pt.row))⟩ (x1.Ports).length _ (by kernel_rfl) (by kernel_rfl) (by kernel_rfl) (by kernel_rfl) (by kernel_rfl) (frz_len _ _) rfl ?_
                refine LAt.runU tOk 3 (by kernel_rfl) ?_
                refine LAt.to ⟨151, 0, [(64, .val false [.lit (.bool ((x0.Ports.length : Int) != (x1.Ports.length : Int)))]), (63, .val false [.lit (.bool ((x0.Ports.length : Int) != (x1.Ports.length : Int)))]), (62, .val false [.lit (.bool ((x0.Ports.length : Int) != (x1.Ports.length : Int)))]), (61, .val false [.lit (.int .i64 (x1.Ports.length : Int))]), (60, .val false [.sl false 8 (CV.frzEs (x1.Ports.map Pt.row))]), (59, .adr (.box 3) [(0, 0)] 11 2), (58, .val false [.lit (.int .i64 (x0.Ports.length : Int))]), (57, .val false [.sl false 8 (CV.frzEs (x0.Ports.map Pt.row))]), (56, .adr (.box 2) [(0, 0)] 11 2), (55, .val false [.lit (.bool false)]), (54, .val false [.lit (.bool false)]), (53, .val false [.lit (.bool false)]), (52, .val false [.lit (.int .i64 x1.Vers)]), (51, .adr (.box 3) [(0, 0)] 11 10), (50, .val false [.lit (.int .i64 x0.Vers)]), (49, .adr (.box 2) [(0, 0)] 11 10), (48, .val false [.lit (.bool false)]), (47, .val false [.lit (.bool false)]), (46, .val false [.lit (.bool false)]), (45, .val false [.lit (.int .i64 x1.Drops)]), (44, .adr (.box 3) [(0, 0)] 11 9), (43, .val false [.lit (.int .i64 x0.Drops)]), (42, .adr (.box 2) [(0, 0)] 11 9), (41, .val false [.lit (.bool false)]), (40, .val false [.lit (.bool false)]), (39, .val false [.lit (.bool false)]), (38, .val false [.lit (.int .i64 x1.Word)]), (37, .adr (.box 3) [(0, 0)] 11 8), (36, .val false [.lit (.int .i64 x0.Word)]), (35, .adr (.box 2) [(0, 0)] 11 8), (34, .val false [.lit (.bool false)]), (33, .val false [.lit (.bool false)]), (32, .val false [.lit (.bool false)]), (31, .val false [.lit (.int .i64 x1.Parse)]), (30, .adr (.box 3) [(0, 0)] 11 7), (29, .val false [.lit (.int .i64 x0.Parse)]), (28, .adr (.box 2) [(0, 0)] 11 7), (27, .val false [.lit (.bool false)]), (26, .val false [.lit (.bool false)]), (25, .val false [.lit (.bool false)]), (24, .val false [.lit (.int .i64 x1.Ticks)]), (23, .adr (.box 3) [(0, 0)] 11 6), (22, .val false [.lit (.int .i64 x0.Ticks)]), (21, .adr (.box 2) [(0, 0)] 11 6), (20, .val false [.lit (.bool false)]), (19, .val false [.lit (.bool false)]), (18, .val false [.lit (.bool false)]), (17, .val false [.lit (.string x1.Name)]), (16, .adr (.box 3) [(0, 0)] 11 1), (15, .val false [.lit (.string x0.Name)]), (14, .adr (.box 2) [(0, 0)] 11 1), (13, .val false [.lit (.bool false)]), (12, .val false [.lit (.bool false)]), (11, .val false [.lit (.int .i64 x1.Id)]), (10, .adr (.box 3) [(0, 0)] 11 0), (9, .val false [.lit (.int .i64 x0.Id)]), (8, .adr (.box 2) [(0, 0)] 11 0), (4, .val false [.lit (.bool false)]), (3, .adr (.box 3) [(0, 0)] 11 0), (2, .adr (.box 2) [(0, 0)] 11 0)], [(3, (CV.frzRow (Bridge.row x1))), (2, (CV.frzRow (Bridge.row x0)))]⟩ (by kernel_rfl) ?_
                cases h8 : ((x0.Ports.length : Int) != (x1.Ports.length : Int))
                · have H := bifF h8 H
                  refine LAt.runU tOk 2 (by kernel_rfl) ?_
                  refine LAt.lenE tOk (t := 77) (ty := 3) (e := 147) (x := (.tmp 66)) (d := 67) (g := (some (56, false))) ⟨(.slot 66), [], 0, false, 5, (CV.frzEs (x0.F.map Fent.row))⟩ (x0.F).length _ (by kernel_rfl) (by kernel_rfl) (by kernel_rfl) (by kernel_rfl) (by kernel_rfl) (frz_len _ _) rfl ?_
                  refine LAt.runU tOk 2 (by kernel_rfl) ?_
                  refine LAt.lenE tOk (t := 77) (ty := 3) (e := 147) (x := (.tmp 69)) (d := 70) (g := (some (56, false))) ⟨(.slot 69), [], 0, false, 5, (CV.frzEs (x1.F.map Fent.row))⟩ (x1.F).length _ (by kernel_rfl) (by kernel_rfl) (by kernel_rfl) (by kernel_rfl) (by kernel_rfl) (frz_len _ _) rfl ?_
                  refine LAt.runU tOk 3 (by kernel_rfl) ?_
                  refine LAt.to ⟨151, 0, [(73, .val false [.lit (.bool ((x0.F.length : Int) != (x1.F.length : Int)))]), (72, .val false [.lit (.bool ((x0.F.length : Int) != (x1.F.length : Int)))]), (71, .val false [.lit (.bool ((x0.F.length : Int) != (x1.F.length : Int)))]), (70, .val false [.lit (.int .i64 (x1.F.length : Int))]), (69, .val false [.sl false 5 (CV.frzEs (x1.F.map Fent.row))]), (68, .adr (.box 3) [(0, 0)] 11 3), (67, .val false [.lit (.int .i64 (x0.F.length : Int))]), (66, .val false [.sl false 5 (CV.frzEs (x0.F.map Fent.row))]), (65, .adr (.box 2) [(0, 0)] 11 3), (64, .val false [.lit (.bool false)]), (63, .val false [.lit (.bool false)]), (62, .val false [.lit (.bool false)]), (61, .val false [.lit (.int .i64 (x1.Ports.length : Int))]), (60, .val false [.sl false 8 (CV.frzEs (x1.Ports.map Pt.row))]), (59, .adr (.box 3) [(0, 0)] 11 2), (58, .val false [.lit (.int .i64 (x0.Ports.length : Int))]), (57, .val false [.sl false 8 (CV.frzEs (x0.Ports.map Pt.row))]), (56, .adr (.box 2) [(0, 0)] 11 2), (55, .val false [.lit (.bool false)]), (54, .val false [.lit (.bool false)]), (53, .val false [.lit (.bool false)]), (52, .val false [.lit (.int .i64 x1.Vers)]), (51, .adr (.box 3) [(0, 0)] 11 10), (50, .val false [.lit (.int .i64 x0.Vers)]), (49, .adr (.box 2) [(0, 0)] 11 10), (48, .val false [.lit (.bool false)]), (47, .val false [.lit (.bool false)]), (46, .val false [.lit (.bool false)]), (45, .val false [.lit (.int .i64 x1.Drops)]), (44, .adr (.box 3) [(0, 0)] 11 9), (43, .val false [.lit (.int .i64 x0.Drops)]), (42, .adr (.box 2) [(0, 0)] 11 9), (41, .val false [.lit (.bool false)]), (40, .val false [.lit (.bool false)]), (39, .val false [.lit (.bool false)]), (38, .val false [.lit (.int .i64 x1.Word)]), (37, .adr (.box 3) [(0, 0)] 11 8), (36, .val false [.lit (.int .i64 x0.Word)]), (35, .adr (.box 2) [(0, 0)] 11 8), (34, .val false [.lit (.bool false)]), (33, .val false [.lit (.bool false)]), (32, .val false [.lit (.bool false)]), (31, .val false [.lit (.int .i64 x1.Parse)]), (30, .adr (.box 3) [(0, 0)] 11 7), (29, .val false [.lit (.int .i64 x0.Parse)]), (28, .adr (.box 2) [(0, 0)] 11 7), (27, .val false [.lit (.bool false)]), (26, .val false [.lit (.bool false)]), (25, .val false [.lit (.bool false)]), (24, .val false [.lit (.int .i64 x1.Ticks)]), (23, .adr (.box 3) [(0, 0)] 11 6), (22, .val false [.lit (.int .i64 x0.Ticks)]), (21, .adr (.box 2) [(0, 0)] 11 6), (20, .val false [.lit (.bool false)]), (19, .val false [.lit (.bool false)]), (18, .val false [.lit (.bool false)]), (17, .val false [.lit (.string x1.Name)]), (16, .adr (.box 3) [(0, 0)] 11 1), (15, .val false [.lit (.string x0.Name)]), (14, .adr (.box 2) [(0, 0)] 11 1), (13, .val false [.lit (.bool false)]), (12, .val false [.lit (.bool false)]), (11, .val false [.lit (.int .i64 x1.Id)]), (10, .adr (.box 3) [(0, 0)] 11 0), (9, .val false [.lit (.int .i64 x0.Id)]), (8, .adr (.box 2) [(0, 0)] 11 0), (4, .val false [.lit (.bool false)]), (3, .adr (.box 3) [(0, 0)] 11 0), (2, .adr (.box 2) [(0, 0)] 11 0)], [(3, (CV.frzRow (Bridge.row x1))), (2, (CV.frzRow (Bridge.row x0)))]⟩ (by kernel_rfl) ?_
                  cases h9 : ((x0.F.length : Int) != (x1.F.length : Int))
                  · have H := bifF h9 H
                    refine LAt.runU tOk 3 (by kernel_rfl) ?_
                    refine LAt.lenE tOk (t := 27) (ty := 3) (e := 56) (x := (.tmp 76)) (d := 77) (g := (some (65, false))) ⟨(.slot 76), [], 0, false, 3, (CV.frzEs (x0.V.Rows.map Vrow.row))⟩ (x0.V.Rows).length _ (by kernel_rfl) (by kernel_rfl) (by kernel_rfl) (by kernel_rfl) (by kernel_rfl) (frz_len _ _) rfl ?_
                    refine LAt.runU tOk 3 (by kernel_rfl) ?_
                    refine LAt.lenE tOk (t := 27) (ty := 3) (e := 56) (x := (.tmp 80)) (d := 81) (g := (some (65, false))) ⟨(.slot 80), [], 0, false, 3, (CV.frzEs (x1.V.Rows.map Vrow.row))⟩ (x1.V.Rows).length _ (by kernel_rfl) (by kernel_rfl) (by kernel_rfl) (by kernel_rfl) (by kernel_rfl) (frz_len _ _) rfl ?_
                    refine LAt.runU tOk 3 (by kernel_rfl) ?_
                    refine LAt.to ⟨151, 0, [(84, .val false [.lit (.bool ((x0.V.Rows.length : Int) != (x1.V.Rows.length : Int)))]), (83, .val false [.lit (.bool ((x0.V.Rows.length : Int) != (x1.V.Rows.length : Int)))]), (82, .val false [.lit (.bool ((x0.V.Rows.length : Int) != (x1.V.Rows.length : Int)))]), (81, .val false [.lit (.int .i64 (x1.V.Rows.length : Int))]), (80, .val false [.sl false 3 (CV.frzEs (x1.V.Rows.map Vrow.row))]), (79, .adr (.box 3) [(0, 0)] 11 4), (78, .adr (.box 3) [(0, 0)] 11 4), (77, .val false [.lit (.int .i64 (x0.V.Rows.length : Int))]), (76, .val false [.sl false 3 (CV.frzEs (x0.V.Rows.map Vrow.row))]), (75, .adr (.box 2) [(0, 0)] 11 4), (74, .adr (.box 2) [(0, 0)] 11 4), (73, .val false [.lit (.bool false)]), (72, .val false [.lit (.bool false)]), (71, .val false [.lit (.bool false)]), (70, .val false [.lit (.int .i64 (x1.F.length : Int))]), (69, .val false [.sl false 5 (CV.frzEs (x1.F.map Fent.row))]), (68, .adr (.box 3) [(0, 0)] 11 3), (67, .val false [.lit (.int .i64 (x0.F.length : Int))]), (66, .val false [.sl false 5 (CV.frzEs (x0.F.map Fent.row))]), (65, .adr (.box 2) [(0, 0)] 11 3), (64, .val false [.lit (.bool false)]), (63, .val false [.lit (.bool false)]), (62, .val false [.lit (.bool false)]), (61, .val false [.lit (.int .i64 (x1.Ports.length : Int))]), (60, .val false [.sl false 8 (CV.frzEs (x1.Ports.map Pt.row))]), (59, .adr (.box 3) [(0, 0)] 11 2), (58, .val false [.lit (.int .i64 (x0.Ports.length : Int))]), (57, .val false [.sl false 8 (CV.frzEs (x0.Ports.map Pt.row))]), (56, .adr (.box 2) [(0, 0)] 11 2), (55, .val false [.lit (.bool false)]), (54, .val false [.lit (.bool false)]), (53, .val false [.lit (.bool false)]), (52, .val false [.lit (.int .i64 x1.Vers)]), (51, .adr (.box 3) [(0, 0)] 11 10), (50, .val false [.lit (.int .i64 x0.Vers)]), (49, .adr (.box 2) [(0, 0)] 11 10), (48, .val false [.lit (.bool false)]), (47, .val false [.lit (.bool false)]), (46, .val false [.lit (.bool false)]), (45, .val false [.lit (.int .i64 x1.Drops)]), (44, .adr (.box 3) [(0, 0)] 11 9), (43, .val false [.lit (.int .i64 x0.Drops)]), (42, .adr (.box 2) [(0, 0)] 11 9), (41, .val false [.lit (.bool false)]), (40, .val false [.lit (.bool false)]), (39, .val false [.lit (.bool false)]), (38, .val false [.lit (.int .i64 x1.Word)]), (37, .adr (.box 3) [(0, 0)] 11 8), (36, .val false [.lit (.int .i64 x0.Word)]), (35, .adr (.box 2) [(0, 0)] 11 8), (34, .val false [.lit (.bool false)]), (33, .val false [.lit (.bool false)]), (32, .val false [.lit (.bool false)]), (31, .val false [.lit (.int .i64 x1.Parse)]), (30, .adr (.box 3) [(0, 0)] 11 7), (29, .val false [.lit (.int .i64 x0.Parse)]), (28, .adr (.box 2) [(0, 0)] 11 7), (27, .val false [.lit (.bool false)]), (26, .val false [.lit (.bool false)]), (25, .val false [.lit (.bool false)]), (24, .val false [.lit (.int .i64 x1.Ticks)]), (23, .adr (.box 3) [(0, 0)] 11 6), (22, .val false [.lit (.int .i64 x0.Ticks)]), (21, .adr (.box 2) [(0, 0)] 11 6), (20, .val false [.lit (.bool false)]), (19, .val false [.lit (.bool false)]), (18, .val false [.lit (.bool false)]), (17, .val false [.lit (.string x1.Name)]), (16, .adr (.box 3) [(0, 0)] 11 1), (15, .val false [.lit (.string x0.Name)]), (14, .adr (.box 2) [(0, 0)] 11 1), (13, .val false [.lit (.bool false)]), (12, .val false [.lit (.bool false)]), (11, .val false [.lit (.int .i64 x1.Id)]), (10, .adr (.box 3) [(0, 0)] 11 0), (9, .val false [.lit (.int .i64 x0.Id)]), (8, .adr (.box 2) [(0, 0)] 11 0), (4, .val false [.lit (.bool false)]), (3, .adr (.box 3) [(0, 0)] 11 0), (2, .adr (.box 2) [(0, 0)] 11 0)], [(3, (CV.frzRow (Bridge.row x1))), (2, (CV.frzRow (Bridge.row x0)))]⟩ (by kernel_rfl) ?_
                    cases h10 : ((x0.V.Rows.length : Int) != (x1.V.Rows.length : Int))
                    · have H := bifF h10 H
                      refine LAt.runU tOk 6 (by kernel_rfl) ?_
                      obtain ⟨r1, er1, H⟩ := bind_some H
                      refine LAt.callU tOk [.rd, .rd] (f := 115) (av := #[.tmp 87, .tmp 90]) (ats := #[23, 23]) (d := (some 91)) (ty := 4) (g := (some (76, false))) (by kernel_rfl) (by kernel_rfl) (by kernel_rfl) [] (spec_SameOid n x0.V.Pvid x1.V.Pvid r1 er1) (by kernel_rfl) (.inl rfl) ?_
                      refine LAt.runU tOk 2 (by kernel_rfl) ?_
                      refine LAt.doneU [93, 4, 3, 2] [3, 2] (by kernel_rfl) ?_
                      refine Tr.to ⟨151, 0, [(93, .val false [.lit (.bool (!r1))]), (4, .val false [.lit (.bool false)]), (3, .adr (.box 3) [(0, 0)] 11 0), (2, .adr (.box 2) [(0, 0)] 11 0)], [(3, (CV.frzRow (Bridge.row x1))), (2, (CV.frzRow (Bridge.row x0)))]⟩ (by kernel_rfl) ?_
                      cases h11 : (!r1)
                      · have H := bifF h11 H
                        refine Tr.cond (b := false) (by kernel_rfl) (fun h => nomatch h) (fun _ => ?_)
                        refine Tr.skip ?_
                        show Tr _ _ _ _ _
                        refine Tr.seq ?_
                        refine Tr.rs ?_
                        refine LAt.runU tOk 1 (by kernel_rfl) ?_
                        refine LAt.doneU [5, 4, 3, 2] [3, 2] (by kernel_rfl) ?_
                        obtain ⟨o11, eo11, Ho11⟩ := bind_some H
                        clear H
                        refine Tr.mid (ι := Unit) (fun v => ⟨151, 0, [(4, .val false [.lit (.bool false)]), (3, .adr (.box 3) [(0, 0)] 11 0), (2, .adr (.box 2) [(0, 0)] 11 0)], [(3, (CV.frzRow (Bridge.row x1))), (2, (CV.frzRow (Bridge.row x0)))]⟩) (fun v => spec_SameBridge_J1 n x0 x1 = some r) ?_ ?_
                        · refine Tr.block ?_
                          refine Tr.loop (ι := Nat × (Int)) (fun v => ⟨151, 0, [(5, .val false [.lit (.int .i64 v.2)]), (4, .val false [.lit (.bool false)]), (3, .adr (.box 3) [(0, 0)] 11 0), (2, .adr (.box 2) [(0, 0)] 11 0)], [(3, (CV.frzRow (Bridge.row x1))), (2, (CV.frzRow (Bridge.row x0)))]⟩) (fun v => spec_SameBridge_L6 n v.1 x0 x1 v.2 = some o11) (fun v => v.1) (n, 0) eo11 (St.sub_of [5, 4, 3, 2] [3, 2] (by kernel_rfl)) ?_
                          rintro ⟨mo11, y2⟩ H
                          have H : spec_SameBridge_L6 n mo11 x0 x1 y2 = some o11 := H
                          obtain _ | mo11 := mo11
                          · cases (show (none : Option _) = some o11 from H)
                          · rw [spec_SameBridge_L6] at H
                            refine Tr.seq ?_
                            refine Tr.rs ?_
                            refine LAt.runU tOk 3 (by kernel_rfl) ?_
                            refine LAt.lenE tOk (t := 43) (ty := 3) (e := 41) (x := (.tmp 96)) (d := 97) (g := none) ⟨(.slot 96), [], 0, false, 8, (CV.frzEs (x0.Ports.map Pt.row))⟩ (x0.Ports).length _ (by kernel_rfl) (by kernel_rfl) (by kernel_rfl) (by kernel_rfl) (by kernel_rfl) (frz_len _ _) rfl ?_
                            refine LAt.runU tOk 1 (by kernel_rfl) ?_
                            refine LAt.doneU [98, 97, 96, 95, 94, 5, 4, 3, 2] [3, 2] (by kernel_rfl) ?_
                            refine Tr.to ⟨151, 0, [(98, .val false [.lit (.bool (decide (y2 < (x0.Ports.length : Int))))]), (97, .val false [.lit (.int .i64 (x0.Ports.length : Int))]), (96, .val false [.sl false 8 (CV.frzEs (x0.Ports.map Pt.row))]), (95, .adr (.box 2) [(0, 0)] 11 2), (94, .val false [.lit (.int .i64 y2)]), (5, .val false [.lit (.int .i64 y2)]), (4, .val false [.lit (.bool false)]), (3, .adr (.box 3) [(0, 0)] 11 0), (2, .adr (.box 2) [(0, 0)] 11 0)], [(3, (CV.frzRow (Bridge.row x1))), (2, (CV.frzRow (Bridge.row x0)))]⟩ (by kernel_rfl) ?_
                            cases h16 : (decide (y2 < (x0.Ports.length : Int)))
                            · have H := bifF h16 H
                              refine Tr.cond (b := false) (by kernel_rfl) (fun h => nomatch h) (fun _ => ?_)
                              refine Tr.exit ?_
                              refine And.intro (fun _ => ?_) (fun h => absurd rfl h)
                              have H := Option.some.inj H
                              subst H
                              have H := Ho11
                              dsimp only at H
                              exact Exists.intro () (And.intro H (St.sub_of [4, 3, 2] [3, 2] (by kernel_rfl)))
                            · have H := bifT h16 H
                              refine Tr.cond (b := true) (by kernel_rfl) (fun _ => ?_) (fun h => nomatch h)
                              refine Tr.skip ?_
                              show Tr _ _ _ _ _
                              refine Tr.seq ?_
                              refine Tr.block ?_
                              obtain ⟨v12, ev12, H⟩ := bind_some H
                              obtain ⟨v13, ev13, H⟩ := bind_some H
                              refine Tr.draws mixed 11 (by kernel_rfl) ⟨151, 0, [(111, .val false [.lit (.bool (!((v12.Up == v13.Up) && ((v12.Cost == v13.Cost) && ((v12.Has == v13.Has) && (((v12.Heard.Root == v13.Heard.Root) && ((v12.Heard.Cost == v13.Heard.Cost) && ((v12.Heard.Hops == v13.Heard.Hops) && ((v12.Heard.Bridge == v13.Heard.Bridge) && ((v12.Heard.Port == v13.Heard.Port) && true))))) && true))))))]), (110, .val true (Pt.row v13)), (109, .fad ((Pt.row v13))), (108, .val false [.lit (.int .i64 y2)]), (107, .ref (.box 3) [(0, 0)] 11 2 1 false), (106, .adr (.box 3) [(0, 0)] 11 2), (105, .val true (Pt.row v12)), (104, .fad ((Pt.row v12))), (103, .val false [.lit (.int .i64 y2)]), (102, .ref (.box 2) [(0, 0)] 11 2 1 false), (101, .adr (.box 2) [(0, 0)] 11 2), (98, .val false [.lit (.bool true)]), (97, .val false [.lit (.int .i64 (x0.Ports.length : Int))]), (96, .val false [.sl false 8 (CV.frzEs (x0.Ports.map Pt.row))]), (95, .adr (.box 2) [(0, 0)] 11 2), (94, .val false [.lit (.int .i64 y2)]), (5, .val false [.lit (.int .i64 y2)]), (4, .val false [.lit (.bool false)]), (3, .adr (.box 3) [(0, 0)] 11 0), (2, .adr (.box 2) [(0, 0)] 11 0)], [(3, (CV.frzRow (Bridge.row x1))), (2, (CV.frzRow (Bridge.row x0)))]⟩ (fun cx => ?_) ?_
                              · refine AT.runU tOk [(0, []), (1, [10]), (2, [])] 8 [⟨[10], 43, 101, 102⟩] [2, 1, 0] rfl (by kernel_rfl) (fun cx => ?_)
                                refine AT.indexF tOk 3 (t := 43) (ty := 0) (x := (.tmp 102)) (y := (.tmp 103)) (d := 104) (g := none) ⟨(.box 2), [(0, 0)], 2, false, 8, (CV.frzEs (x0.Ports.map Pt.row))⟩ y2 (Pt.row v12) _ (by kernel_rfl) (by kernel_rfl) (by kernel_rfl) (by kernel_rfl) (by kernel_rfl) (by kernel_rfl) rfl (idx_isF ev12) rfl (fun cx => ?_)
                                refine AT.runU tOk [(4, []), (5, []), (6, [10]), (7, [])] 3 [⟨[10], 43, 106, 107⟩, ⟨[10], 43, 101, 102⟩] [7, 6, 5, 4, 3, 2, 1, 0] rfl (by kernel_rfl) (fun cx => ?_)
                                refine AT.indexF tOk 8 (t := 43) (ty := 0) (x := (.tmp 107)) (y := (.tmp 108)) (d := 109) (g := none) ⟨(.box 3), [(0, 0)], 2, false, 8, (CV.frzEs (x1.Ports.map Pt.row))⟩ y2 (Pt.row v13) _ (by kernel_rfl) (by kernel_rfl) (by kernel_rfl) (by kernel_rfl) (by kernel_rfl) (by kernel_rfl) rfl (idx_isF ev13) rfl (fun cx => ?_)
                                refine AT.runU tOk [(9, [])] 1 [⟨[10], 43, 106, 107⟩, ⟨[10], 43, 101, 102⟩] [9, 8, 7, 6, 5, 4, 3, 2, 1, 0] rfl (by kernel_rfl) (fun cx => ?_)
                                refine AT.big1 tOk 10 (by kernel_rfl) (by kernel_rfl) ?_
                                refine LAt.eqS true (t := 41) (ty := 41) (ty' := 4) (x := (.tmp 105)) (y := (.tmp 110)) (d := 111) ((v12.Up == v13.Up) && ((v12.Cost == v13.Cost) && ((v12.Has == v13.Has) && (((v12.Heard.Root == v13.Heard.Root) && ((v12.Heard.Cost == v13.Heard.Cost) && ((v12.Heard.Hops == v13.Heard.Hops) && ((v12.Heard.Bridge == v13.Heard.Bridge) && ((v12.Heard.Port == v13.Heard.Port) && true))))) && true)))) _ (by kernel_rfl) (by kernel_rfl) (by kernel_rfl) rfl ?_
                                refine LAt.fin (by kernel_rfl) (And.intro (And.intro (by kernel_rfl) (by kernel_rfl)) ?_)
                                exact AT.done [111, 110, 109, 108, 107, 106, 105, 104, 103, 102, 101, 98, 97, 96, 95, 94, 5, 4, 3, 2] [3, 2] _ (by kernel_rfl) (by kernel_rfl) rfl
                              · refine Tr.to ⟨151, 0, [(111, .val false [.lit (.bool (!((v12.Up == v13.Up) && ((v12.Cost == v13.Cost) && ((v12.Has == v13.Has) && (((v12.Heard.Root == v13.Heard.Root) && ((v12.Heard.Cost == v13.Heard.Cost) && ((v12.Heard.Hops == v13.Heard.Hops) && ((v12.Heard.Bridge == v13.Heard.Bridge) && ((v12.Heard.Port == v13.Heard.Port) && true))))) && true))))))]), (110, .val true (Pt.row v13)), (109, .fad ((Pt.row v13))), (108, .val false [.lit (.int .i64 y2)]), (107, .ref (.box 3) [(0, 0)] 11 2 1 false), (106, .adr (.box 3) [(0, 0)] 11 2), (105, .val true (Pt.row v12)), (104, .fad ((Pt.row v12))), (103, .val false [.lit (.int .i64 y2)]), (102, .ref (.box 2) [(0, 0)] 11 2 1 false), (101, .adr (.box 2) [(0, 0)] 11 2), (98, .val false [.lit (.bool true)]), (97, .val false [.lit (.int .i64 (x0.Ports.length : Int))]), (96, .val false [.sl false 8 (CV.frzEs (x0.Ports.map Pt.row))]), (95, .adr (.box 2) [(0, 0)] 11 2), (94, .val false [.lit (.int .i64 y2)]), (5, .val false [.lit (.int .i64 y2)]), (4, .val false [.lit (.bool false)]), (3, .adr (.box 3) [(0, 0)] 11 0), (2, .adr (.box 2) [(0, 0)] 11 0)], [(3, (CV.frzRow (Bridge.row x1))), (2, (CV.frzRow (Bridge.row x0)))]⟩ (by kernel_rfl) ?_
                                cases h17 : (!((v12.Up == v13.Up) && ((v12.Cost == v13.Cost) && ((v12.Has == v13.Has) && (((v12.Heard.Root == v13.Heard.Root) && ((v12.Heard.Cost == v13.Heard.Cost) && ((v12.Heard.Hops == v13.Heard.Hops) && ((v12.Heard.Bridge == v13.Heard.Bridge) && ((v12.Heard.Port == v13.Heard.Port) && true))))) && true)))))
                                · have H := bifF h17 H
                                  refine Tr.cond (b := false) (by kernel_rfl) (fun h => nomatch h) (fun _ => ?_)
                                  refine Tr.skip ?_
                                  show Tr _ _ _ _ _
                                  refine Tr.at ?_
                                  refine LAt.runU tOk 3 (by kernel_rfl) ?_
                                  refine LAt.doneU [5, 100, 99, 111, 110, 109, 108, 107, 106, 105, 104, 103, 102, 101, 98, 97, 96, 95, 94, 4, 3, 2] [3, 2] (by kernel_rfl) ?_
                                  exact Exists.intro (mo11, (IntKind.wrap .i64 (y2 + 1))) (And.intro H (And.intro (Nat.lt_succ_self mo11) (St.sub_of [5, 4, 3, 2] [3, 2] (by kernel_rfl))))
                                · have H := bifT h17 H
                                  refine Tr.cond (b := true) (by kernel_rfl) (fun _ => ?_) (fun h => nomatch h)
                                  refine Tr.rs ?_
                                  refine LAt.runU tOk 1 (by kernel_rfl) ?_
                                  refine LAt.doneU [4, 111, 110, 109, 108, 107, 106, 105, 104, 103, 102, 101, 98, 97, 96, 95, 94, 5, 3, 2] [3, 2] (by kernel_rfl) ?_
                                  refine Tr.ret ?_
                                  have H := Option.some.inj H
                                  subst H
                                  have H := Ho11
                                  dsimp only at H
                                  have H := Option.some.inj H
                                  subst H
                                  exact Fin.of _ [(false, [.lit (.bool false)])] (by kernel_rfl) rfl rfl
                        · rintro _ H
                          have H : (spec_SameBridge_J1 n x0 x1) = some r := H
                          unfold spec_SameBridge_J1 at H
                          show Tr _ _ _ _ _
                          refine Tr.seq ?_
                          refine Tr.rs ?_
                          refine LAt.runU tOk 1 (by kernel_rfl) ?_
                          refine LAt.doneU [6, 4, 3, 2] [3, 2] (by kernel_rfl) ?_
                          obtain ⟨o8, eo8, Ho8⟩ := bind_some H
                          clear H
                          refine Tr.mid (ι := Unit) (fun v => ⟨151, 0, [(4, .val false [.lit (.bool false)]), (3, .adr (.box 3) [(0, 0)] 11 0), (2, .adr (.box 2) [(0, 0)] 11 0)], [(3, (CV.frzRow (Bridge.row x1))), (2, (CV.frzRow (Bridge.row x0)))]⟩) (fun v => spec_SameBridge_J2 n x0 x1 = some r) ?_ ?_
                          · refine Tr.block ?_
                            refine Tr.loop (ι := Nat × (Int)) (fun v => ⟨151, 0, [(6, .val false [.lit (.int .i64 v.2)]), (4, .val false [.lit (.bool false)]), (3, .adr (.box 3) [(0, 0)] 11 0), (2, .adr (.box 2) [(0, 0)] 11 0)], [(3, (CV.frzRow (Bridge.row x1))), (2, (CV.frzRow (Bridge.row x0)))]⟩) (fun v => spec_SameBridge_L5 n v.1 x0 x1 v.2 = some o8) (fun v => v.1) (n, 0) eo8 (St.sub_of [6, 4, 3, 2] [3, 2] (by kernel_rfl)) ?_
                            rintro ⟨mo8, y3⟩ H
                            have H : spec_SameBridge_L5 n mo8 x0 x1 y3 = some o8 := H
                            obtain _ | mo8 := mo8
                            · cases (show (none : Option _) = some o8 from H)
                            · rw [spec_SameBridge_L5] at H
                              refine Tr.seq ?_
                              refine Tr.rs ?_
                              refine LAt.runU tOk 3 (by kernel_rfl) ?_
                              refine LAt.lenE tOk (t := 77) (ty := 3) (e := 147) (x := (.tmp 114)) (d := 115) (g := none) ⟨(.slot 114), [], 0, false, 5, (CV.frzEs (x0.F.map Fent.row))⟩ (x0.F).length _ (by kernel_rfl) (by kernel_rfl) (by kernel_rfl) (by kernel_rfl) (by kernel_rfl) (frz_len _ _) rfl ?_
                              refine LAt.runU tOk 1 (by kernel_rfl) ?_
                              refine LAt.doneU [116, 115, 114, 113, 112, 6, 4, 3, 2] [3, 2] (by kernel_rfl) ?_
                              refine Tr.to ⟨151, 0, [(116, .val false [.lit (.bool (decide (y3 < (x0.F.length : Int))))]), (115, .val false [.lit (.int .i64 (x0.F.length : Int))]), (114, .val false [.sl false 5 (CV.frzEs (x0.F.map Fent.row))]), (113, .adr (.box 2) [(0, 0)] 11 3), (112, .val false [.lit (.int .i64 y3)]), (6, .val false [.lit (.int .i64 y3)]), (4, .val false [.lit (.bool false)]), (3, .adr (.box 3) [(0, 0)] 11 0), (2, .adr (.box 2) [(0, 0)] 11 0)], [(3, (CV.frzRow (Bridge.row x1))), (2, (CV.frzRow (Bridge.row x0)))]⟩ (by kernel_rfl) ?_
                              cases h14 : (decide (y3 < (x0.F.length : Int)))
                              · have H := bifF h14 H
                                refine Tr.cond (b := false) (by kernel_rfl) (fun h => nomatch h) (fun _ => ?_)
                                refine Tr.exit ?_
                                refine And.intro (fun _ => ?_) (fun h => absurd rfl h)
                                have H := Option.some.inj H
                                subst H
                                have H := Ho8
                                dsimp only at H
                                exact Exists.intro () (And.intro H (St.sub_of [4, 3, 2] [3, 2] (by kernel_rfl)))
                              · have H := bifT h14 H
                                refine Tr.cond (b := true) (by kernel_rfl) (fun _ => ?_) (fun h => nomatch h)
                                refine Tr.skip ?_
                                show Tr _ _ _ _ _
                                refine Tr.seq ?_
                                refine Tr.block ?_
                                obtain ⟨v9, ev9, H⟩ := bind_some H
                                obtain ⟨v10, ev10, H⟩ := bind_some H
                                refine Tr.draws mixed 11 (by kernel_rfl) ⟨151, 0, [(129, .val false [.lit (.bool (!((v9.Tag == v10.Tag) && ((v9.Mac == v10.Mac) && ((v9.Port == v10.Port) && ((v9.Age == v10.Age) && ((v9.Static == v10.Static) && true)))))))]), (128, .val true (Fent.row v10)), (127, .fad ((Fent.row v10))), (126, .val false [.lit (.int .i64 y3)]), (125, .ref (.box 3) [(0, 0)] 11 3 1 false), (124, .adr (.box 3) [(0, 0)] 11 3), (123, .val true (Fent.row v9)), (122, .fad ((Fent.row v9))), (121, .val false [.lit (.int .i64 y3)]), (120, .ref (.box 2) [(0, 0)] 11 3 1 false), (119, .adr (.box 2) [(0, 0)] 11 3), (116, .val false [.lit (.bool true)]), (115, .val false [.lit (.int .i64 (x0.F.length : Int))]), (114, .val false [.sl false 5 (CV.frzEs (x0.F.map Fent.row))]), (113, .adr (.box 2) [(0, 0)] 11 3), (112, .val false [.lit (.int .i64 y3)]), (6, .val false [.lit (.int .i64 y3)]), (4, .val false [.lit (.bool false)]), (3, .adr (.box 3) [(0, 0)] 11 0), (2, .adr (.box 2) [(0, 0)] 11 0)], [(3, (CV.frzRow (Bridge.row x1))), (2, (CV.frzRow (Bridge.row x0)))]⟩ (fun cx => ?_) ?_
                                · refine AT.runU tOk [(0, []), (1, [10]), (2, [])] 8 [⟨[10], 77, 119, 120⟩] [2, 1, 0] rfl (by kernel_rfl) (fun cx => ?_)
                                  refine AT.indexF tOk 3 (t := 77) (ty := 0) (x := (.tmp 120)) (y := (.tmp 121)) (d := 122) (g := none) ⟨(.box 2), [(0, 0)], 3, false, 5, (CV.frzEs (x0.F.map Fent.row))⟩ y3 (Fent.row v9) _ (by kernel_rfl) (by kernel_rfl) (by kernel_rfl) (by kernel_rfl) (by kernel_rfl) (by kernel_rfl) rfl (idx_isF ev9) rfl (fun cx => ?_)
                                  refine AT.runU tOk [(4, []), (5, []), (6, [10]), (7, [])] 3 [⟨[10], 77, 124, 125⟩, ⟨[10], 77, 119, 120⟩] [7, 6, 5, 4, 3, 2, 1, 0] rfl (by kernel_rfl) (fun cx => ?_)
                                  refine AT.indexF tOk 8 (t := 77) (ty := 0) (x := (.tmp 125)) (y := (.tmp 126)) (d := 127) (g := none) ⟨(.box 3), [(0, 0)], 3, false, 5, (CV.frzEs (x1.F.map Fent.row))⟩ y3 (Fent.row v10) _ (by kernel_rfl) (by kernel_rfl) (by kernel_rfl) (by kernel_rfl) (by kernel_rfl) (by kernel_rfl) rfl (idx_isF ev10) rfl (fun cx => ?_)
                                  refine AT.runU tOk [(9, [])] 1 [⟨[10], 77, 124, 125⟩, ⟨[10], 77, 119, 120⟩] [9, 8, 7, 6, 5, 4, 3, 2, 1, 0] rfl (by kernel_rfl) (fun cx => ?_)
                                  refine AT.big1 tOk 10 (by kernel_rfl) (by kernel_rfl) ?_
                                  refine LAt.eqS true (t := 147) (ty := 147) (ty' := 4) (x := (.tmp 123)) (y := (.tmp 128)) (d := 129) ((v9.Tag == v10.Tag) && ((v9.Mac == v10.Mac) && ((v9.Port == v10.Port) && ((v9.Age == v10.Age) && ((v9.Static == v10.Static) && true))))) _ (by kernel_rfl) (by kernel_rfl) (by kernel_rfl) rfl ?_
                                  refine LAt.fin (by kernel_rfl) (And.intro (And.intro (by kernel_rfl) (by kernel_rfl)) ?_)
                                  exact AT.done [129, 128, 127, 126, 125, 124, 123, 122, 121, 120, 119, 116, 115, 114, 113, 112, 6, 4, 3, 2] [3, 2] _ (by kernel_rfl) (by kernel_rfl) rfl
                                · refine Tr.to ⟨151, 0, [(129, .val false [.lit (.bool (!((v9.Tag == v10.Tag) && ((v9.Mac == v10.Mac) && ((v9.Port == v10.Port) && ((v9.Age == v10.Age) && ((v9.Static == v10.Static) && true)))))))]), (128, .val true (Fent.row v10)), (127, .fad ((Fent.row v10))), (126, .val false [.lit (.int .i64 y3)]), (125, .ref (.box 3) [(0, 0)] 11 3 1 false), (124, .adr (.box 3) [(0, 0)] 11 3), (123, .val true (Fent.row v9)), (122, .fad ((Fent.row v9))), (121, .val false [.lit (.int .i64 y3)]), (120, .ref (.box 2) [(0, 0)] 11 3 1 false), (119, .adr (.box 2) [(0, 0)] 11 3), (116, .val false [.lit (.bool true)]), (115, .val false [.lit (.int .i64 (x0.F.length : Int))]), (114, .val false [.sl false 5 (CV.frzEs (x0.F.map Fent.row))]), (113, .adr (.box 2) [(0, 0)] 11 3), (112, .val false [.lit (.int .i64 y3)]), (6, .val false [.lit (.int .i64 y3)]), (4, .val false [.lit (.bool false)]), (3, .adr (.box 3) [(0, 0)] 11 0), (2, .adr (.box 2) [(0, 0)] 11 0)], [(3, (CV.frzRow (Bridge.row x1))), (2, (CV.frzRow (Bridge.row x0)))]⟩ (by kernel_rfl) ?_
                                  cases h15 : (!((v9.Tag == v10.Tag) && ((v9.Mac == v10.Mac) && ((v9.Port == v10.Port) && ((v9.Age == v10.Age) && ((v9.Static == v10.Static) && true))))))
                                  · have H := bifF h15 H
                                    refine Tr.cond (b := false) (by kernel_rfl) (fun h => nomatch h) (fun _ => ?_)
                                    refine Tr.skip ?_
                                    show Tr _ _ _ _ _
                                    refine Tr.at ?_
                                    refine LAt.runU tOk 3 (by kernel_rfl) ?_
                                    refine LAt.doneU [6, 118, 117, 129, 128, 127, 126, 125, 124, 123, 122, 121, 120, 119, 116, 115, 114, 113, 112, 4, 3, 2] [3, 2] (by kernel_rfl) ?_
                                    exact Exists.intro (mo8, (IntKind.wrap .i64 (y3 + 1))) (And.intro H (And.intro (Nat.lt_succ_self mo8) (St.sub_of [6, 4, 3, 2] [3, 2] (by kernel_rfl))))
                                  · have H := bifT h15 H
                                    refine Tr.cond (b := true) (by kernel_rfl) (fun _ => ?_) (fun h => nomatch h)
                                    refine Tr.rs ?_
                                    refine LAt.runU tOk 1 (by kernel_rfl) ?_
                                    refine LAt.doneU [4, 129, 128, 127, 126, 125, 124, 123, 122, 121, 120, 119, 116, 115, 114, 113, 112, 6, 3, 2] [3, 2] (by kernel_rfl) ?_
                                    refine Tr.ret ?_
                                    have H := Option.some.inj H
                                    subst H
                                    have H := Ho8
                                    dsimp only at H
                                    have H := Option.some.inj H
                                    subst H
                                    exact Fin.of _ [(false, [.lit (.bool false)])] (by kernel_rfl) rfl rfl
                          · rintro _ H
                            have H : (spec_SameBridge_J2 n x0 x1) = some r := H
                            unfold spec_SameBridge_J2 at H
                            show Tr _ _ _ _ _
                            refine Tr.seq ?_
                            refine Tr.rs ?_
                            refine LAt.runU tOk 1 (by kernel_rfl) ?_
                            refine LAt.doneU [7, 4, 3, 2] [3, 2] (by kernel_rfl) ?_
                            obtain ⟨o5, eo5, Ho5⟩ := bind_some H
                            clear H
                            refine Tr.mid (ι := Unit) (fun v => ⟨151, 0, [(4, .val false [.lit (.bool false)])], []⟩) (fun v => spec_SameBridge_J3 n = some r) ?_ ?_
                            · refine Tr.block ?_
                              refine Tr.loop (ι := Nat × (Int)) (fun v => ⟨151, 0, [(7, .val false [.lit (.int .i64 v.2)]), (4, .val false [.lit (.bool false)]), (3, .adr (.box 3) [(0, 0)] 11 0), (2, .adr (.box 2) [(0, 0)] 11 0)], [(3, (CV.frzRow (Bridge.row x1))), (2, (CV.frzRow (Bridge.row x0)))]⟩) (fun v => spec_SameBridge_L4 n v.1 x0 x1 v.2 = some o5) (fun v => v.1) (n, 0) eo5 (St.sub_of [7, 4, 3, 2] [3, 2] (by kernel_rfl)) ?_
                              rintro ⟨mo5, y4⟩ H
                              have H : spec_SameBridge_L4 n mo5 x0 x1 y4 = some o5 := H
                              obtain _ | mo5 := mo5
                              · cases (show (none : Option _) = some o5 from H)
                              · rw [spec_SameBridge_L4] at H
                                refine Tr.seq ?_
                                refine Tr.rs ?_
                                refine LAt.runU tOk 4 (by kernel_rfl) ?_
                                refine LAt.lenE tOk (t := 27) (ty := 3) (e := 56) (x := (.tmp 133)) (d := 134) (g := none) ⟨(.slot 133), [], 0, false, 3, (CV.frzEs (x0.V.Rows.map Vrow.row))⟩ (x0.V.Rows).length _ (by kernel_rfl) (by kernel_rfl) (by kernel_rfl) (by kernel_rfl) (by kernel_rfl) (frz_len _ _) rfl ?_
                                refine LAt.runU tOk 1 (by kernel_rfl) ?_
                                refine LAt.doneU [135, 134, 133, 132, 131, 130, 7, 4, 3, 2] [3, 2] (by kernel_rfl) ?_
                                refine Tr.to ⟨151, 0, [(135, .val false [.lit (.bool (decide (y4 < (x0.V.Rows.length : Int))))]), (134, .val false [.lit (.int .i64 (x0.V.Rows.length : Int))]), (133, .val false [.sl false 3 (CV.frzEs (x0.V.Rows.map Vrow.row))]), (132, .adr (.box 2) [(0, 0)] 11 4), (131, .adr (.box 2) [(0, 0)] 11 4), (130, .val false [.lit (.int .i64 y4)]), (7, .val false [.lit (.int .i64 y4)]), (4, .val false [.lit (.bool false)]), (3, .adr (.box 3) [(0, 0)] 11 0), (2, .adr (.box 2) [(0, 0)] 11 0)], [(3, (CV.frzRow (Bridge.row x1))), (2, (CV.frzRow (Bridge.row x0)))]⟩ (by kernel_rfl) ?_
                                cases h12 : (decide (y4 < (x0.V.Rows.length : Int)))
                                · have H := bifF h12 H
                                  refine Tr.cond (b := false) (by kernel_rfl) (fun h => nomatch h) (fun _ => ?_)
                                  refine Tr.exit ?_
                                  refine And.intro (fun _ => ?_) (fun h => absurd rfl h)
                                  have H := Option.some.inj H
                                  subst H
                                  have H := Ho5
                                  dsimp only at H
                                  exact Exists.intro () (And.intro H (St.sub_of [4] [] (by kernel_rfl)))
                                · have H := bifT h12 H
                                  refine Tr.cond (b := true) (by kernel_rfl) (fun _ => ?_) (fun h => nomatch h)
                                  refine Tr.skip ?_
                                  show Tr _ _ _ _ _
                                  refine Tr.seq ?_
                                  refine Tr.block ?_
                                  obtain ⟨v6, ev6, H⟩ := bind_some H
                                  obtain ⟨v7, ev7, H⟩ := bind_some H
                                  refine Tr.draws mixed 13 (by kernel_rfl) ⟨151, 0, [(150, .val false [.lit (.bool (!((v6.Id == v7.Id) && ((v6.Members == v7.Members) && ((v6.Bare == v7.Bare) && true)))))]), (149, .val true (Vrow.row v7)), (148, .fad ((Vrow.row v7))), (147, .val false [.lit (.int .i64 y4)]), (146, .ref (.box 3) [(0, 0)] 11 4 1 false), (145, .adr (.box 3) [(0, 0)] 11 4), (144, .adr (.box 3) [(0, 0)] 11 4), (143, .val true (Vrow.row v6)), (142, .fad ((Vrow.row v6))), (141, .val false [.lit (.int .i64 y4)]), (140, .ref (.box 2) [(0, 0)] 11 4 1 false), (139, .adr (.box 2) [(0, 0)] 11 4), (138, .adr (.box 2) [(0, 0)] 11 4), (135, .val false [.lit (.bool true)]), (134, .val false [.lit (.int .i64 (x0.V.Rows.length : Int))]), (133, .val false [.sl false 3 (CV.frzEs (x0.V.Rows.map Vrow.row))]), (132, .adr (.box 2) [(0, 0)] 11 4), (131, .adr (.box 2) [(0, 0)] 11 4), (130, .val false [.lit (.int .i64 y4)]), (7, .val false [.lit (.int .i64 y4)]), (4, .val false [.lit (.bool false)]), (3, .adr (.box 3) [(0, 0)] 11 0), (2, .adr (.box 2) [(0, 0)] 11 0)], [(3, (CV.frzRow (Bridge.row x1))), (2, (CV.frzRow (Bridge.row x0)))]⟩ (fun cx => ?_) ?_
                                  · refine AT.runU tOk [(0, []), (1, []), (2, [12]), (3, [])] 9 [⟨[12], 27, 139, 140⟩] [3, 2, 1, 0] rfl (by kernel_rfl) (fun cx => ?_)
                                    refine AT.indexF tOk 4 (t := 27) (ty := 0) (x := (.tmp 140)) (y := (.tmp 141)) (d := 142) (g := none) ⟨(.box 2), [(0, 0)], 4, false, 3, (CV.frzEs (x0.V.Rows.map Vrow.row))⟩ y4 (Vrow.row v6) _ (by kernel_rfl) (by kernel_rfl) (by kernel_rfl) (by kernel_rfl) (by kernel_rfl) (by kernel_rfl) rfl (idx_isF ev6) rfl (fun cx => ?_)
                                    refine AT.runU tOk [(5, []), (6, []), (7, []), (8, [12]), (9, [])] 3 [⟨[12], 27, 145, 146⟩, ⟨[12], 27, 139, 140⟩] [9, 8, 7, 6, 5, 4, 3, 2, 1, 0] rfl (by kernel_rfl) (fun cx => ?_)
                                    refine AT.indexF tOk 10 (t := 27) (ty := 0) (x := (.tmp 146)) (y := (.tmp 147)) (d := 148) (g := none) ⟨(.box 3), [(0, 0)], 4, false, 3, (CV.frzEs (x1.V.Rows.map Vrow.row))⟩ y4 (Vrow.row v7) _ (by kernel_rfl) (by kernel_rfl) (by kernel_rfl) (by kernel_rfl) (by kernel_rfl) (by kernel_rfl) rfl (idx_isF ev7) rfl (fun cx => ?_)
                                    refine AT.runU tOk [(11, [])] 1 [⟨[12], 27, 145, 146⟩, ⟨[12], 27, 139, 140⟩] [11, 10, 9, 8, 7, 6, 5, 4, 3, 2, 1, 0] rfl (by kernel_rfl) (fun cx => ?_)
                                    refine AT.big1 tOk 12 (by kernel_rfl) (by kernel_rfl) ?_
                                    refine LAt.eqS true (t := 56) (ty := 56) (ty' := 4) (x := (.tmp 143)) (y := (.tmp 149)) (d := 150) ((v6.Id == v7.Id) && ((v6.Members == v7.Members) && ((v6.Bare == v7.Bare) && true))) _ (by kernel_rfl) (by kernel_rfl) (by kernel_rfl) rfl ?_
                                    refine LAt.fin (by kernel_rfl) (And.intro (And.intro (by kernel_rfl) (by kernel_rfl)) ?_)
                                    exact AT.done [150, 149, 148, 147, 146, 145, 144, 143, 142, 141, 140, 139, 138, 135, 134, 133, 132, 131, 130, 7, 4, 3, 2] [3, 2] _ (by kernel_rfl) (by kernel_rfl) rfl
                                  · refine Tr.to ⟨151, 0, [(150, .val false [.lit (.bool (!((v6.Id == v7.Id) && ((v6.Members == v7.Members) && ((v6.Bare == v7.Bare) && true)))))]), (149, .val true (Vrow.row v7)), (148, .fad ((Vrow.row v7))), (147, .val false [.lit (.int .i64 y4)]), (146, .ref (.box 3) [(0, 0)] 11 4 1 false), (145, .adr (.box 3) [(0, 0)] 11 4), (144, .adr (.box 3) [(0, 0)] 11 4), (143, .val true (Vrow.row v6)), (142, .fad ((Vrow.row v6))), (141, .val false [.lit (.int .i64 y4)]), (140, .ref (.box 2) [(0, 0)] 11 4 1 false), (139, .adr (.box 2) [(0, 0)] 11 4), (138, .adr (.box 2) [(0, 0)] 11 4), (135, .val false [.lit (.bool true)]), (134, .val false [.lit (.int .i64 (x0.V.Rows.length : Int))]), (133, .val false [.sl false 3 (CV.frzEs (x0.V.Rows.map Vrow.row))]), (132, .adr (.box 2) [(0, 0)] 11 4), (131, .adr (.box 2) [(0, 0)] 11 4), (130, .val false [.lit (.int .i64 y4)]), (7, .val false [.lit (.int .i64 y4)]), (4, .val false [.lit (.bool false)]), (3, .adr (.box 3) [(0, 0)] 11 0), (2, .adr (.box 2) [(0, 0)] 11 0)], [(3, (CV.frzRow (Bridge.row x1))), (2, (CV.frzRow (Bridge.row x0)))]⟩ (by kernel_rfl) ?_
                                    cases h13 : (!((v6.Id == v7.Id) && ((v6.Members == v7.Members) && ((v6.Bare == v7.Bare) && true))))
                                    · have H := bifF h13 H
                                      refine Tr.cond (b := false) (by kernel_rfl) (fun h => nomatch h) (fun _ => ?_)
                                      refine Tr.skip ?_
                                      show Tr _ _ _ _ _
                                      refine Tr.at ?_
                                      refine LAt.runU tOk 3 (by kernel_rfl) ?_
                                      refine LAt.doneU [7, 137, 136, 150, 149, 148, 147, 146, 145, 144, 143, 142, 141, 140, 139, 138, 135, 134, 133, 132, 131, 130, 4, 3, 2] [3, 2] (by kernel_rfl) ?_
                                      exact Exists.intro (mo5, (IntKind.wrap .i64 (y4 + 1))) (And.intro H (And.intro (Nat.lt_succ_self mo5) (St.sub_of [7, 4, 3, 2] [3, 2] (by kernel_rfl))))
                                    · have H := bifT h13 H
                                      refine Tr.cond (b := true) (by kernel_rfl) (fun _ => ?_) (fun h => nomatch h)
                                      refine Tr.rs ?_
                                      refine LAt.runU tOk 1 (by kernel_rfl) ?_
                                      refine LAt.doneU [4, 150, 149, 148, 147, 146, 145, 144, 143, 142, 141, 140, 139, 138, 135, 134, 133, 132, 131, 130, 7, 3, 2] [3, 2] (by kernel_rfl) ?_
                                      refine Tr.ret ?_
                                      have H := Option.some.inj H
                                      subst H
                                      have H := Ho5
                                      dsimp only at H
                                      have H := Option.some.inj H
                                      subst H
                                      exact Fin.of _ [(false, [.lit (.bool false)])] (by kernel_rfl) rfl rfl
                            · rintro _ H
                              have H : (spec_SameBridge_J3 n) = some r := H
                              unfold spec_SameBridge_J3 at H
                              show Tr _ _ _ _ _
                              refine Tr.rs ?_
                              refine LAt.runU tOk 1 (by kernel_rfl) ?_
                              refine LAt.doneU [4] [] (by kernel_rfl) ?_
                              refine Tr.ret ?_
                              have H := Option.some.inj H
                              subst H
                              exact Fin.of _ [(false, [.lit (.bool true)])] (by kernel_rfl) rfl rfl
                      · have H := bifT h11 H
                        refine Tr.cond (b := true) (by kernel_rfl) (fun _ => ?_) (fun h => nomatch h)
                        refine Tr.rs ?_
                        refine LAt.runU tOk 1 (by kernel_rfl) ?_
                        refine LAt.doneU [4, 3, 2] [3, 2] (by kernel_rfl) ?_
                        refine Tr.ret ?_
                        have H := Option.some.inj H
                        subst H
                        exact Fin.of _ [(false, [.lit (.bool false)])] (by kernel_rfl) rfl rfl
                    · have H := bifT h10 H
                      refine LAt.runU tOk 9 (by kernel_rfl) ?_
                      refine LAt.doneU [93, 4, 3, 2] [3, 2] (by kernel_rfl) ?_
                      refine Tr.cond (b := true) (by kernel_rfl) (fun _ => ?_) (fun h => nomatch h)
                      refine Tr.rs ?_
                      refine LAt.runU tOk 1 (by kernel_rfl) ?_
                      refine LAt.doneU [4, 3, 2] [3, 2] (by kernel_rfl) ?_
                      refine Tr.ret ?_
                      have H := Option.some.inj H
                      subst H
                      exact Fin.of _ [(false, [.lit (.bool false)])] (by kernel_rfl) rfl rfl
                  · have H := bifT h9 H
                    refine LAt.runU tOk 20 (by kernel_rfl) ?_
                    refine LAt.doneU [93, 4, 3, 2] [3, 2] (by kernel_rfl) ?_
                    refine Tr.cond (b := true) (by kernel_rfl) (fun _ => ?_) (fun h => nomatch h)
                    refine Tr.rs ?_
                    refine LAt.runU tOk 1 (by kernel_rfl) ?_
                    refine LAt.doneU [4, 3, 2] [3, 2] (by kernel_rfl) ?_
                    refine Tr.ret ?_
                    have H := Option.some.inj H
                    subst H
                    exact Fin.of _ [(false, [.lit (.bool false)])] (by kernel_rfl) rfl rfl
                · have H := bifT h8 H
                  refine LAt.runU tOk 29 (by kernel_rfl) ?_
                  refine LAt.doneU [93, 4, 3, 2] [3, 2] (by kernel_rfl) ?_
                  refine Tr.cond (b := true) (by kernel_rfl) (fun _ => ?_) (fun h => nomatch h)
                  refine Tr.rs ?_
                  refine LAt.runU tOk 1 (by kernel_rfl) ?_
                  refine LAt.doneU [4, 3, 2] [3, 2] (by kernel_rfl) ?_
                  refine Tr.ret ?_
                  have H := Option.some.inj H
                  subst H
                  exact Fin.of _ [(false, [.lit (.bool false)])] (by kernel_rfl) rfl rfl
              · have H := bifT h7 H
                refine LAt.runU tOk 38 (by kernel_rfl) ?_
                refine LAt.doneU [93, 4, 3, 2] [3, 2] (by kernel_rfl) ?_
                refine Tr.cond (b := true) (by kernel_rfl) (fun _ => ?_) (fun h => nomatch h)
                refine Tr.rs ?_
                refine LAt.runU tOk 1 (by kernel_rfl) ?_
                refine LAt.doneU [4, 3, 2] [3, 2] (by kernel_rfl) ?_
                refine Tr.ret ?_
                have H := Option.some.inj H
                subst H
                exact Fin.of _ [(false, [.lit (.bool false)])] (by kernel_rfl) rfl rfl
            · have H := bifT h6 H
              refine LAt.runU tOk 45 (by kernel_rfl) ?_
              refine LAt.doneU [93, 4, 3, 2] [3, 2] (by kernel_rfl) ?_
              refine Tr.cond (b := true) (by kernel_rfl) (fun _ => ?_) (fun h => nomatch h)
              refine Tr.rs ?_
              refine LAt.runU tOk 1 (by kernel_rfl) ?_
              refine LAt.doneU [4, 3, 2] [3, 2] (by kernel_rfl) ?_
              refine Tr.ret ?_
              have H := Option.some.inj H
              subst H
              exact Fin.of _ [(false, [.lit (.bool false)])] (by kernel_rfl) rfl rfl
          · have H := bifT h5 H
            refine LAt.runU tOk 52 (by kernel_rfl) ?_
            refine LAt.doneU [93, 4, 3, 2] [3, 2] (by kernel_rfl) ?_
            refine Tr.cond (b := true) (by kernel_rfl) (fun _ => ?_) (fun h => nomatch h)
            refine Tr.rs ?_
            refine LAt.runU tOk 1 (by kernel_rfl) ?_
            refine LAt.doneU [4, 3, 2] [3, 2] (by kernel_rfl) ?_
            refine Tr.ret ?_
            have H := Option.some.inj H
            subst H
            exact Fin.of _ [(false, [.lit (.bool false)])] (by kernel_rfl) rfl rfl
        · have H := bifT h4 H
          refine LAt.runU tOk 59 (by kernel_rfl) ?_
          refine LAt.doneU [93, 4, 3, 2] [3, 2] (by kernel_rfl) ?_
          refine Tr.cond (b := true) (by kernel_rfl) (fun _ => ?_) (fun h => nomatch h)
          refine Tr.rs ?_
          refine LAt.runU tOk 1 (by kernel_rfl) ?_
          refine LAt.doneU [4, 3, 2] [3, 2] (by kernel_rfl) ?_
          refine Tr.ret ?_
          have H := Option.some.inj H
          subst H
          exact Fin.of _ [(false, [.lit (.bool false)])] (by kernel_rfl) rfl rfl
      · have H := bifT h3 H
        refine LAt.runU tOk 66 (by kernel_rfl) ?_
        refine LAt.doneU [93, 4, 3, 2] [3, 2] (by kernel_rfl) ?_
        refine Tr.cond (b := true) (by kernel_rfl) (fun _ => ?_) (fun h => nomatch h)
        refine Tr.rs ?_
        refine LAt.runU tOk 1 (by kernel_rfl) ?_
        refine LAt.doneU [4, 3, 2] [3, 2] (by kernel_rfl) ?_
        refine Tr.ret ?_
        have H := Option.some.inj H
        subst H
        exact Fin.of _ [(false, [.lit (.bool false)])] (by kernel_rfl) rfl rfl
    · have H := bifT h2 H
      refine LAt.runU tOk 73 (by kernel_rfl) ?_
      refine LAt.doneU [93, 4, 3, 2] [3, 2] (by kernel_rfl) ?_
      refine Tr.cond (b := true) (by kernel_rfl) (fun _ => ?_) (fun h => nomatch h)
      refine Tr.rs ?_
      refine LAt.runU tOk 1 (by kernel_rfl) ?_
      refine LAt.doneU [4, 3, 2] [3, 2] (by kernel_rfl) ?_
      refine Tr.ret ?_
      have H := Option.some.inj H
      subst H
      exact Fin.of _ [(false, [.lit (.bool false)])] (by kernel_rfl) rfl rfl
  · have H := bifT h1 H
    refine LAt.runU tOk 80 (by kernel_rfl) ?_
    refine LAt.doneU [93, 4, 3, 2] [3, 2] (by kernel_rfl) ?_
    refine Tr.cond (b := true) (by kernel_rfl) (fun _ => ?_) (fun h => nomatch h)
    refine Tr.rs ?_
    refine LAt.runU tOk 1 (by kernel_rfl) ?_
    refine LAt.doneU [4, 3, 2] [3, 2] (by kernel_rfl) ?_
    refine Tr.ret ?_
    have H := Option.some.inj H
    subst H
    exact Fin.of _ [(false, [.lit (.bool false)])] (by kernel_rfl) rfl rfl

def impl_sameRows_J1 (n : Nat) : Option (Bool) :=
  (some true)
def impl_sameRows_L2 (n : Nat) : Nat → (List Vrow) → (List Vrow) → Int → Option ((Unit) ⊕ (Bool))
  | 0, _, _, _ => none
  | mo2 + 1, x0, x1, y1 => (bif (decide (y1 < (x0.length : Int))) then ((idx x0 y1).bind fun v3 => ((idx x1 y1).bind fun v4 => (bif (!((v3.Id == v4.Id) && ((v3.Members == v4.Members) && ((v3.Bare == v4.Bare) && true)))) then (some (Sum.inr false)) else (impl_sameRows_L2 n mo2 x0 x1 (IntKind.wrap .i64 (y1 + 1)))))) else (some (Sum.inl ())))
def impl_sameRowsF (n : Nat) (x0 : (List Vrow)) (x1 : (List Vrow)) : Option (Bool) :=
  (bif ((x0.length : Int) != (x1.length : Int)) then (some false) else ((impl_sameRows_L2 n n x0 x1 0).bind fun o => match o with | .inl _ => (impl_sameRows_J1 n) | .inr r => some r))
/-- loop.example/g00326/impl.sameRows -/
theorem impl_sameRows (n : Nat) (x0 : (List Vrow)) (x1 : (List Vrow)) (r : Bool) (H : impl_sameRowsF n x0 x1 = some r) : LCall Try.prog 118 [.val false [.sl false 3 (CV.frzEs (x0.map Vrow.row))], .val false [.sl false 3 (CV.frzEs (x1.map Vrow.row))]] [.val false [.lit (.bool r)]] [] := by
  refine LCall.of_body tOk Try.func118 rfl (c := (.seq (.region 0 (rg Try.f118 0) false) (.seq (.seq (.region 1 (rg Try.f118 1) false) (.cond (.tmp 10) (.seq (.region 2 (rg Try.f118 2) false) .ret) .skip)) (.seq (.seq (.region 3 (rg Try.f118 3) false) (.block 0 (.loop (.seq (.region 4 (rg Try.f118 4) false) (.seq (.cond (.tmp 14) .skip (.exit 0)) (.seq (.block 1 (.seq (.region 5 (rg Try.f118 5) false) (.seq (.region 6 (rg Try.f118 6) true) (.cond (.tmp 24) (.seq (.region 7 (rg Try.f118 7) false) .ret) .skip)))) (.region 8 (rg Try.f118 8) false))))))) (.seq (.region 9 (rg Try.f118 9) false) .ret))))) (by kernel_rfl) (Nat.le_of_ble_eq_true (by kernel_rfl)) 0 (rs := [.tmp 4]) rfl [] .nil [(false, [.lit (.bool r)])] [] [] fun cx => ?_
  show Tr _ _ _ ⟨26, 0, [(0, .val false [.sl false 3 (CV.frzEs (x0.map Vrow.row))]), (1, .val false [.sl false 3 (CV.frzEs (x1.map Vrow.row))])], []⟩ _
  unfold impl_sameRowsF at H
  refine Tr.rs ?_
  refine LAt.runU tOk 1 (by kernel_rfl) ?_
  refine LAt.doneU [4, 0, 1] [] (by kernel_rfl) ?_
  refine Tr.seq ?_
  refine Tr.rs ?_
  refine LAt.runU tOk 1 (by kernel_rfl) ?_
  refine LAt.lenE tOk (t := 27) (ty := 3) (e := 56) (x := (.tmp 6)) (d := 7) (g := none) ⟨(.slot 6), [], 0, false, 3, (CV.frzEs (x0.map Vrow.row))⟩ (x0).length _ (by kernel_rfl) (by kernel_rfl) (by kernel_rfl) (by kernel_rfl) (by kernel_rfl) (frz_len _ _) rfl ?_
  refine LAt.runU tOk 1 (by kernel_rfl) ?_
  refine LAt.lenE tOk (t := 27) (ty := 3) (e := 56) (x := (.tmp 8)) (d := 9) (g := none) ⟨(.slot 8), [], 0, false, 3, (CV.frzEs (x1.map Vrow.row))⟩ (x1).length _ (by kernel_rfl) (by kernel_rfl) (by kernel_rfl) (by kernel_rfl) (by kernel_rfl) (frz_len _ _) rfl ?_
  refine LAt.runU tOk 1 (by kernel_rfl) ?_
  refine LAt.doneU [10, 4, 0, 1] [] (by kernel_rfl) ?_
  refine Tr.to ⟨26, 0, [(10, .val false [.lit (.bool ((x0.length : Int) != (x1.length : Int)))]), (4, .val false [.lit (.bool false)]), (0, .val false [.sl false 3 (CV.frzEs (x0.map Vrow.row))]), (1, .val false [.sl false 3 (CV.frzEs (x1.map Vrow.row))])], []⟩ (by kernel_rfl) ?_
  cases h1 : ((x0.length : Int) != (x1.length : Int))
  · have H := bifF h1 H
    refine Tr.cond (b := false) (by kernel_rfl) (fun h => nomatch h) (fun _ => ?_)
    refine Tr.skip ?_
    show Tr _ _ _ _ _
    refine Tr.seq ?_
    refine Tr.rs ?_
    refine LAt.runU tOk 1 (by kernel_rfl) ?_
    refine LAt.lenE tOk (t := 27) (ty := 3) (e := 56) (x := (.tmp 11)) (d := 12) (g := none) ⟨(.slot 11), [], 0, false, 3, (CV.frzEs (x0.map Vrow.row))⟩ (x0).length _ (by kernel_rfl) (by kernel_rfl) (by kernel_rfl) (by kernel_rfl) (by kernel_rfl) (frz_len _ _) rfl ?_
    refine LAt.runU tOk 1 (by kernel_rfl) ?_
    refine LAt.doneU [13, 12, 4, 0, 1] [] (by kernel_rfl) ?_
    obtain ⟨o2, eo2, Ho2⟩ := bind_some H
    clear H
    refine Tr.mid (ι := Unit) (fun v => ⟨26, 0, [(4, .val false [.lit (.bool false)])], []⟩) (fun v => impl_sameRows_J1 n = some r) ?_ ?_
    · refine Tr.block ?_
      refine Tr.loop (ι := Nat × (Int)) (fun v => ⟨26, 0, [(13, .val false [.lit (.int .i64 v.2)]), (12, .val false [.lit (.int .i64 (x0.length : Int))]), (4, .val false [.lit (.bool false)]), (0, .val false [.sl false 3 (CV.frzEs (x0.map Vrow.row))]), (1, .val false [.sl false 3 (CV.frzEs (x1.map Vrow.row))])], []⟩) (fun v => impl_sameRows_L2 n v.1 x0 x1 v.2 = some o2) (fun v => v.1) (n, 0) eo2 (St.sub_of [13, 12, 4, 0, 1] [] (by kernel_rfl)) ?_
      rintro ⟨mo2, y1⟩ H
      have H : impl_sameRows_L2 n mo2 x0 x1 y1 = some o2 := H
      obtain _ | mo2 := mo2
      · cases (show (none : Option _) = some o2 from H)
      · rw [impl_sameRows_L2] at H
        refine Tr.rs ?_
        refine LAt.runU tOk 1 (by kernel_rfl) ?_
        refine LAt.doneU [14, 13, 12, 4, 0, 1] [] (by kernel_rfl) ?_
        refine Tr.seq ?_
        refine Tr.to ⟨26, 0, [(14, .val false [.lit (.bool (decide (y1 < (x0.length : Int))))]), (13, .val false [.lit (.int .i64 y1)]), (12, .val false [.lit (.int .i64 (x0.length : Int))]), (4, .val false [.lit (.bool false)]), (0, .val false [.sl false 3 (CV.frzEs (x0.map Vrow.row))]), (1, .val false [.sl false 3 (CV.frzEs (x1.map Vrow.row))])], []⟩ (by kernel_rfl) ?_
        cases h2 : (decide (y1 < (x0.length : Int)))
        · have H := bifF h2 H
          refine Tr.cond (b := false) (by kernel_rfl) (fun h => nomatch h) (fun _ => ?_)
          refine Tr.exit ?_
          refine And.intro (fun _ => ?_) (fun h => absurd rfl h)
          have H := Option.some.inj H
          subst H
          have H := Ho2
          dsimp only at H
          exact Exists.intro () (And.intro H (St.sub_of [4] [] (by kernel_rfl)))
        · have H := bifT h2 H
          refine Tr.cond (b := true) (by kernel_rfl) (fun _ => ?_) (fun h => nomatch h)
          refine Tr.skip ?_
          show Tr _ _ _ _ _
          refine Tr.seq ?_
          refine Tr.block ?_
          refine Tr.rs ?_
          refine LAt.runU tOk 2 (by kernel_rfl) ?_
          refine LAt.doneU [5, 15, 14, 13, 12, 4, 0, 1] [] (by kernel_rfl) ?_
          obtain ⟨v3, ev3, H⟩ := bind_some H
          obtain ⟨v4, ev4, H⟩ := bind_some H
          refine Tr.draws mixed 9 (by kernel_rfl) ⟨26, 0, [(24, .val false [.lit (.bool (!((v3.Id == v4.Id) && ((v3.Members == v4.Members) && ((v3.Bare == v4.Bare) && true)))))]), (23, .val true (Vrow.row v4)), (22, .fad ((Vrow.row v4))), (21, .val false [.lit (.int .i64 y1)]), (20, .val false [.sl false 3 (CV.frzEs (x1.map Vrow.row))]), (19, .val true (Vrow.row v3)), (18, .fad ((Vrow.row v3))), (17, .val false [.lit (.int .i64 y1)]), (16, .val false [.sl false 3 (CV.frzEs (x0.map Vrow.row))]), (5, .val false [.lit (.int .i64 y1)]), (15, .val false [.lit (.int .i64 y1)]), (14, .val false [.lit (.bool true)]), (13, .val false [.lit (.int .i64 y1)]), (12, .val false [.lit (.int .i64 (x0.length : Int))]), (4, .val false [.lit (.bool false)]), (0, .val false [.sl false 3 (CV.frzEs (x0.map Vrow.row))]), (1, .val false [.sl false 3 (CV.frzEs (x1.map Vrow.row))])], []⟩ (fun cx => ?_) ?_
          · refine AT.runU tOk [(0, []), (1, [])] 7 [] [1, 0] rfl (by kernel_rfl) (fun cx => ?_)
            refine AT.indexF tOk 2 (t := 27) (ty := 0) (x := (.tmp 16)) (y := (.tmp 17)) (d := 18) (g := none) ⟨(.slot 16), [], 0, false, 3, (CV.frzEs (x0.map Vrow.row))⟩ y1 (Vrow.row v3) _ (by kernel_rfl) (by kernel_rfl) (by kernel_rfl) (by kernel_rfl) (by kernel_rfl) (by kernel_rfl) rfl (idx_isF ev3) rfl (fun cx => ?_)
            refine AT.runU tOk [(3, []), (4, []), (5, [])] 3 [] [5, 4, 3, 2, 1, 0] rfl (by kernel_rfl) (fun cx => ?_)
            refine AT.indexF tOk 6 (t := 27) (ty := 0) (x := (.tmp 20)) (y := (.tmp 21)) (d := 22) (g := none) ⟨(.slot 20), [], 0, false, 3, (CV.frzEs (x1.map Vrow.row))⟩ y1 (Vrow.row v4) _ (by kernel_rfl) (by kernel_rfl) (by kernel_rfl) (by kernel_rfl) (by kernel_rfl) (by kernel_rfl) rfl (idx_isF ev4) rfl (fun cx => ?_)
            refine AT.runU tOk [(7, [])] 1 [] [7, 6, 5, 4, 3, 2, 1, 0] rfl (by kernel_rfl) (fun cx => ?_)
            refine AT.big1 tOk 8 (by kernel_rfl) (by kernel_rfl) ?_
            refine LAt.eqS true (t := 56) (ty := 56) (ty' := 4) (x := (.tmp 19)) (y := (.tmp 23)) (d := 24) ((v3.Id == v4.Id) && ((v3.Members == v4.Members) && ((v3.Bare == v4.Bare) && true))) _ (by kernel_rfl) (by kernel_rfl) (by kernel_rfl) rfl ?_
            refine LAt.fin (by kernel_rfl) (And.intro (And.intro (by kernel_rfl) (by kernel_rfl)) ?_)
            exact AT.done [24, 23, 22, 21, 20, 19, 18, 17, 16, 5, 15, 14, 13, 12, 4, 0, 1] [] _ (by kernel_rfl) (by kernel_rfl) rfl
          · refine Tr.to ⟨26, 0, [(24, .val false [.lit (.bool (!((v3.Id == v4.Id) && ((v3.Members == v4.Members) && ((v3.Bare == v4.Bare) && true)))))]), (23, .val true (Vrow.row v4)), (22, .fad ((Vrow.row v4))), (21, .val false [.lit (.int .i64 y1)]), (20, .val false [.sl false 3 (CV.frzEs (x1.map Vrow.row))]), (19, .val true (Vrow.row v3)), (18, .fad ((Vrow.row v3))), (17, .val false [.lit (.int .i64 y1)]), (16, .val false [.sl false 3 (CV.frzEs (x0.map Vrow.row))]), (5, .val false [.lit (.int .i64 y1)]), (15, .val false [.lit (.int .i64 y1)]), (14, .val false [.lit (.bool true)]), (13, .val false [.lit (.int .i64 y1)]), (12, .val false [.lit (.int .i64 (x0.length : Int))]), (4, .val false [.lit (.bool false)]), (0, .val false [.sl false 3 (CV.frzEs (x0.map Vrow.row))]), (1, .val false [.sl false 3 (CV.frzEs (x1.map Vrow.row))])], []⟩ (by kernel_rfl) ?_
            cases h3 : (!((v3.Id == v4.Id) && ((v3.Members == v4.Members) && ((v3.Bare == v4.Bare) && true))))
            · have H := bifF h3 H
              refine Tr.cond (b := false) (by kernel_rfl) (fun h => nomatch h) (fun _ => ?_)
              refine Tr.skip ?_
              show Tr _ _ _ _ _
              refine Tr.at ?_
              refine LAt.runU tOk 2 (by kernel_rfl) ?_
              refine LAt.doneU [13, 25, 24, 23, 22, 21, 20, 19, 18, 17, 16, 5, 15, 14, 12, 4, 0, 1] [] (by kernel_rfl) ?_
              exact Exists.intro (mo2, (IntKind.wrap .i64 (y1 + 1))) (And.intro H (And.intro (Nat.lt_succ_self mo2) (St.sub_of [13, 12, 4, 0, 1] [] (by kernel_rfl))))
            · have H := bifT h3 H
              refine Tr.cond (b := true) (by kernel_rfl) (fun _ => ?_) (fun h => nomatch h)
              refine Tr.rs ?_
              refine LAt.runU tOk 1 (by kernel_rfl) ?_
              refine LAt.doneU [4, 24, 23, 22, 21, 20, 19, 18, 17, 16, 5, 15, 14, 13, 12, 0, 1] [] (by kernel_rfl) ?_
              refine Tr.ret ?_
              have H := Option.some.inj H
              subst H
              have H := Ho2
              dsimp only at H
              have H := Option.some.inj H
              subst H
              exact Fin.of _ [(false, [.lit (.bool false)])] (by kernel_rfl) rfl rfl
    · rintro _ H
      have H : (impl_sameRows_J1 n) = some r := H
      unfold impl_sameRows_J1 at H
      show Tr _ _ _ _ _
      refine Tr.rs ?_
      refine LAt.runU tOk 1 (by kernel_rfl) ?_
      refine LAt.doneU [4] [] (by kernel_rfl) ?_
      refine Tr.ret ?_
      have H := Option.some.inj H
      subst H
      exact Fin.of _ [(false, [.lit (.bool true)])] (by kernel_rfl) rfl rfl
  · have H := bifT h1 H
    refine Tr.cond (b := true) (by kernel_rfl) (fun _ => ?_) (fun h => nomatch h)
    refine Tr.rs ?_
    refine LAt.runU tOk 1 (by kernel_rfl) ?_
    refine LAt.doneU [4, 0, 1] [] (by kernel_rfl) ?_
    refine Tr.ret ?_
    have H := Option.some.inj H
    subst H
    exact Fin.of _ [(false, [.lit (.bool false)])] (by kernel_rfl) rfl rfl

def impl_SameOid_J1 (n : Nat) : Option (Bool) :=
  (some true)
def impl_SameOid_L2 (n : Nat) : Nat → (List Int) → (List Int) → Int → Option ((Unit) ⊕ (Bool))
  | 0, _, _, _ => none
  | mo2 + 1, x0, x1, y1 => (bif (decide (y1 < (x0.length : Int))) then ((idx x0 y1).bind fun v3 => ((idx x1 y1).bind fun v4 => (bif (v3 != v4) then (some (Sum.inr false)) else (impl_SameOid_L2 n mo2 x0 x1 (IntKind.wrap .i64 (y1 + 1)))))) else (some (Sum.inl ())))
def impl_SameOidF (n : Nat) (x0 : (List Int)) (x1 : (List Int)) : Option (Bool) :=
  (bif ((x0.length : Int) != (x1.length : Int)) then (some false) else ((impl_SameOid_L2 n n x0 x1 0).bind fun o => match o with | .inl _ => (impl_SameOid_J1 n) | .inr r => some r))
/-- loop.example/g00326/impl.SameOid -/
theorem impl_SameOid (n : Nat) (x0 : (List Int)) (x1 : (List Int)) (r : Bool) (H : impl_SameOidF n x0 x1 = some r) : LCall Try.prog 119 [.val false [.sl false 1 (CV.frzEs (x0.map intRow))], .val false [.sl false 1 (CV.frzEs (x1.map intRow))]] [.val false [.lit (.bool r)]] [] := by
  refine LCall.of_body tOk Try.func119 rfl (c := (.seq (.region 0 (rg Try.f119 0) false) (.seq (.seq (.region 1 (rg Try.f119 1) false) (.cond (.tmp 10) (.seq (.region 2 (rg Try.f119 2) false) .ret) .skip)) (.seq (.seq (.region 3 (rg Try.f119 3) false) (.block 0 (.loop (.seq (.region 4 (rg Try.f119 4) false) (.seq (.cond (.tmp 14) .skip (.exit 0)) (.seq (.block 1 (.seq (.region 5 (rg Try.f119 5) false) (.seq (.region 6 (rg Try.f119 6) true) (.cond (.tmp 24) (.seq (.region 7 (rg Try.f119 7) false) .ret) .skip)))) (.region 8 (rg Try.f119 8) false))))))) (.seq (.region 9 (rg Try.f119 9) false) .ret))))) (by kernel_rfl) (Nat.le_of_ble_eq_true (by kernel_rfl)) 0 (rs := [.tmp 4]) rfl [] .nil [(false, [.lit (.bool r)])] [] [] fun cx => ?_
  show Tr _ _ _ ⟨26, 0, [(0, .val false [.sl false 1 (CV.frzEs (x0.map intRow))]), (1, .val false [.sl false 1 (CV.frzEs (x1.map intRow))])], []⟩ _
  unfold impl_SameOidF at H
  refine Tr.rs ?_
  refine LAt.runU tOk 1 (by kernel_rfl) ?_
  refine LAt.doneU [4, 0, 1] [] (by kernel_rfl) ?_
  refine Tr.seq ?_
  refine Tr.rs ?_
  refine LAt.runU tOk 1 (by kernel_rfl) ?_
  refine LAt.lenE tOk (t := 23) (ty := 3) (e := 3) (x := (.tmp 6)) (d := 7) (g := none) ⟨(.slot 6), [], 0, false, 1, (CV.frzEs (x0.map intRow))⟩ (x0).length _ (by kernel_rfl) (by kernel_rfl) (by kernel_rfl) (by kernel_rfl) (by kernel_rfl) (frz_len _ _) rfl ?_
  refine LAt.runU tOk 1 (by kernel_rfl) ?_
  refine LAt.lenE tOk (t := 23) (ty := 3) (e := 3) (x := (.tmp 8)) (d := 9) (g := none) ⟨(.slot 8), [], 0, false, 1, (CV.frzEs (x1.map intRow))⟩ (x1).length _ (by kernel_rfl) (by kernel_rfl) (by kernel_rfl) (by kernel_rfl) (by kernel_rfl) (frz_len _ _) rfl ?_
  refine LAt.runU tOk 1 (by kernel_rfl) ?_
  refine LAt.doneU [10, 4, 0, 1] [] (by kernel_rfl) ?_
  refine Tr.to ⟨26, 0, [(10, .val false [.lit (.bool ((x0.length : Int) != (x1.length : Int)))]), (4, .val false [.lit (.bool false)]), (0, .val false [.sl false 1 (CV.frzEs (x0.map intRow))]), (1, .val false [.sl false 1 (CV.frzEs (x1.map intRow))])], []⟩ (by kernel_rfl) ?_
  cases h1 : ((x0.length : Int) != (x1.length : Int))
  · have H := bifF h1 H
    refine Tr.cond (b := false) (by kernel_rfl) (fun h => nomatch h) (fun _ => ?_)
    refine Tr.skip ?_
    show Tr _ _ _ _ _
    refine Tr.seq ?_
    refine Tr.rs ?_
    refine LAt.runU tOk 1 (by kernel_rfl) ?_
    refine LAt.lenE tOk (t := 23) (ty := 3) (e := 3) (x := (.tmp 11)) (d := 12) (g := none) ⟨(.slot 11), [], 0, false, 1, (CV.frzEs (x0.map intRow))⟩ (x0).length _ (by kernel_rfl) (by kernel_rfl) (by kernel_rfl) (by kernel_rfl) (by kernel_rfl) (frz_len _ _) rfl ?_
    refine LAt.runU tOk 1 (by kernel_rfl) ?_
    refine LAt.doneU [13, 12, 4, 0, 1] [] (by kernel_rfl) ?_
    obtain ⟨o2, eo2, Ho2⟩ := bind_some H
    clear H
    refine Tr.mid (ι := Unit) (fun v => ⟨26, 0, [(4, .val false [.lit (.bool false)])], []⟩) (fun v => impl_SameOid_J1 n = some r) ?_ ?_
    · refine Tr.block ?_
      refine Tr.loop (ι := Nat × (Int)) (fun v => ⟨26, 0, [(13, .val false [.lit (.int .i64 v.2)]), (12, .val false [.lit (.int .i64 (x0.length : Int))]), (4, .val false [.lit (.bool false)]), (0, .val false [.sl false 1 (CV.frzEs (x0.map intRow))]), (1, .val false [.sl false 1 (CV.frzEs (x1.map intRow))])], []⟩) (fun v => impl_SameOid_L2 n v.1 x0 x1 v.2 = some o2) (fun v => v.1) (n, 0) eo2 (St.sub_of [13, 12, 4, 0, 1] [] (by kernel_rfl)) ?_
      rintro ⟨mo2, y1⟩ H
      have H : impl_SameOid_L2 n mo2 x0 x1 y1 = some o2 := H
      obtain _ | mo2 := mo2
      · cases (show (none : Option _) = some o2 from H)
      · rw [impl_SameOid_L2] at H
        refine Tr.rs ?_
        refine LAt.runU tOk 1 (by kernel_rfl) ?_
        refine LAt.doneU [14, 13, 12, 4, 0, 1] [] (by kernel_rfl) ?_
        refine Tr.seq ?_
        refine Tr.to ⟨26, 0, [(14, .val false [.lit (.bool (decide (y1 < (x0.length : Int))))]), (13, .val false [.lit (.int .i64 y1)]), (12, .val false [.lit (.int .i64 (x0.length : Int))]), (4, .val false [.lit (.bool false)]), (0, .val false [.sl false 1 (CV.frzEs (x0.map intRow))]), (1, .val false [.sl false 1 (CV.frzEs (x1.map intRow))])], []⟩ (by kernel_rfl) ?_
        cases h2 : (decide (y1 < (x0.length : Int)))
        · have H := bifF h2 H
          refine Tr.cond (b := false) (by kernel_rfl) (fun h => nomatch h) (fun _ => ?_)
          refine Tr.exit ?_
          refine And.intro (fun _ => ?_) (fun h => absurd rfl h)
          have H := Option.some.inj H
          subst H
          have H := Ho2
          dsimp only at H
          exact Exists.intro () (And.intro H (St.sub_of [4] [] (by kernel_rfl)))
        · have H := bifT h2 H
          refine Tr.cond (b := true) (by kernel_rfl) (fun _ => ?_) (fun h => nomatch h)
          refine Tr.skip ?_
          show Tr _ _ _ _ _
          refine Tr.seq ?_
          refine Tr.block ?_
          refine Tr.rs ?_
          refine LAt.runU tOk 2 (by kernel_rfl) ?_
          refine LAt.doneU [5, 15, 14, 13, 12, 4, 0, 1] [] (by kernel_rfl) ?_
          obtain ⟨v3, ev3, H⟩ := bind_some H
          obtain ⟨v4, ev4, H⟩ := bind_some H
          refine Tr.draws mixed 9 (by kernel_rfl) ⟨26, 0, [(24, .val false [.lit (.bool (v3 != v4))]), (23, .val false [.lit (.int .i64 v4)]), (22, .fad ([.lit (.int .i64 v4)])), (21, .val false [.lit (.int .i64 y1)]), (20, .val false [.sl false 1 (CV.frzEs (x1.map intRow))]), (19, .val false [.lit (.int .i64 v3)]), (18, .fad ([.lit (.int .i64 v3)])), (17, .val false [.lit (.int .i64 y1)]), (16, .val false [.sl false 1 (CV.frzEs (x0.map intRow))]), (5, .val false [.lit (.int .i64 y1)]), (15, .val false [.lit (.int .i64 y1)]), (14, .val false [.lit (.bool true)]), (13, .val false [.lit (.int .i64 y1)]), (12, .val false [.lit (.int .i64 (x0.length : Int))]), (4, .val false [.lit (.bool false)]), (0, .val false [.sl false 1 (CV.frzEs (x0.map intRow))]), (1, .val false [.sl false 1 (CV.frzEs (x1.map intRow))])], []⟩ (fun cx => ?_) ?_
          · refine AT.runU tOk [(0, []), (1, [])] 7 [] [1, 0] rfl (by kernel_rfl) (fun cx => ?_)
            refine AT.indexF tOk 2 (t := 23) (ty := 0) (x := (.tmp 16)) (y := (.tmp 17)) (d := 18) (g := none) ⟨(.slot 16), [], 0, false, 1, (CV.frzEs (x0.map intRow))⟩ y1 [.lit (.int .i64 v3)] _ (by kernel_rfl) (by kernel_rfl) (by kernel_rfl) (by kernel_rfl) (by kernel_rfl) (by kernel_rfl) rfl (idx_isF ev3) rfl (fun cx => ?_)
            refine AT.runU tOk [(3, []), (4, []), (5, [])] 3 [] [5, 4, 3, 2, 1, 0] rfl (by kernel_rfl) (fun cx => ?_)
            refine AT.indexF tOk 6 (t := 23) (ty := 0) (x := (.tmp 20)) (y := (.tmp 21)) (d := 22) (g := none) ⟨(.slot 20), [], 0, false, 1, (CV.frzEs (x1.map intRow))⟩ y1 [.lit (.int .i64 v4)] _ (by kernel_rfl) (by kernel_rfl) (by kernel_rfl) (by kernel_rfl) (by kernel_rfl) (by kernel_rfl) rfl (idx_isF ev4) rfl (fun cx => ?_)
            refine AT.runU tOk [(7, []), (8, [])] 0 [] [8, 7, 6, 5, 4, 3, 2, 1, 0] rfl (by kernel_rfl) (fun cx => ?_)
            exact AT.done [24, 23, 22, 21, 20, 19, 18, 17, 16, 5, 15, 14, 13, 12, 4, 0, 1] [] _ (by kernel_rfl) (by kernel_rfl) rfl
          · refine Tr.to ⟨26, 0, [(24, .val false [.lit (.bool (v3 != v4))]), (23, .val false [.lit (.int .i64 v4)]), (22, .fad ([.lit (.int .i64 v4)])), (21, .val false [.lit (.int .i64 y1)]), (20, .val false [.sl false 1 (CV.frzEs (x1.map intRow))]), (19, .val false [.lit (.int .i64 v3)]), (18, .fad ([.lit (.int .i64 v3)])), (17, .val false [.lit (.int .i64 y1)]), (16, .val false [.sl false 1 (CV.frzEs (x0.map intRow))]), (5, .val false [.lit (.int .i64 y1)]), (15, .val false [.lit (.int .i64 y1)]), (14, .val false [.lit (.bool true)]), (13, .val false [.lit (.int .i64 y1)]), (12, .val false [.lit (.int .i64 (x0.length : Int))]), (4, .val false [.lit (.bool false)]), (0, .val false [.sl false 1 (CV.frzEs (x0.map intRow))]), (1, .val false [.sl false 1 (CV.frzEs (x1.map intRow))])], []⟩ (by kernel_rfl) ?_
            cases h3 : (v3 != v4)
            · have H := bifF h3 H
              refine Tr.cond (b := false) (by kernel_rfl) (fun h => nomatch h) (fun _ => ?_)
              refine Tr.skip ?_
              show Tr _ _ _ _ _
              refine Tr.at ?_
              refine LAt.runU tOk 2 (by kernel_rfl) ?_
              refine LAt.doneU [13, 25, 24, 23, 22, 21, 20, 19, 18, 17, 16, 5, 15, 14, 12, 4, 0, 1] [] (by kernel_rfl) ?_
              exact Exists.intro (mo2, (IntKind.wrap .i64 (y1 + 1))) (And.intro H (And.intro (Nat.lt_succ_self mo2) (St.sub_of [13, 12, 4, 0, 1] [] (by kernel_rfl))))
            · have H := bifT h3 H
              refine Tr.cond (b := true) (by kernel_rfl) (fun _ => ?_) (fun h => nomatch h)
              refine Tr.rs ?_
              refine LAt.runU tOk 1 (by kernel_rfl) ?_
              refine LAt.doneU [4, 24, 23, 22, 21, 20, 19, 18, 17, 16, 5, 15, 14, 13, 12, 0, 1] [] (by kernel_rfl) ?_
              refine Tr.ret ?_
              have H := Option.some.inj H
              subst H
              have H := Ho2
              dsimp only at H
              have H := Option.some.inj H
              subst H
              exact Fin.of _ [(false, [.lit (.bool false)])] (by kernel_rfl) rfl rfl
    · rintro _ H
      have H : (impl_SameOid_J1 n) = some r := H
      unfold impl_SameOid_J1 at H
      show Tr _ _ _ _ _
      refine Tr.rs ?_
      refine LAt.runU tOk 1 (by kernel_rfl) ?_
      refine LAt.doneU [4] [] (by kernel_rfl) ?_
      refine Tr.ret ?_
      have H := Option.some.inj H
      subst H
      exact Fin.of _ [(false, [.lit (.bool true)])] (by kernel_rfl) rfl rfl
  · have H := bifT h1 H
    refine Tr.cond (b := true) (by kernel_rfl) (fun _ => ?_) (fun h => nomatch h)
    refine Tr.rs ?_
    refine LAt.runU tOk 1 (by kernel_rfl) ?_
    refine LAt.doneU [4, 0, 1] [] (by kernel_rfl) ?_
    refine Tr.ret ?_
    have H := Option.some.inj H
    subst H
    exact Fin.of _ [(false, [.lit (.bool false)])] (by kernel_rfl) rfl rfl

def impl_SameBridge_J2 (n : Nat) (x0 : Bridge) (x1 : Bridge) : Option (Bool) :=
  (bif (x0.Ticks == x1.Ticks) then (bif (x0.Parse == x1.Parse) then (bif (x0.Word == x1.Word) then (bif (x0.Drops == x1.Drops) then (some (x0.Vers == x1.Vers)) else (some false)) else (some false)) else (some false)) else (some false))
def impl_SameBridge_L3 (n : Nat) : Nat → Bridge → Bridge → Int → Option ((Unit) ⊕ (Bool))
  | 0, _, _, _ => none
  | mo5 + 1, x0, x1, y4 => (bif (decide (y4 < (x0.F.length : Int))) then ((idx x0.F y4).bind fun v6 => ((idx x1.F y4).bind fun v7 => (bif (!((v6.Tag == v7.Tag) && ((v6.Mac == v7.Mac) && ((v6.Port == v7.Port) && ((v6.Age == v7.Age) && ((v6.Static == v7.Static) && true)))))) then (some (Sum.inr false)) else (impl_SameBridge_L3 n mo5 x0 x1 (IntKind.wrap .i64 (y4 + 1)))))) else (some (Sum.inl ())))
def impl_SameBridge_J1 (n : Nat) (x0 : Bridge) (x1 : Bridge) : Option (Bool) :=
  ((impl_SameBridge_L3 n n x0 x1 0).bind fun o => match o with | .inl _ => (impl_SameBridge_J2 n x0 x1) | .inr r => some r)
def impl_SameBridge_L4 (n : Nat) : Nat → Bridge → Bridge → Int → Option ((Unit) ⊕ (Bool))
  | 0, _, _, _ => none
  | mo8 + 1, x0, x1, y3 => (bif (decide (y3 < (x0.Ports.length : Int))) then ((idx x0.Ports y3).bind fun v9 => ((idx x1.Ports y3).bind fun v10 => (bif (!((v9.Up == v10.Up) && ((v9.Cost == v10.Cost) && ((v9.Has == v10.Has) && (((v9.Heard.Root == v10.Heard.Root) && ((v9.Heard.Cost == v10.Heard.Cost) && ((v9.Heard.Hops == v10.Heard.Hops) && ((v9.Heard.Bridge == v10.Heard.Bridge) && ((v9.Heard.Port == v10.Heard.Port) && true))))) && true))))) then (some (Sum.inr false)) else (impl_SameBridge_L4 n mo8 x0 x1 (IntKind.wrap .i64 (y3 + 1)))))) else (some (Sum.inl ())))
def impl_SameBridgeF (n : Nat) (x0 : Bridge) (x1 : Bridge) : Option (Bool) :=
  (bif (x0.Id != x1.Id) then (some false) else (bif (!(x0.Name.toList == x1.Name.toList)) then (some false) else (bif ((x0.Ports.length : Int) != (x1.Ports.length : Int)) then (some false) else (bif ((x0.F.length : Int) != (x1.F.length : Int)) then (some false) else ((impl_sameRowsF n x0.V.Rows x1.V.Rows).bind fun r1 => (bif (!r1) then (some false) else ((impl_SameOidF n x0.V.Pvid x1.V.Pvid).bind fun r2 => (bif (!r2) then (some false) else ((impl_SameBridge_L4 n n x0 x1 0).bind fun o => match o with | .inl _ => (impl_SameBridge_J1 n x0 x1) | .inr r => some r)))))))))
/-- loop.example/g00326/impl.SameBridge -/
theorem impl_SameBridge (n : Nat) (x0 : Bridge) (x1 : Bridge) (r : Bool) (H : impl_SameBridgeF n x0 x1 = some r) : LCall Try.prog 54 [.val true (CV.frzRow (Bridge.row x0)), .val true (CV.frzRow (Bridge.row x1))] [.val false [.lit (.bool r)]] [] := by
  refine LCall.of_body tOk Try.func54 rfl (c := (.seq (.region 0 (rg Try.f54 0) false) (.seq (.seq (.region 1 (rg Try.f54 1) false) (.cond (.tmp 56) (.seq (.region 2 (rg Try.f54 2) false) .ret) .skip)) (.seq (.seq (.region 3 (rg Try.f54 3) false) (.block 0 (.loop (.seq (.region 4 (rg Try.f54 4) false) (.seq (.cond (.tmp 61) .skip (.exit 0)) (.seq (.block 1 (.seq (.region 5 (rg Try.f54 5) false) (.seq (.region 6 (rg Try.f54 6) true) (.cond (.tmp 73) (.seq (.region 7 (rg Try.f54 7) false) .ret) .skip)))) (.region 8 (rg Try.f54 8) false))))))) (.seq (.seq (.region 9 (rg Try.f54 9) false) (.block 2 (.loop (.seq (.region 10 (rg Try.f54 10) false) (.seq (.cond (.tmp 79) .skip (.exit 2)) (.seq (.block 3 (.seq (.region 11 (rg Try.f54 11) false) (.seq (.region 12 (rg Try.f54 12) true) (.cond (.tmp 91) (.seq (.region 13 (rg Try.f54 13) false) .ret) .skip)))) (.region 14 (rg Try.f54 14) false))))))) (.seq (.region 15 (rg Try.f54 15) false) .ret)))))) (by kernel_rfl) (Nat.le_of_ble_eq_true (by kernel_rfl)) 0 (rs := [.tmp 4]) rfl [] .nil [(false, [.lit (.bool r)])] [] [] fun cx => ?_
  show Tr _ _ _ ⟨126, 0, [(0, .val true (CV.frzRow (Bridge.row x0))), (1, .val true (CV.frzRow (Bridge.row x1)))], []⟩ _
  unfold impl_SameBridgeF at H
  refine Tr.rs ?_
  refine LAt.runU tOk 3 (by kernel_rfl) ?_
  refine LAt.doneU [4, 3, 2] [3, 2] (by kernel_rfl) ?_
  refine Tr.seq ?_
  refine Tr.rs ?_
  refine LAt.runU tOk 6 (by kernel_rfl) ?_
  refine LAt.to ⟨126, 0, [(12, .val false [.lit (.bool (x0.Id != x1.Id))]), (11, .val false [.lit (.bool (x0.Id != x1.Id))]), (10, .val false [.lit (.int .i64 x1.Id)]), (9, .adr (.box 3) [(0, 0)] 11 0), (8, .val false [.lit (.int .i64 x0.Id)]), (7, .adr (.box 2) [(0, 0)] 11 0), (4, .val false [.lit (.bool false)]), (3, .adr (.box 3) [(0, 0)] 11 0), (2, .adr (.box 2) [(0, 0)] 11 0)], [(3, (CV.frzRow (Bridge.row x1))), (2, (CV.frzRow (Bridge.row x0)))]⟩ (by kernel_rfl) ?_
  cases h1 : (x0.Id != x1.Id)
  · have H := bifF h1 H
    refine LAt.runU tOk 7 (by kernel_rfl) ?_
    refine LAt.to ⟨126, 0, [(19, .val false [.lit (.bool (!(x0.Name.toList == x1.Name.toList)))]), (18, .val false [.lit (.bool (!(x0.Name.toList == x1.Name.toList)))]), (17, .val false [.lit (.bool (!(x0.Name.toList == x1.Name.toList)))]), (16, .val false [.lit (.string x1.Name)]), (15, .adr (.box 3) [(0, 0)] 11 1), (14, .val false [.lit (.string x0.Name)]), (13, .adr (.box 2) [(0, 0)] 11 1), (12, .val false [.lit (.bool false)]), (11, .val false [.lit (.bool false)]), (10, .val false [.lit (.int .i64 x1.Id)]), (9, .adr (.box 3) [(0, 0)] 11 0), (8, .val false [.lit (.int .i64 x0.Id)]), (7, .adr (.box 2) [(0, 0)] 11 0), (4, .val false [.lit (.bool false)]), (3, .adr (.box 3) [(0, 0)] 11 0), (2, .adr (.box 2) [(0, 0)] 11 0)], [(3, (CV.frzRow (Bridge.row x1))), (2, (CV.frzRow (Bridge.row x0)))]⟩ (by kernel_rfl) ?_
    cases h2 : (!(x0.Name.toList == x1.Name.toList))
    · have H := bifF h2 H
      refine LAt.runU tOk 2 (by kernel_rfl) ?_
      refine LAt.lenE tOk (t := 43) (ty := 3) (e := 41) (x := (.tmp 21)) (d := 22) (g := (some (12, false))) ⟨(.slot 21), [], 0, false, 8, (CV.frzEs (x0.Ports.map Pt.row))⟩ (x0.Ports).length _ (by kernel_rfl) (by kernel_rfl) (by kernel_rfl) (by kernel_rfl) (by kernel_rfl) (frz_len _ _) rfl ?_
      refine LAt.runU tOk 2 (by kernel_rfl) ?_
      refine LAt.lenE tOk (t := 43) (ty := 3) (e := 41) (x := (.tmp 24)) (d := 25) (g := (some (12, false))) ⟨(.slot 24), [], 0, false, 8, (CV.frzEs (x1.Ports.map Pt.row))⟩ (x1.Ports).length _ (by kernel_rfl) (by kernel_rfl) (by kernel_rfl) (by kernel_rfl) (by kernel_rfl) (frz_len _ _) rfl ?_
      refine LAt.runU tOk 3 (by kernel_rfl) ?_
      refine LAt.to ⟨126, 0, [(28, .val false [.lit (.bool ((x0.Ports.length : Int) != (x1.Ports.length : Int)))]), (27, .val false [.lit (.bool ((x0.Ports.length : Int) != (x1.Ports.length : Int)))]), (26, .val false [.lit (.bool ((x0.Ports.length : Int) != (x1.Ports.length : Int)))]), (25, .val false [.lit (.int .i64 (x1.Ports.length : Int))]), (24, .val false [.sl false 8 (CV.frzEs (x1.Ports.map Pt.row))]), (23, .adr (.box 3) [(0, 0)] 11 2), (22, .val false [.lit (.int .i64 (x0.Ports.length : Int))]), (21, .val false [.sl false 8 (CV.frzEs (x0.Ports.map Pt.row))]), (20, .adr (.box 2) [(0, 0)] 11 2), (19, .val false [.lit (.bool false)]), (18, .val false [.lit (.bool false)]), (17, .val false [.lit (.bool false)]), (16, .val false [.lit (.string x1.Name)]), (15, .adr (.box 3) [(0, 0)] 11 1), (14, .val false [.lit (.string x0.Name)]), (13, .adr (.box 2) [(0, 0)] 11 1), (12, .val false [.lit (.bool false)]), (11, .val false [.lit (.bool false)]), (10, .val false [.lit (.int .i64 x1.Id)]), (9, .adr (.box 3) [(0, 0)] 11 0), (8, .val false [.lit (.int .i64 x0.Id)]), (7, .adr (.box 2) [(0, 0)] 11 0), (4, .val false [.lit (.bool false)]), (3, .adr (.box 3) [(0, 0)] 11 0), (2, .adr (.box 2) [(0, 0)] 11 0)], [(3, (CV.frzRow (Bridge.row x1))), (2, (CV.frzRow (Bridge.row x0)))]⟩ (by kernel_rfl) ?_
      cases h3 : ((x0.Ports.length : Int) != (x1.Ports.length : Int))
      · have H := bifF h3 H
        refine LAt.runU tOk 2 (by kernel_rfl) ?_
        refine LAt.lenE tOk (t := 77) (ty := 3) (e := 147) (x := (.tmp 30)) (d := 31) (g := (some (21, false))) ⟨(.slot 30), [], 0, false, 5, (CV.frzEs (x0.F.map Fent.row))⟩ (x0.F).length _ (by kernel_rfl) (by kernel_rfl) (by kernel_rfl) (by kernel_rfl) (by kernel_rfl) (frz_len _ _) rfl ?_
        refine LAt.runU tOk 2 (by kernel_rfl) ?_
        refine LAt.lenE tOk (t := 77) (ty := 3) (e := 147) (x := (.tmp 33)) (d := 34) (g := (some (21, false))) ⟨(.slot 33), [], 0, false, 5, (CV.frzEs (x1.F.map Fent.row))⟩ (x1.F).length _ (by kernel_rfl) (by kernel_rfl) (by kernel_rfl) (by kernel_rfl) (by kernel_rfl) (frz_len _ _) rfl ?_
        refine LAt.runU tOk 3 (by kernel_rfl) ?_
        refine LAt.to ⟨126, 0, [(37, .val false [.lit (.bool ((x0.F.length : Int) != (x1.F.length : Int)))]), (36, .val false [.lit (.bool ((x0.F.length : Int) != (x1.F.length : Int)))]), (35, .val false [.lit (.bool ((x0.F.length : Int) != (x1.F.length : Int)))]), (34, .val false [.lit (.int .i64 (x1.F.length : Int))]), (33, .val false [.sl false 5 (CV.frzEs (x1.F.map Fent.row))]), (32, .adr (.box 3) [(0, 0)] 11 3), (31, .val false [.lit (.int .i64 (x0.F.length : Int))]), (30, .val false [.sl false 5 (CV.frzEs (x0.F.map Fent.row))]), (29, .adr (.box 2) [(0, 0)] 11 3), (28, .val false [.lit (.bool false)]), (27, .val false [.lit (.bool false)]), (26, .val false [.lit (.bool false)]), (25, .val false [.lit (.int .i64 (x1.Ports.length : Int))]), (24, .val false [.sl false 8 (CV.frzEs (x1.Ports.map Pt.row))]), (23, .adr (.box 3) [(0, 0)] 11 2), (22, .val false [.lit (.int .i64 (x0.Ports.length : Int))]), (21, .val false [.sl false 8 (CV.frzEs (x0.Ports.map Pt.row))]), (20, .adr (.box 2) [(0, 0)] 11 2), (19, .val false [.lit (.bool false)]), (18, .val false [.lit (.bool false)]), (17, .val false [.lit (.bool false)]), (16, .val false [.lit (.string x1.Name)]), (15, .adr (.box 3) [(0, 0)] 11 1), (14, .val false [.lit (.string x0.Name)]), (13, .adr (.box 2) [(0, 0)] 11 1), (12, .val false [.lit (.bool false)]), (11, .val false [.lit (.bool false)]), (10, .val false [.lit (.int .i64 x1.Id)]), (9, .adr (.box 3) [(0, 0)] 11 0), (8, .val false [.lit (.int .i64 x0.Id)]), (7, .adr (.box 2) [(0, 0)] 11 0), (4, .val false [.lit (.bool false)]), (3, .adr (.box 3) [(0, 0)] 11 0), (2, .adr (.box 2) [(0, 0)] 11 0)], [(3, (CV.frzRow (Bridge.row x1))), (2, (CV.frzRow (Bridge.row x0)))]⟩ (by kernel_rfl) ?_
        cases h4 : ((x0.F.length : Int) != (x1.F.length : Int))
        · have H := bifF h4 H
          refine LAt.runU tOk 6 (by kernel_rfl) ?_
          obtain ⟨r1, er1, H⟩ := bind_some H
          refine LAt.callU tOk [.rd, .rd] (f := 118) (av := #[.tmp 40, .tmp 43]) (ats := #[27, 27]) (d := (some 44)) (ty := 4) (g := (some (30, false))) (by kernel_rfl) (by kernel_rfl) (by kernel_rfl) [] (impl_sameRows n x0.V.Rows x1.V.Rows r1 er1) (by kernel_rfl) (.inl rfl) ?_
          refine LAt.runU tOk 3 (by kernel_rfl) ?_
          refine LAt.to ⟨126, 0, [(47, .val false [.lit (.bool (!r1))]), (46, .val false [.lit (.bool (!r1))]), (45, .val false [.lit (.bool (!r1))]), (44, .val false [.lit (.bool r1)]), (43, .val false [.sl false 3 (CV.frzEs (x1.V.Rows.map Vrow.row))]), (42, .adr (.box 3) [(0, 0)] 11 4), (41, .adr (.box 3) [(0, 0)] 11 4), (40, .val false [.sl false 3 (CV.frzEs (x0.V.Rows.map Vrow.row))]), (39, .adr (.box 2) [(0, 0)] 11 4), (38, .adr (.box 2) [(0, 0)] 11 4), (37, .val false [.lit (.bool false)]), (36, .val false [.lit (.bool false)]), (35, .val false [.lit (.bool false)]), (34, .val false [.lit (.int .i64 (x1.F.length : Int))]), (33, .val false [.sl false 5 (CV.frzEs (x1.F.map Fent.row))]), (32, .adr (.box 3) [(0, 0)] 11 3), (31, .val false [.lit (.int .i64 (x0.F.length : Int))]), (30, .val false [.sl false 5 (CV.frzEs (x0.F.map Fent.row))]), (29, .adr (.box 2) [(0, 0)] 11 3), (28, .val false [.lit (.bool false)]), (27, .val false [.lit (.bool false)]), (26, .val false [.lit (.bool false)]), (25, .val false [.lit (.int .i64 (x1.Ports.length : Int))]), (24, .val false [.sl false 8 (CV.frzEs (x1.Ports.map Pt.row))]), (23, .adr (.box 3) [(0, 0)] 11 2), (22, .val false [.lit (.int .i64 (x0.Ports.length : Int))]), (21, .val false [.sl false 8 (CV.frzEs (x0.Ports.map Pt.row))]), (20, .adr (.box 2) [(0, 0)] 11 2), (19, .val false [.lit (.bool false)]), (18, .val false [.lit (.bool false)]), (17, .val false [.lit (.bool false)]), (16, .val false [.lit (.string x1.Name)]), (15, .adr (.box 3) [(0, 0)] 11 1), (14, .val false [.lit (.string x0.Name)]), (13, .adr (.box 2) [(0, 0)] 11 1), (12, .val false [.lit (.bool false)]), (11, .val false [.lit (.bool false)]), (10, .val false [.lit (.int .i64 x1.Id)]), (9, .adr (.box 3) [(0, 0)] 11 0), (8, .val false [.lit (.int .i64 x0.Id)]), (7, .adr (.box 2) [(0, 0)] 11 0), (4, .val false [.lit (.bool false)]), (3, .adr (.box 3) [(0, 0)] 11 0), (2, .adr (.box 2) [(0, 0)] 11 0)], [(3, (CV.frzRow (Bridge.row x1))), (2, (CV.frzRow (Bridge.row x0)))]⟩ (by kernel_rfl) ?_
          cases h5 : (!r1)
          · have H := bifF h5 H
            refine LAt.runU tOk 6 (by kernel_rfl) ?_
            obtain ⟨r2, er2, H⟩ := bind_some H
            refine LAt.callU tOk [.rd, .rd] (f := 119) (av := #[.tmp 50, .tmp 53]) (ats := #[23, 23]) (d := (some 54)) (ty := 4) (g := (some (40, false))) (by kernel_rfl) (by kernel_rfl) (by kernel_rfl) [] (impl_SameOid n x0.V.Pvid x1.V.Pvid r2 er2) (by kernel_rfl) (.inl rfl) ?_
            refine LAt.runU tOk 2 (by kernel_rfl) ?_
            refine LAt.doneU [56, 4, 3, 2] [3, 2] (by kernel_rfl) ?_
            refine Tr.to ⟨126, 0, [(56, .val false [.lit (.bool (!r2))]), (4, .val false [.lit (.bool false)]), (3, .adr (.box 3) [(0, 0)] 11 0), (2, .adr (.box 2) [(0, 0)] 11 0)], [(3, (CV.frzRow (Bridge.row x1))), (2, (CV.frzRow (Bridge.row x0)))]⟩ (by kernel_rfl) ?_
            cases h6 : (!r2)
            · have H := bifF h6 H
              refine Tr.cond (b := false) (by kernel_rfl) (fun h => nomatch h) (fun _ => ?_)
              refine Tr.skip ?_
              show Tr _ _ _ _ _
              refine Tr.seq ?_
              refine Tr.rs ?_
              refine LAt.runU tOk 2 (by kernel_rfl) ?_
              refine LAt.lenE tOk (t := 43) (ty := 3) (e := 41) (x := (.tmp 58)) (d := 59) (g := none) ⟨(.slot 58), [], 0, false, 8, (CV.frzEs (x0.Ports.map Pt.row))⟩ (x0.Ports).length _ (by kernel_rfl) (by kernel_rfl) (by kernel_rfl) (by kernel_rfl) (by kernel_rfl) (frz_len _ _) rfl ?_
              refine LAt.runU tOk 1 (by kernel_rfl) ?_
              refine LAt.doneU [60, 59, 4, 3, 2] [3, 2] (by kernel_rfl) ?_
              obtain ⟨o8, eo8, Ho8⟩ := bind_some H
              clear H
              refine Tr.mid (ι := Unit) (fun v => ⟨126, 0, [(4, .val false [.lit (.bool false)]), (3, .adr (.box 3) [(0, 0)] 11 0), (2, .adr (.box 2) [(0, 0)] 11 0)], [(3, (CV.frzRow (Bridge.row x1))), (2, (CV.frzRow (Bridge.row x0)))]⟩) (fun v => impl_SameBridge_J1 n x0 x1 = some r) ?_ ?_
              · refine Tr.block ?_
                refine Tr.loop (ι := Nat × (Int)) (fun v => ⟨126, 0, [(60, .val false [.lit (.int .i64 v.2)]), (59, .val false [.lit (.int .i64 (x0.Ports.length : Int))]), (4, .val false [.lit (.bool false)]), (3, .adr (.box 3) [(0, 0)] 11 0), (2, .adr (.box 2) [(0, 0)] 11 0)], [(3, (CV.frzRow (Bridge.row x1))), (2, (CV.frzRow (Bridge.row x0)))]⟩) (fun v => impl_SameBridge_L4 n v.1 x0 x1 v.2 = some o8) (fun v => v.1) (n, 0) eo8 (St.sub_of [60, 59, 4, 3, 2] [3, 2] (by kernel_rfl)) ?_
                rintro ⟨mo8, y3⟩ H
                have H : impl_SameBridge_L4 n mo8 x0 x1 y3 = some o8 := H
                obtain _ | mo8 := mo8
                · cases (show (none : Option _) = some o8 from H)
                · rw [impl_SameBridge_L4] at H
                  refine Tr.rs ?_
                  refine LAt.runU tOk 1 (by kernel_rfl) ?_
                  refine LAt.doneU [61, 60, 59, 4, 3, 2] [3, 2] (by kernel_rfl) ?_
                  refine Tr.seq ?_
                  refine Tr.to ⟨126, 0, [(61, .val false [.lit (.bool (decide (y3 < (x0.Ports.length : Int))))]), (60, .val false [.lit (.int .i64 y3)]), (59, .val false [.lit (.int .i64 (x0.Ports.length : Int))]), (4, .val false [.lit (.bool false)]), (3, .adr (.box 3) [(0, 0)] 11 0), (2, .adr (.box 2) [(0, 0)] 11 0)], [(3, (CV.frzRow (Bridge.row x1))), (2, (CV.frzRow (Bridge.row x0)))]⟩ (by kernel_rfl) ?_
                  cases h13 : (decide (y3 < (x0.Ports.length : Int)))
                  · have H := bifF h13 H
                    refine Tr.cond (b := false) (by kernel_rfl) (fun h => nomatch h) (fun _ => ?_)
                    refine Tr.exit ?_
                    refine And.intro (fun _ => ?_) (fun h => absurd rfl h)
                    have H := Option.some.inj H
                    subst H
                    have H := Ho8
                    dsimp only at H
                    exact Exists.intro () (And.intro H (St.sub_of [4, 3, 2] [3, 2] (by kernel_rfl)))
                  · have H := bifT h13 H
                    refine Tr.cond (b := true) (by kernel_rfl) (fun _ => ?_) (fun h => nomatch h)
                    refine Tr.skip ?_
                    show Tr _ _ _ _ _
                    refine Tr.seq ?_
                    refine Tr.block ?_
                    refine Tr.rs ?_
                    refine LAt.runU tOk 2 (by kernel_rfl) ?_
                    refine LAt.doneU [5, 62, 61, 60, 59, 4, 3, 2] [3, 2] (by kernel_rfl) ?_
                    obtain ⟨v9, ev9, H⟩ := bind_some H
                    obtain ⟨v10, ev10, H⟩ := bind_some H
                    refine Tr.draws mixed 11 (by kernel_rfl) ⟨126, 0, [(73, .val false [.lit (.bool (!((v9.Up == v10.Up) && ((v9.Cost == v10.Cost) && ((v9.Has == v10.Has) && (((v9.Heard.Root == v10.Heard.Root) && ((v9.Heard.Cost == v10.Heard.Cost) && ((v9.Heard.Hops == v10.Heard.Hops) && ((v9.Heard.Bridge == v10.Heard.Bridge) && ((v9.Heard.Port == v10.Heard.Port) && true))))) && true))))))]), (72, .val true (Pt.row v10)), (71, .fad ((Pt.row v10))), (70, .val false [.lit (.int .i64 y3)]), (69, .ref (.box 3) [(0, 0)] 11 2 1 false), (68, .adr (.box 3) [(0, 0)] 11 2), (67, .val true (Pt.row v9)), (66, .fad ((Pt.row v9))), (65, .val false [.lit (.int .i64 y3)]), (64, .ref (.box 2) [(0, 0)] 11 2 1 false), (63, .adr (.box 2) [(0, 0)] 11 2), (5, .val false [.lit (.int .i64 y3)]), (62, .val false [.lit (.int .i64 y3)]), (61, .val false [.lit (.bool true)]), (60, .val false [.lit (.int .i64 y3)]), (59, .val false [.lit (.int .i64 (x0.Ports.length : Int))]), (4, .val false [.lit (.bool false)]), (3, .adr (.box 3) [(0, 0)] 11 0), (2, .adr (.box 2) [(0, 0)] 11 0)], [(3, (CV.frzRow (Bridge.row x1))), (2, (CV.frzRow (Bridge.row x0)))]⟩ (fun cx => ?_) ?_
                    · refine AT.runU tOk [(0, []), (1, [10]), (2, [])] 8 [⟨[10], 43, 63, 64⟩] [2, 1, 0] rfl (by kernel_rfl) (fun cx => ?_)
                      refine AT.indexF tOk 3 (t := 43) (ty := 0) (x := (.tmp 64)) (y := (.tmp 65)) (d := 66) (g := none) ⟨(.box 2), [(0, 0)], 2, false, 8, (CV.frzEs (x0.Ports.map Pt.row))⟩ y3 (Pt.row v9) _ (by kernel_rfl) (by kernel_rfl) (by kernel_rfl) (by kernel_rfl) (by kernel_rfl) (by kernel_rfl) rfl (idx_isF ev9) rfl (fun cx => ?_)
                      refine AT.runU tOk [(4, []), (5, []), (6, [10]), (7, [])] 3 [⟨[10], 43, 68, 69⟩, ⟨[10], 43, 63, 64⟩] [7, 6, 5, 4, 3, 2, 1, 0] rfl (by kernel_rfl) (fun cx => ?_)
                      refine AT.indexF tOk 8 (t := 43) (ty := 0) (x := (.tmp 69)) (y := (.tmp 70)) (d := 71) (g := none) ⟨(.box 3), [(0, 0)], 2, false, 8, (CV.frzEs (x1.Ports.map Pt.row))⟩ y3 (Pt.row v10) _ (by kernel_rfl) (by kernel_rfl) (by kernel_rfl) (by kernel_rfl) (by kernel_rfl) (by kernel_rfl) rfl (idx_isF ev10) rfl (fun cx => ?_)
                      refine AT.runU tOk [(9, [])] 1 [⟨[10], 43, 68, 69⟩, ⟨[10], 43, 63, 64⟩] [9, 8, 7, 6, 5, 4, 3, 2, 1, 0] rfl (by kernel_rfl) (fun cx => ?_)
                      refine AT.big1 tOk 10 (by kernel_rfl) (by kernel_rfl) ?_
                      refine LAt.eqS true (t := 41) (ty := 41) (ty' := 4) (x := (.tmp 67)) (y := (.tmp 72)) (d := 73) ((v9.Up == v10.Up) && ((v9.Cost == v10.Cost) && ((v9.Has == v10.Has) && (((v9.Heard.Root == v10.Heard.Root) && ((v9.Heard.Cost == v10.Heard.Cost) && ((v9.Heard.Hops == v10.Heard.Hops) && ((v9.Heard.Bridge == v10.Heard.Bridge) && ((v9.Heard.Port == v10.Heard.Port) && true))))) && true)))) _ (by kernel_rfl) (by kernel_rfl) (by kernel_rfl) rfl ?_
                      refine LAt.fin (by kernel_rfl) (And.intro (And.intro (by kernel_rfl) (by kernel_rfl)) ?_)
                      exact AT.done [73, 72, 71, 70, 69, 68, 67, 66, 65, 64, 63, 5, 62, 61, 60, 59, 4, 3, 2] [3, 2] _ (by kernel_rfl) (by kernel_rfl) rfl
                    · refine Tr.to ⟨126, 0, [(73, .val false [.lit (.bool (!((v9.Up == v10.Up) && ((v9.Cost == v10.Cost) && ((v9.Has == v10.Has) && (((v9.Heard.Root == v10.Heard.Root) && ((v9.Heard.Cost == v10.Heard.Cost) && ((v9.Heard.Hops == v10.Heard.Hops) && ((v9.Heard.Bridge == v10.Heard.Bridge) && ((v9.Heard.Port == v10.Heard.Port) && true))))) && true))))))]), (72, .val true (Pt.row v10)), (71, .fad ((Pt.row v10))), (70, .val false [.lit (.int .i64 y3)]), (69, .ref (.box 3) [(0, 0)] 11 2 1 false), (68, .adr (.box 3) [(0, 0)] 11 2), (67, .val true (Pt.row v9)), (66, .fad ((Pt.row v9))), (65, .val false [.lit (.int .i64 y3)]), (64, .ref (.box 2) [(0, 0)] 11 2 1 false), (63, .adr (.box 2) [(0, 0)] 11 2), (5, .val false [.lit (.int .i64 y3)]), (62, .val false [.lit (.int .i64 y3)]), (61, .val false [.lit (.bool true)]), (60, .val false [.lit (.int .i64 y3)]), (59, .val false [.lit (.int .i64 (x0.Ports.length : Int))]), (4, .val false [.lit (.bool false)]), (3, .adr (.box 3) [(0, 0)] 11 0), (2, .adr (.box 2) [(0, 0)] 11 0)], [(3, (CV.frzRow (Bridge.row x1))), (2, (CV.frzRow (Bridge.row x0)))]⟩ (by kernel_rfl) ?_
                      cases h14 : (!((v9.Up == v10.Up) && ((v9.Cost == v10.Cost) && ((v9.Has == v10.Has) && (((v9.Heard.Root == v10.Heard.Root) && ((v9.Heard.Cost == v10.Heard.Cost) && ((v9.Heard.Hops == v10.Heard.Hops) && ((v9.Heard.Bridge == v10.Heard.Bridge) && ((v9.Heard.Port == v10.Heard.Port) && true))))) && true)))))
                      · have H := bifF h14 H
                        refine Tr.cond (b := false) (by kernel_rfl) (fun h => nomatch h) (fun _ => ?_)
                        refine Tr.skip ?_
                        show Tr _ _ _ _ _
                        refine Tr.at ?_
                        refine LAt.runU tOk 2 (by kernel_rfl) ?_
                        refine LAt.doneU [60, 74, 73, 72, 71, 70, 69, 68, 67, 66, 65, 64, 63, 5, 62, 61, 59, 4, 3, 2] [3, 2] (by kernel_rfl) ?_
                        exact Exists.intro (mo8, (IntKind.wrap .i64 (y3 + 1))) (And.intro H (And.intro (Nat.lt_succ_self mo8) (St.sub_of [60, 59, 4, 3, 2] [3, 2] (by kernel_rfl))))
                      · have H := bifT h14 H
                        refine Tr.cond (b := true) (by kernel_rfl) (fun _ => ?_) (fun h => nomatch h)
                        refine Tr.rs ?_
                        refine LAt.runU tOk 1 (by kernel_rfl) ?_
                        refine LAt.doneU [4, 73, 72, 71, 70, 69, 68, 67, 66, 65, 64, 63, 5, 62, 61, 60, 59, 3, 2] [3, 2] (by kernel_rfl) ?_
                        refine Tr.ret ?_
                        have H := Option.some.inj H
                        subst H
                        have H := Ho8
                        dsimp only at H
                        have H := Option.some.inj H
                        subst H
                        exact Fin.of _ [(false, [.lit (.bool false)])] (by kernel_rfl) rfl rfl
              · rintro _ H
                have H : (impl_SameBridge_J1 n x0 x1) = some r := H
                unfold impl_SameBridge_J1 at H
                show Tr _ _ _ _ _
                refine Tr.seq ?_
                refine Tr.rs ?_
                refine LAt.runU tOk 2 (by kernel_rfl) ?_
                refine LAt.lenE tOk (t := 77) (ty := 3) (e := 147) (x := (.tmp 76)) (d := 77) (g := none) ⟨(.slot 76), [], 0, false, 5, (CV.frzEs (x0.F.map Fent.row))⟩ (x0.F).length _ (by kernel_rfl) (by kernel_rfl) (by kernel_rfl) (by kernel_rfl) (by kernel_rfl) (frz_len _ _) rfl ?_
                refine LAt.runU tOk 1 (by kernel_rfl) ?_
                refine LAt.doneU [78, 77, 4, 3, 2] [3, 2] (by kernel_rfl) ?_
                obtain ⟨o5, eo5, Ho5⟩ := bind_some H
                clear H
                refine Tr.mid (ι := Unit) (fun v => ⟨126, 0, [(4, .val false [.lit (.bool false)]), (3, .adr (.box 3) [(0, 0)] 11 0), (2, .adr (.box 2) [(0, 0)] 11 0)], [(3, (CV.frzRow (Bridge.row x1))), (2, (CV.frzRow (Bridge.row x0)))]⟩) (fun v => impl_SameBridge_J2 n x0 x1 = some r) ?_ ?_
                · refine Tr.block ?_
                  refine Tr.loop (ι := Nat × (Int)) (fun v => ⟨126, 0, [(78, .val false [.lit (.int .i64 v.2)]), (77, .val false [.lit (.int .i64 (x0.F.length : Int))]), (4, .val false [.lit (.bool false)]), (3, .adr (.box 3) [(0, 0)] 11 0), (2, .adr (.box 2) [(0, 0)] 11 0)], [(3, (CV.frzRow (Bridge.row x1))), (2, (CV.frzRow (Bridge.row x0)))]⟩) (fun v => impl_SameBridge_L3 n v.1 x0 x1 v.2 = some o5) (fun v => v.1) (n, 0) eo5 (St.sub_of [78, 77, 4, 3, 2] [3, 2] (by kernel_rfl)) ?_
                  rintro ⟨mo5, y4⟩ H
                  have H : impl_SameBridge_L3 n mo5 x0 x1 y4 = some o5 := H
                  obtain _ | mo5 := mo5
                  · cases (show (none : Option _) = some o5 from H)
                  · rw [impl_SameBridge_L3] at H
                    refine Tr.rs ?_
                    refine LAt.runU tOk 1 (by kernel_rfl) ?_
                    refine LAt.doneU [79, 78, 77, 4, 3, 2] [3, 2] (by kernel_rfl) ?_
                    refine Tr.seq ?_
                    refine Tr.to ⟨126, 0, [(79, .val false [.lit (.bool (decide (y4 < (x0.F.length : Int))))]), (78, .val false [.lit (.int .i64 y4)]), (77, .val false [.lit (.int .i64 (x0.F.length : Int))]), (4, .val false [.lit (.bool false)]), (3, .adr (.box 3) [(0, 0)] 11 0), (2, .adr (.box 2) [(0, 0)] 11 0)], [(3, (CV.frzRow (Bridge.row x1))), (2, (CV.frzRow (Bridge.row x0)))]⟩ (by kernel_rfl) ?_
                    cases h11 : (decide (y4 < (x0.F.length : Int)))
                    · have H := bifF h11 H
                      refine Tr.cond (b := false) (by kernel_rfl) (fun h => nomatch h) (fun _ => ?_)
                      refine Tr.exit ?_
                      refine And.intro (fun _ => ?_) (fun h => absurd rfl h)
                      have H := Option.some.inj H
                      subst H
                      have H := Ho5
                      dsimp only at H
                      exact Exists.intro () (And.intro H (St.sub_of [4, 3, 2] [3, 2] (by kernel_rfl)))
                    · have H := bifT h11 H
                      refine Tr.cond (b := true) (by kernel_rfl) (fun _ => ?_) (fun h => nomatch h)
                      refine Tr.skip ?_
                      show Tr _ _ _ _ _
                      refine Tr.seq ?_
                      refine Tr.block ?_
                      refine Tr.rs ?_
                      refine LAt.runU tOk 2 (by kernel_rfl) ?_
                      refine LAt.doneU [6, 80, 79, 78, 77, 4, 3, 2] [3, 2] (by kernel_rfl) ?_
                      obtain ⟨v6, ev6, H⟩ := bind_some H
                      obtain ⟨v7, ev7, H⟩ := bind_some H
                      refine Tr.draws mixed 11 (by kernel_rfl) ⟨126, 0, [(91, .val false [.lit (.bool (!((v6.Tag == v7.Tag) && ((v6.Mac == v7.Mac) && ((v6.Port == v7.Port) && ((v6.Age == v7.Age) && ((v6.Static == v7.Static) && true)))))))]), (90, .val true (Fent.row v7)), (89, .fad ((Fent.row v7))), (88, .val false [.lit (.int .i64 y4)]), (87, .ref (.box 3) [(0, 0)] 11 3 1 false), (86, .adr (.box 3) [(0, 0)] 11 3), (85, .val true (Fent.row v6)), (84, .fad ((Fent.row v6))), (83, .val false [.lit (.int .i64 y4)]), (82, .ref (.box 2) [(0, 0)] 11 3 1 false), (81, .adr (.box 2) [(0, 0)] 11 3), (6, .val false [.lit (.int .i64 y4)]), (80, .val false [.lit (.int .i64 y4)]), (79, .val false [.lit (.bool true)]), (78, .val false [.lit (.int .i64 y4)]), (77, .val false [.lit (.int .i64 (x0.F.length : Int))]), (4, .val false [.lit (.bool false)]), (3, .adr (.box 3) [(0, 0)] 11 0), (2, .adr (.box 2) [(0, 0)] 11 0)], [(3, (CV.frzRow (Bridge.row x1))), (2, (CV.frzRow (Bridge.row x0)))]⟩ (fun cx => ?_) ?_
                      · refine AT.runU tOk [(0, []), (1, [10]), (2, [])] 8 [⟨[10], 77, 81, 82⟩] [2, 1, 0] rfl (by kernel_rfl) (fun cx => ?_)
                        refine AT.indexF tOk 3 (t := 77) (ty := 0) (x := (.tmp 82)) (y := (.tmp 83)) (d := 84) (g := none) ⟨(.box 2), [(0, 0)], 3, false, 5, (CV.frzEs (x0.F.map Fent.row))⟩ y4 (Fent.row v6) _ (by kernel_rfl) (by kernel_rfl) (by kernel_rfl) (by kernel_rfl) (by kernel_rfl) (by kernel_rfl) rfl (idx_isF ev6) rfl (fun cx => ?_)
                        refine AT.runU tOk [(4, []), (5, []), (6, [10]), (7, [])] 3 [⟨[10], 77, 86, 87⟩, ⟨[10], 77, 81, 82⟩] [7, 6, 5, 4, 3, 2, 1, 0] rfl (by kernel_rfl) (fun cx => ?_)
                        refine AT.indexF tOk 8 (t := 77) (ty := 0) (x := (.tmp 87)) (y := (.tmp 88)) (d := 89) (g := none) ⟨(.box 3), [(0, 0)], 3, false, 5, (CV.frzEs (x1.F.map Fent.row))⟩ y4 (Fent.row v7) _ (by kernel_rfl) (by kernel_rfl) (by kernel_rfl) (by kernel_rfl) (by kernel_rfl) (by kernel_rfl) rfl (idx_isF ev7) rfl (fun cx => ?_)
                        refine AT.runU tOk [(9, [])] 1 [⟨[10], 77, 86, 87⟩, ⟨[10], 77, 81, 82⟩] [9, 8, 7, 6, 5, 4, 3, 2, 1, 0] rfl (by kernel_rfl) (fun cx => ?_)
                        refine AT.big1 tOk 10 (by kernel_rfl) (by kernel_rfl) ?_
                        refine LAt.eqS true (t := 147) (ty := 147) (ty' := 4) (x := (.tmp 85)) (y := (.tmp 90)) (d := 91) ((v6.Tag == v7.Tag) && ((v6.Mac == v7.Mac) && ((v6.Port == v7.Port) && ((v6.Age == v7.Age) && ((v6.Static == v7.Static) && true))))) _ (by kernel_rfl) (by kernel_rfl) (by kernel_rfl) rfl ?_
                        refine LAt.fin (by kernel_rfl) (And.intro (And.intro (by kernel_rfl) (by kernel_rfl)) ?_)
                        exact AT.done [91, 90, 89, 88, 87, 86, 85, 84, 83, 82, 81, 6, 80, 79, 78, 77, 4, 3, 2] [3, 2] _ (by kernel_rfl) (by kernel_rfl) rfl
                      · refine Tr.to ⟨126, 0, [(91, .val false [.lit (.bool (!((v6.Tag == v7.Tag) && ((v6.Mac == v7.Mac) && ((v6.Port == v7.Port) && ((v6.Age == v7.Age) && ((v6.Static == v7.Static) && true)))))))]), (90, .val true (Fent.row v7)), (89, .fad ((Fent.row v7))), (88, .val false [.lit (.int .i64 y4)]), (87, .ref (.box 3) [(0, 0)] 11 3 1 false), (86, .adr (.box 3) [(0, 0)] 11 3), (85, .val true (Fent.row v6)), (84, .fad ((Fent.row v6))), (83, .val false [.lit (.int .i64 y4)]), (82, .ref (.box 2) [(0, 0)] 11 3 1 false), (81, .adr (.box 2) [(0, 0)] 11 3), (6, .val false [.lit (.int .i64 y4)]), (80, .val false [.lit (.int .i64 y4)]), (79, .val false [.lit (.bool true)]), (78, .val false [.lit (.int .i64 y4)]), (77, .val false [.lit (.int .i64 (x0.F.length : Int))]), (4, .val false [.lit (.bool false)]), (3, .adr (.box 3) [(0, 0)] 11 0), (2, .adr (.box 2) [(0, 0)] 11 0)], [(3, (CV.frzRow (Bridge.row x1))), (2, (CV.frzRow (Bridge.row x0)))]⟩ (by kernel_rfl) ?_
                        cases h12 : (!((v6.Tag == v7.Tag) && ((v6.Mac == v7.Mac) && ((v6.Port == v7.Port) && ((v6.Age == v7.Age) && ((v6.Static == v7.Static) && true))))))
                        · have H := bifF h12 H
                          refine Tr.cond (b := false) (by kernel_rfl) (fun h => nomatch h) (fun _ => ?_)
                          refine Tr.skip ?_
                          show Tr _ _ _ _ _
                          refine Tr.at ?_
                          refine LAt.runU tOk 2 (by kernel_rfl) ?_
                          refine LAt.doneU [78, 92, 91, 90, 89, 88, 87, 86, 85, 84, 83, 82, 81, 6, 80, 79, 77, 4, 3, 2] [3, 2] (by kernel_rfl) ?_
                          exact Exists.intro (mo5, (IntKind.wrap .i64 (y4 + 1))) (And.intro H (And.intro (Nat.lt_succ_self mo5) (St.sub_of [78, 77, 4, 3, 2] [3, 2] (by kernel_rfl))))
                        · have H := bifT h12 H
                          refine Tr.cond (b := true) (by kernel_rfl) (fun _ => ?_) (fun h => nomatch h)
                          refine Tr.rs ?_
                          refine LAt.runU tOk 1 (by kernel_rfl) ?_
                          refine LAt.doneU [4, 91, 90, 89, 88, 87, 86, 85, 84, 83, 82, 81, 6, 80, 79, 78, 77, 3, 2] [3, 2] (by kernel_rfl) ?_
                          refine Tr.ret ?_
                          have H := Option.some.inj H
                          subst H
                          have H := Ho5
                          dsimp only at H
                          have H := Option.some.inj H
                          subst H
                          exact Fin.of _ [(false, [.lit (.bool false)])] (by kernel_rfl) rfl rfl
                · rintro _ H
                  have H : (impl_SameBridge_J2 n x0 x1) = some r := H
                  unfold impl_SameBridge_J2 at H
                  show Tr _ _ _ _ _
                  refine Tr.rs ?_
                  refine LAt.runU tOk 6 (by kernel_rfl) ?_
                  refine LAt.to ⟨126, 0, [(98, .val false [.lit (.bool (x0.Ticks == x1.Ticks))]), (97, .val false [.lit (.bool (x0.Ticks == x1.Ticks))]), (96, .val false [.lit (.int .i64 x1.Ticks)]), (95, .adr (.box 3) [(0, 0)] 11 6), (94, .val false [.lit (.int .i64 x0.Ticks)]), (93, .adr (.box 2) [(0, 0)] 11 6), (4, .val false [.lit (.bool false)]), (3, .adr (.box 3) [(0, 0)] 11 0), (2, .adr (.box 2) [(0, 0)] 11 0)], [(3, (CV.frzRow (Bridge.row x1))), (2, (CV.frzRow (Bridge.row x0)))]⟩ (by kernel_rfl) ?_
                  cases h7 : (x0.Ticks == x1.Ticks)
                  · have H := bifF h7 H
                    refine LAt.runU tOk 28 (by kernel_rfl) ?_
                    refine LAt.doneU [4] [] (by kernel_rfl) ?_
                    refine Tr.ret ?_
                    have H := Option.some.inj H
                    subst H
                    exact Fin.of _ [(false, [.lit (.bool false)])] (by kernel_rfl) rfl rfl
                  · have H := bifT h7 H
                    refine LAt.runU tOk 7 (by kernel_rfl) ?_
                    refine LAt.to ⟨126, 0, [(105, .val false [.lit (.bool (x0.Parse == x1.Parse))]), (104, .val false [.lit (.bool (x0.Parse == x1.Parse))]), (103, .val false [.lit (.bool (x0.Parse == x1.Parse))]), (102, .val false [.lit (.int .i64 x1.Parse)]), (101, .adr (.box 3) [(0, 0)] 11 7), (100, .val false [.lit (.int .i64 x0.Parse)]), (99, .adr (.box 2) [(0, 0)] 11 7), (98, .val false [.lit (.bool true)]), (97, .val false [.lit (.bool true)]), (96, .val false [.lit (.int .i64 x1.Ticks)]), (95, .adr (.box 3) [(0, 0)] 11 6), (94, .val false [.lit (.int .i64 x0.Ticks)]), (93, .adr (.box 2) [(0, 0)] 11 6), (4, .val false [.lit (.bool false)]), (3, .adr (.box 3) [(0, 0)] 11 0), (2, .adr (.box 2) [(0, 0)] 11 0)], [(3, (CV.frzRow (Bridge.row x1))), (2, (CV.frzRow (Bridge.row x0)))]⟩ (by kernel_rfl) ?_
                    cases h8 : (x0.Parse == x1.Parse)
                    · have H := bifF h8 H
                      refine LAt.runU tOk 21 (by kernel_rfl) ?_
                      refine LAt.doneU [4] [] (by kernel_rfl) ?_
                      refine Tr.ret ?_
                      have H := Option.some.inj H
                      subst H
                      exact Fin.of _ [(false, [.lit (.bool false)])] (by kernel_rfl) rfl rfl
                    · have H := bifT h8 H
                      refine LAt.runU tOk 7 (by kernel_rfl) ?_
                      refine LAt.to ⟨126, 0, [(112, .val false [.lit (.bool (x0.Word == x1.Word))]), (111, .val false [.lit (.bool (x0.Word == x1.Word))]), (110, .val false [.lit (.bool (x0.Word == x1.Word))]), (109, .val false [.lit (.int .i64 x1.Word)]), (108, .adr (.box 3) [(0, 0)] 11 8), (107, .val false [.lit (.int .i64 x0.Word)]), (106, .adr (.box 2) [(0, 0)] 11 8), (105, .val false [.lit (.bool true)]), (104, .val false [.lit (.bool true)]), (103, .val false [.lit (.bool true)]), (102, .val false [.lit (.int .i64 x1.Parse)]), (101, .adr (.box 3) [(0, 0)] 11 7), (100, .val false [.lit (.int .i64 x0.Parse)]), (99, .adr (.box 2) [(0, 0)] 11 7), (98, .val false [.lit (.bool true)]), (97, .val false [.lit (.bool true)]), (96, .val false [.lit (.int .i64 x1.Ticks)]), (95, .adr (.box 3) [(0, 0)] 11 6), (94, .val false [.lit (.int .i64 x0.Ticks)]), (93, .adr (.box 2) [(0, 0)] 11 6), (4, .val false [.lit (.bool false)]), (3, .adr (.box 3) [(0, 0)] 11 0), (2, .adr (.box 2) [(0, 0)] 11 0)], [(3, (CV.frzRow (Bridge.row x1))), (2, (CV.frzRow (Bridge.row x0)))]⟩ (by kernel_rfl) ?_
                      cases h9 : (x0.Word == x1.Word)
                      · have H := bifF h9 H
                        refine LAt.runU tOk 14 (by kernel_rfl) ?_
                        refine LAt.doneU [4] [] (by kernel_rfl) ?_
                        refine Tr.ret ?_
                        have H := Option.some.inj H
                        subst H
                        exact Fin.of _ [(false, [.lit (.bool false)])] (by kernel_rfl) rfl rfl
                      · have H := bifT h9 H
                        refine LAt.runU tOk 7 (by kernel_rfl) ?_
                        refine LAt.to ⟨126, 0, [(119, .val false [.lit (.bool (x0.Drops == x1.Drops))]), (118, .val false [.lit (.bool (x0.Drops == x1.Drops))]), (117, .val false [.lit (.bool (x0.Drops == x1.Drops))]), (116, .val false [.lit (.int .i64 x1.Drops)]), (115, .adr (.box 3) [(0, 0)] 11 9), (114, .val false [.lit (.int .i64 x0.Drops)]), (113, .adr (.box 2) [(0, 0)] 11 9), (112, .val false [.lit (.bool true)]), (111, .val false [.lit (.bool true)]), (110, .val false [.lit (.bool true)]), (109, .val false [.lit (.int .i64 x1.Word)]), (108, .adr (.box 3) [(0, 0)] 11 8), (107, .val false [.lit (.int .i64 x0.Word)]), (106, .adr (.box 2) [(0, 0)] 11 8), (105, .val false [.lit (.bool true)]), (104, .val false [.lit (.bool true)]), (103, .val false [.lit (.bool true)]), (102, .val false [.lit (.int .i64 x1.Parse)]), (101, .adr (.box 3) [(0, 0)] 11 7), (100, .val false [.lit (.int .i64 x0.Parse)]), (99, .adr (.box 2) [(0, 0)] 11 7), (98, .val false [.lit (.bool true)]), (97, .val false [.lit (.bool true)]), (96, .val false [.lit (.int .i64 x1.Ticks)]), (95, .adr (.box 3) [(0, 0)] 11 6), (94, .val false [.lit (.int .i64 x0.Ticks)]), (93, .adr (.box 2) [(0, 0)] 11 6), (4, .val false [.lit (.bool false)]), (3, .adr (.box 3) [(0, 0)] 11 0), (2, .adr (.box 2) [(0, 0)] 11 0)], [(3, (CV.frzRow (Bridge.row x1))), (2, (CV.frzRow (Bridge.row x0)))]⟩ (by kernel_rfl) ?_
                        cases h10 : (x0.Drops == x1.Drops)
                        · have H := bifF h10 H
                          refine LAt.runU tOk 7 (by kernel_rfl) ?_
                          refine LAt.doneU [4] [] (by kernel_rfl) ?_
                          refine Tr.ret ?_
                          have H := Option.some.inj H
                          subst H
                          exact Fin.of _ [(false, [.lit (.bool false)])] (by kernel_rfl) rfl rfl
                        · have H := bifT h10 H
                          refine LAt.runU tOk 7 (by kernel_rfl) ?_
                          refine LAt.doneU [4] [] (by kernel_rfl) ?_
                          refine Tr.ret ?_
                          have H := Option.some.inj H
                          subst H
                          exact Fin.of _ [(false, [.lit (.bool (x0.Vers == x1.Vers))])] (by kernel_rfl) rfl rfl
            · have H := bifT h6 H
              refine Tr.cond (b := true) (by kernel_rfl) (fun _ => ?_) (fun h => nomatch h)
              refine Tr.rs ?_
              refine LAt.runU tOk 1 (by kernel_rfl) ?_
              refine LAt.doneU [4, 3, 2] [3, 2] (by kernel_rfl) ?_
              refine Tr.ret ?_
              have H := Option.some.inj H
              subst H
              exact Fin.of _ [(false, [.lit (.bool false)])] (by kernel_rfl) rfl rfl
          · have H := bifT h5 H
            refine LAt.runU tOk 9 (by kernel_rfl) ?_
            refine LAt.doneU [56, 4, 3, 2] [3, 2] (by kernel_rfl) ?_
            refine Tr.cond (b := true) (by kernel_rfl) (fun _ => ?_) (fun h => nomatch h)
            refine Tr.rs ?_
            refine LAt.runU tOk 1 (by kernel_rfl) ?_
            refine LAt.doneU [4, 3, 2] [3, 2] (by kernel_rfl) ?_
            refine Tr.ret ?_
            have H := Option.some.inj H
            subst H
            exact Fin.of _ [(false, [.lit (.bool false)])] (by kernel_rfl) rfl rfl
        · have H := bifT h4 H
          refine LAt.runU tOk 19 (by kernel_rfl) ?_
          refine LAt.doneU [56, 4, 3, 2] [3, 2] (by kernel_rfl) ?_
          refine Tr.cond (b := true) (by kernel_rfl) (fun _ => ?_) (fun h => nomatch h)
          refine Tr.rs ?_
          refine LAt.runU tOk 1 (by kernel_rfl) ?_
          refine LAt.doneU [4, 3, 2] [3, 2] (by kernel_rfl) ?_
          refine Tr.ret ?_
          have H := Option.some.inj H
          subst H
          exact Fin.of _ [(false, [.lit (.bool false)])] (by kernel_rfl) rfl rfl
      · have H := bifT h3 H
        refine LAt.runU tOk 28 (by kernel_rfl) ?_
        refine LAt.doneU [56, 4, 3, 2] [3, 2] (by kernel_rfl) ?_
        refine Tr.cond (b := true) (by kernel_rfl) (fun _ => ?_) (fun h => nomatch h)
        refine Tr.rs ?_
        refine LAt.runU tOk 1 (by kernel_rfl) ?_
        refine LAt.doneU [4, 3, 2] [3, 2] (by kernel_rfl) ?_
        refine Tr.ret ?_
        have H := Option.some.inj H
        subst H
        exact Fin.of _ [(false, [.lit (.bool false)])] (by kernel_rfl) rfl rfl
    · have H := bifT h2 H
      refine LAt.runU tOk 37 (by kernel_rfl) ?_
      refine LAt.doneU [56, 4, 3, 2] [3, 2] (by kernel_rfl) ?_
      refine Tr.cond (b := true) (by kernel_rfl) (fun _ => ?_) (fun h => nomatch h)
      refine Tr.rs ?_
      refine LAt.runU tOk 1 (by kernel_rfl) ?_
      refine LAt.doneU [4, 3, 2] [3, 2] (by kernel_rfl) ?_
      refine Tr.ret ?_
      have H := Option.some.inj H
      subst H
      exact Fin.of _ [(false, [.lit (.bool false)])] (by kernel_rfl) rfl rfl
  · have H := bifT h1 H
    refine LAt.runU tOk 44 (by kernel_rfl) ?_
    refine LAt.doneU [56, 4, 3, 2] [3, 2] (by kernel_rfl) ?_
    refine Tr.cond (b := true) (by kernel_rfl) (fun _ => ?_) (fun h => nomatch h)
    refine Tr.rs ?_
    refine LAt.runU tOk 1 (by kernel_rfl) ?_
    refine LAt.doneU [4, 3, 2] [3, 2] (by kernel_rfl) ?_
    refine Tr.ret ?_
    have H := Option.some.inj H
    subst H
    exact Fin.of _ [(false, [.lit (.bool false)])] (by kernel_rfl) rfl rfl
end Go.Proofs.Ytgpcfaiacggoiaa.Tw
