/- Functions of the program, over trees. -/
import Derived.Test.YtnhmckiejhbmcaaProg
import Derived.Test.YtnhmckiejhbmcaaTlRule
import Derived.Test.YtnhmckiejhbmcaaTlAny2
import Derived.WalkKit
set_option linter.unusedVariables false
set_option linter.unusedSimpArgs false
set_option maxRecDepth 100000
namespace Go.Proofs.Ytnhmckiejhbmcaa.Tw
open Go Go.TL Go.Proofs
def tab : List (Nat × TI) := [(2, ⟨.int .i64, 1, 8, [.lit (.int .i64 0)]⟩),
  (3, ⟨.int .i64, 1, 8, [.lit (.int .i64 0)]⟩),
  (4, ⟨.bool, 1, 1, [.lit (.bool false)]⟩),
  (5, ⟨.int .u8, 1, 1, [.lit (.int .u8 0)]⟩),
  (6, ⟨.int .u8, 1, 1, [.lit (.int .u8 0)]⟩),
  (7, ⟨.st [(0, 1, 2), (1, 1, 3), (2, 1, 4), (3, 1, 6)], 4, 24, [.lit (.int .i64 0), .lit (.int .i64 0), .lit (.bool false), .lit (.int .u8 0)]⟩),
  (8, ⟨.st [(0, 1, 2), (1, 1, 3), (2, 1, 4), (3, 1, 6)], 4, 24, [.lit (.int .i64 0), .lit (.int .i64 0), .lit (.bool false), .lit (.int .u8 0)]⟩),
  (9, ⟨.str, 1, 16, [.lit (.string ⟨#[]⟩)]⟩),
  (10, ⟨.str, 1, 16, [.lit (.string ⟨#[]⟩)]⟩),
  (11, ⟨.str, 1, 16, [.lit (.string ⟨#[]⟩)]⟩),
  (12, ⟨.int .u64, 1, 8, [.lit (.int .u64 0)]⟩),
  (13, ⟨.st [(0, 1, 9), (1, 1, 12)], 2, 24, [.lit (.string ⟨#[]⟩), .lit (.int .u64 0)]⟩),
  (14, ⟨.st [(0, 1, 9), (1, 1, 12)], 2, 24, [.lit (.string ⟨#[]⟩), .lit (.int .u64 0)]⟩),
  (21, ⟨.int .i32, 1, 4, [.lit (.int .i32 0)]⟩),
  (22, ⟨.st [(0, 1, 3), (1, 1, 3), (2, 1, 3), (3, 1, 3), (4, 1, 3)], 5, 40, [.lit (.int .i64 0), .lit (.int .i64 0), .lit (.int .i64 0), .lit (.int .i64 0), .lit (.int .i64 0)]⟩),
  (23, ⟨.st [(0, 1, 3), (1, 1, 3), (2, 1, 3), (3, 1, 3), (4, 1, 3)], 5, 40, [.lit (.int .i64 0), .lit (.int .i64 0), .lit (.int .i64 0), .lit (.int .i64 0), .lit (.int .i64 0)]⟩),
  (24, ⟨.st [(0, 1, 4), (1, 1, 3), (2, 1, 4), (3, 5, 23)], 8, 64, [.lit (.bool false), .lit (.int .i64 0), .lit (.bool false), .lit (.int .i64 0), .lit (.int .i64 0), .lit (.int .i64 0), .lit (.int .i64 0), .lit (.int .i64 0)]⟩),
  (25, ⟨.st [(0, 1, 4), (1, 1, 3), (2, 1, 4), (3, 5, 23)], 8, 64, [.lit (.bool false), .lit (.int .i64 0), .lit (.bool false), .lit (.int .i64 0), .lit (.int .i64 0), .lit (.int .i64 0), .lit (.int .i64 0), .lit (.int .i64 0)]⟩),
  (27, ⟨.st [(0, 1, 3), (1, 1, 3), (2, 1, 3), (3, 1, 3), (4, 1, 3)], 5, 40, [.lit (.int .i64 0), .lit (.int .i64 0), .lit (.int .i64 0), .lit (.int .i64 0), .lit (.int .i64 0)]⟩),
  (28, ⟨.st [(0, 1, 4), (1, 1, 3), (2, 1, 4), (3, 5, 27)], 8, 64, [.lit (.bool false), .lit (.int .i64 0), .lit (.bool false), .lit (.int .i64 0), .lit (.int .i64 0), .lit (.int .i64 0), .lit (.int .i64 0), .lit (.int .i64 0)]⟩),
  (29, ⟨.st [(0, 1, 4), (1, 1, 3), (2, 1, 4), (3, 5, 27)], 8, 64, [.lit (.bool false), .lit (.int .i64 0), .lit (.bool false), .lit (.int .i64 0), .lit (.int .i64 0), .lit (.int .i64 0), .lit (.int .i64 0), .lit (.int .i64 0)]⟩),
  (32, ⟨.sl 97, 1, 24, [.sl true 3 []]⟩),
  (33, ⟨.sl 3, 1, 24, [.sl true 1 []]⟩),
  (34, ⟨.st [(0, 1, 32), (1, 1, 33)], 2, 48, [.sl true 3 [], .sl true 1 []]⟩),
  (35, ⟨.st [(0, 1, 32), (1, 1, 33)], 2, 48, [.sl true 3 [], .sl true 1 []]⟩),
  (38, ⟨.sl 81, 1, 24, [.sl true 3 []]⟩),
  (39, ⟨.st [(0, 1, 38), (1, 1, 33)], 2, 48, [.sl true 3 [], .sl true 1 []]⟩),
  (40, ⟨.st [(0, 1, 38), (1, 1, 33)], 2, 48, [.sl true 3 [], .sl true 1 []]⟩),
  (50, ⟨.sl 25, 1, 24, [.sl true 8 []]⟩),
  (54, ⟨.sl 29, 1, 24, [.sl true 8 []]⟩),
  (61, ⟨.sl 5, 1, 24, [.sl true 1 []]⟩),
  (80, ⟨.st [(0, 1, 3), (1, 1, 3), (2, 1, 3)], 3, 24, [.lit (.int .i64 0), .lit (.int .i64 0), .lit (.int .i64 0)]⟩),
  (81, ⟨.st [(0, 1, 3), (1, 1, 3), (2, 1, 3)], 3, 24, [.lit (.int .i64 0), .lit (.int .i64 0), .lit (.int .i64 0)]⟩),
  (86, ⟨.int .u64, 1, 8, [.lit (.int .u64 0)]⟩),
  (97, ⟨.st [(0, 1, 3), (1, 1, 3), (2, 1, 3)], 3, 24, [.lit (.int .i64 0), .lit (.int .i64 0), .lit (.int .i64 0)]⟩),
  (99, ⟨.st [(0, 1, 61), (1, 1, 3), (2, 1, 3)], 3, 40, [.sl true 1 [], .lit (.int .i64 0), .lit (.int .i64 0)]⟩),
  (100, ⟨.st [(0, 1, 61), (1, 1, 3), (2, 1, 3)], 3, 40, [.sl true 1 [], .lit (.int .i64 0), .lit (.int .i64 0)]⟩)]
theorem mixed : Try.prog.follows .mixedOrders = true := by kernel_rfl
theorem tOk : TOk Try.prog (lk tab) := tok_of (by kernel_rfl)

structure Vrow where
  Id : Int
  Members : Int
  Bare : Int
def Vrow.row (v : Vrow) : List CV := [.lit (.int .i64 v.Id), .lit (.int .i64 v.Members), .lit (.int .i64 v.Bare)]
def Vrow.wf (v : Vrow) : Prop := intWf v.Id ∧ intWf v.Members ∧ intWf v.Bare ∧ True
theorem Vrow.enc : Enc Vrow [.int .i64, .int .i64, .int .i64] Vrow.row Vrow.wf := fun cs h => by
  obtain ⟨c0, r0, rfl, k0, h⟩ := fitR_cons h
  obtain ⟨c1, r1, rfl, k1, h⟩ := fitR_cons h
  obtain ⟨c2, r2, rfl, k2, h⟩ := fitR_cons h
  obtain rfl := fitR_nil h
  obtain ⟨x0, rfl, w0⟩ := fitC_int k0
  obtain ⟨x1, rfl, w1⟩ := fitC_int k1
  obtain ⟨x2, rfl, w2⟩ := fitC_int k2
  exact ⟨⟨x0, x1, x2⟩, rfl, ⟨w0, w1, w2, trivial⟩⟩
theorem Vrow.row_mine (v : Vrow) : CV.mineRow (Vrow.row v) := mine_cons mine_lit (mine_cons mine_lit (mine_cons mine_lit (mine_nil)))

structure Vtab where
  Rows : (List Vrow)
  Pvid : (List Int)
def Vtab.row (v : Vtab) : List CV := [.sl true 3 (v.Rows.map Vrow.row), .sl true 1 (v.Pvid.map intRow)]
def Vtab.wf (v : Vtab) : Prop := listWf Vrow.wf v.Rows ∧ listWf intWf v.Pvid ∧ True
theorem Vtab.enc : Enc Vtab [.sl 3 [.int .i64, .int .i64, .int .i64], .sl 1 [.int .i64]] Vtab.row Vtab.wf := fun cs h => by
  obtain ⟨c0, r0, rfl, k0, h⟩ := fitR_cons h
  obtain ⟨c1, r1, rfl, k1, h⟩ := fitR_cons h
  obtain rfl := fitR_nil h
  obtain ⟨x0, rfl, w0⟩ := Enc.sl Vrow.enc k0
  obtain ⟨x1, rfl, w1⟩ := Enc.sl encInt k1
  exact ⟨⟨x0, x1⟩, rfl, ⟨w0, w1, trivial⟩⟩
theorem Vtab.row_mine (v : Vtab) : CV.mineRow (Vtab.row v) := mine_cons (mine_sl (mine_map Vrow.row_mine _)) (mine_cons (mine_sl (mine_map intRow_mine _)) (mine_nil))

def laws_szVrowSF (n : Nat) (x0 : (List Vrow)) (x1 : Int) : Option (Int) :=
  (bif (decide ((IntKind.wrap .i64 (x1 - (x0.length : Int))) < 0)) then (some (-1)) else (some (IntKind.wrap .i64 (x1 - (x0.length : Int)))))
/-- loop.example/g00326/laws.szVrowS -/
theorem laws_szVrowS (n : Nat) (x0 : (List Vrow)) (x1 : Int) (r : Int) (H : laws_szVrowSF n x0 x1 = some r) : LCall Try.prog 56 [.val false [.sl false 3 (CV.frzEs (x0.map Vrow.row))], .val false [.lit (.int .i64 x1)]] [.val false [.lit (.int .i64 r)]] [] := by
  refine LCall.of_body tOk Try.func56 rfl (c := (.seq (.region 0 (rg Try.f56 0) false) (.seq (.region 1 (rg Try.f56 1) false) (.seq (.seq (.region 2 (rg Try.f56 2) false) (.cond (.tmp 10) (.seq (.region 3 (rg Try.f56 3) false) .ret) .skip)) (.seq (.region 4 (rg Try.f56 4) false) .ret))))) (by kernel_rfl) (Nat.le_of_ble_eq_true (by kernel_rfl)) 0 (rs := [.tmp 4]) rfl [] .nil [(false, [.lit (.int .i64 r)])] [] [] fun cx => ?_
  show Tr _ _ _ ⟨12, 0, [(0, .val false [.sl false 3 (CV.frzEs (x0.map Vrow.row))]), (1, .val false [.lit (.int .i64 x1)])], []⟩ _
  unfold laws_szVrowSF at H
  refine Tr.rs ?_
  refine LAt.run tOk 1 ⟨12, 0, [(4, .val false [.lit (.int .i64 0)]), (0, .val false [.sl false 3 (CV.frzEs (x0.map Vrow.row))]), (1, .val false [.lit (.int .i64 x1)])], []⟩ (by kernel_rfl) ?_
  refine LAt.done [4, 0, 1] [] ⟨12, 0, [(4, .val false [.lit (.int .i64 0)]), (0, .val false [.sl false 3 (CV.frzEs (x0.map Vrow.row))]), (1, .val false [.lit (.int .i64 x1)])], []⟩ (by kernel_rfl) (by kernel_rfl) ?_
  refine Tr.rs ?_
  refine LAt.run tOk 2 ⟨12, 0, [(6, .val false [.sl false 3 (CV.frzEs (x0.map Vrow.row))]), (5, .val false [.lit (.int .i64 x1)]), (4, .val false [.lit (.int .i64 0)]), (0, .val false [.sl false 3 (CV.frzEs (x0.map Vrow.row))]), (1, .val false [.lit (.int .i64 x1)])], []⟩ (by kernel_rfl) ?_
  refine LAt.lenE tOk (t := 32) (ty := 3) (e := 97) (x := (.tmp 6)) (d := 7) (g := none) ⟨(.slot 6), [], 0, false, 3, (CV.frzEs (x0.map Vrow.row))⟩ (x0).length ⟨12, 0, [(7, .val false [.lit (.int .i64 (x0.length : Int))]), (6, .val false [.sl false 3 (CV.frzEs (x0.map Vrow.row))]), (5, .val false [.lit (.int .i64 x1)]), (4, .val false [.lit (.int .i64 0)]), (0, .val false [.sl false 3 (CV.frzEs (x0.map Vrow.row))]), (1, .val false [.lit (.int .i64 x1)])], []⟩ (by kernel_rfl) (by kernel_rfl) (by kernel_rfl) (by kernel_rfl) (by kernel_rfl) (frz_len _ _) (by kernel_rfl) ?_
  refine LAt.run tOk 2 ⟨12, 0, [(1, .val false [.lit (.int .i64 (IntKind.wrap .i64 (x1 - (x0.length : Int))))]), (8, .val false [.lit (.int .i64 (IntKind.wrap .i64 (x1 - (x0.length : Int))))]), (7, .val false [.lit (.int .i64 (x0.length : Int))]), (6, .val false [.sl false 3 (CV.frzEs (x0.map Vrow.row))]), (5, .val false [.lit (.int .i64 x1)]), (4, .val false [.lit (.int .i64 0)]), (0, .val false [.sl false 3 (CV.frzEs (x0.map Vrow.row))])], []⟩ (by kernel_rfl) ?_
  refine LAt.done [1, 4] [] ⟨12, 0, [(1, .val false [.lit (.int .i64 (IntKind.wrap .i64 (x1 - (x0.length : Int))))]), (4, .val false [.lit (.int .i64 0)])], []⟩ (by kernel_rfl) (by kernel_rfl) ?_
  refine Tr.seq ?_
  refine Tr.rs ?_
  refine LAt.run tOk 2 ⟨12, 0, [(10, .val false [.lit (.bool (decide ((IntKind.wrap .i64 (x1 - (x0.length : Int))) < 0)))]), (9, .val false [.lit (.int .i64 (IntKind.wrap .i64 (x1 - (x0.length : Int))))]), (1, .val false [.lit (.int .i64 (IntKind.wrap .i64 (x1 - (x0.length : Int))))]), (4, .val false [.lit (.int .i64 0)])], []⟩ (by kernel_rfl) ?_
  refine LAt.done [10, 1, 4] [] ⟨12, 0, [(10, .val false [.lit (.bool (decide ((IntKind.wrap .i64 (x1 - (x0.length : Int))) < 0)))]), (1, .val false [.lit (.int .i64 (IntKind.wrap .i64 (x1 - (x0.length : Int))))]), (4, .val false [.lit (.int .i64 0)])], []⟩ (by kernel_rfl) (by kernel_rfl) ?_
  cases h1 : (decide ((IntKind.wrap .i64 (x1 - (x0.length : Int))) < 0))
  · rw [h1, cond_false] at H
    refine Tr.cond (b := false) (by kernel_rfl) (fun h => nomatch h) (fun _ => ?_)
    refine Tr.skip ?_
    show Tr _ _ _ _ _
    refine Tr.rs ?_
    refine LAt.run tOk 2 ⟨12, 0, [(4, .val false [.lit (.int .i64 (IntKind.wrap .i64 (x1 - (x0.length : Int))))]), (11, .val false [.lit (.int .i64 (IntKind.wrap .i64 (x1 - (x0.length : Int))))]), (10, .val false [.lit (.bool false)]), (1, .val false [.lit (.int .i64 (IntKind.wrap .i64 (x1 - (x0.length : Int))))])], []⟩ (by kernel_rfl) ?_
    refine LAt.done [4] [] ⟨12, 0, [(4, .val false [.lit (.int .i64 (IntKind.wrap .i64 (x1 - (x0.length : Int))))])], []⟩ (by kernel_rfl) (by kernel_rfl) ?_
    refine Tr.ret ?_
    have H := Option.some.inj H
    subst H
    exact Fin.of _ [(false, [.lit (.int .i64 (IntKind.wrap .i64 (x1 - (x0.length : Int))))])] (by kernel_rfl) rfl rfl
  · rw [h1, cond_true] at H
    refine Tr.cond (b := true) (by kernel_rfl) (fun _ => ?_) (fun h => nomatch h)
    refine Tr.rs ?_
    refine LAt.run tOk 1 ⟨12, 0, [(4, .val false [.lit (.int .i64 (-1))]), (10, .val false [.lit (.bool true)]), (1, .val false [.lit (.int .i64 (IntKind.wrap .i64 (x1 - (x0.length : Int))))])], []⟩ (by kernel_rfl) ?_
    refine LAt.done [4, 1] [] ⟨12, 0, [(4, .val false [.lit (.int .i64 (-1))]), (1, .val false [.lit (.int .i64 (IntKind.wrap .i64 (x1 - (x0.length : Int))))])], []⟩ (by kernel_rfl) (by kernel_rfl) ?_
    refine Tr.ret ?_
    have H := Option.some.inj H
    subst H
    exact Fin.of _ [(false, [.lit (.int .i64 (-1))])] (by kernel_rfl) rfl rfl

def laws_szIntSF (n : Nat) (x0 : (List Int)) (x1 : Int) : Option (Int) :=
  (bif (decide ((IntKind.wrap .i64 (x1 - (x0.length : Int))) < 0)) then (some (-1)) else (some (IntKind.wrap .i64 (x1 - (x0.length : Int)))))
/-- loop.example/g00326/laws.szIntS -/
theorem laws_szIntS (n : Nat) (x0 : (List Int)) (x1 : Int) (r : Int) (H : laws_szIntSF n x0 x1 = some r) : LCall Try.prog 57 [.val false [.sl false 1 (CV.frzEs (x0.map intRow))], .val false [.lit (.int .i64 x1)]] [.val false [.lit (.int .i64 r)]] [] := by
  refine LCall.of_body tOk Try.func57 rfl (c := (.seq (.region 0 (rg Try.f57 0) false) (.seq (.region 1 (rg Try.f57 1) false) (.seq (.seq (.region 2 (rg Try.f57 2) false) (.cond (.tmp 10) (.seq (.region 3 (rg Try.f57 3) false) .ret) .skip)) (.seq (.region 4 (rg Try.f57 4) false) .ret))))) (by kernel_rfl) (Nat.le_of_ble_eq_true (by kernel_rfl)) 0 (rs := [.tmp 4]) rfl [] .nil [(false, [.lit (.int .i64 r)])] [] [] fun cx => ?_
  show Tr _ _ _ ⟨12, 0, [(0, .val false [.sl false 1 (CV.frzEs (x0.map intRow))]), (1, .val false [.lit (.int .i64 x1)])], []⟩ _
  unfold laws_szIntSF at H
  refine Tr.rs ?_
  refine LAt.run tOk 1 ⟨12, 0, [(4, .val false [.lit (.int .i64 0)]), (0, .val false [.sl false 1 (CV.frzEs (x0.map intRow))]), (1, .val false [.lit (.int .i64 x1)])], []⟩ (by kernel_rfl) ?_
  refine LAt.done [4, 0, 1] [] ⟨12, 0, [(4, .val false [.lit (.int .i64 0)]), (0, .val false [.sl false 1 (CV.frzEs (x0.map intRow))]), (1, .val false [.lit (.int .i64 x1)])], []⟩ (by kernel_rfl) (by kernel_rfl) ?_
  refine Tr.rs ?_
  refine LAt.run tOk 2 ⟨12, 0, [(6, .val false [.sl false 1 (CV.frzEs (x0.map intRow))]), (5, .val false [.lit (.int .i64 x1)]), (4, .val false [.lit (.int .i64 0)]), (0, .val false [.sl false 1 (CV.frzEs (x0.map intRow))]), (1, .val false [.lit (.int .i64 x1)])], []⟩ (by kernel_rfl) ?_
  refine LAt.lenE tOk (t := 33) (ty := 3) (e := 3) (x := (.tmp 6)) (d := 7) (g := none) ⟨(.slot 6), [], 0, false, 1, (CV.frzEs (x0.map intRow))⟩ (x0).length ⟨12, 0, [(7, .val false [.lit (.int .i64 (x0.length : Int))]), (6, .val false [.sl false 1 (CV.frzEs (x0.map intRow))]), (5, .val false [.lit (.int .i64 x1)]), (4, .val false [.lit (.int .i64 0)]), (0, .val false [.sl false 1 (CV.frzEs (x0.map intRow))]), (1, .val false [.lit (.int .i64 x1)])], []⟩ (by kernel_rfl) (by kernel_rfl) (by kernel_rfl) (by kernel_rfl) (by kernel_rfl) (frz_len _ _) (by kernel_rfl) ?_
  refine LAt.run tOk 2 ⟨12, 0, [(1, .val false [.lit (.int .i64 (IntKind.wrap .i64 (x1 - (x0.length : Int))))]), (8, .val false [.lit (.int .i64 (IntKind.wrap .i64 (x1 - (x0.length : Int))))]), (7, .val false [.lit (.int .i64 (x0.length : Int))]), (6, .val false [.sl false 1 (CV.frzEs (x0.map intRow))]), (5, .val false [.lit (.int .i64 x1)]), (4, .val false [.lit (.int .i64 0)]), (0, .val false [.sl false 1 (CV.frzEs (x0.map intRow))])], []⟩ (by kernel_rfl) ?_
  refine LAt.done [1, 4] [] ⟨12, 0, [(1, .val false [.lit (.int .i64 (IntKind.wrap .i64 (x1 - (x0.length : Int))))]), (4, .val false [.lit (.int .i64 0)])], []⟩ (by kernel_rfl) (by kernel_rfl) ?_
  refine Tr.seq ?_
  refine Tr.rs ?_
  refine LAt.run tOk 2 ⟨12, 0, [(10, .val false [.lit (.bool (decide ((IntKind.wrap .i64 (x1 - (x0.length : Int))) < 0)))]), (9, .val false [.lit (.int .i64 (IntKind.wrap .i64 (x1 - (x0.length : Int))))]), (1, .val false [.lit (.int .i64 (IntKind.wrap .i64 (x1 - (x0.length : Int))))]), (4, .val false [.lit (.int .i64 0)])], []⟩ (by kernel_rfl) ?_
  refine LAt.done [10, 1, 4] [] ⟨12, 0, [(10, .val false [.lit (.bool (decide ((IntKind.wrap .i64 (x1 - (x0.length : Int))) < 0)))]), (1, .val false [.lit (.int .i64 (IntKind.wrap .i64 (x1 - (x0.length : Int))))]), (4, .val false [.lit (.int .i64 0)])], []⟩ (by kernel_rfl) (by kernel_rfl) ?_
  cases h1 : (decide ((IntKind.wrap .i64 (x1 - (x0.length : Int))) < 0))
  · rw [h1, cond_false] at H
    refine Tr.cond (b := false) (by kernel_rfl) (fun h => nomatch h) (fun _ => ?_)
    refine Tr.skip ?_
    show Tr _ _ _ _ _
    refine Tr.rs ?_
    refine LAt.run tOk 2 ⟨12, 0, [(4, .val false [.lit (.int .i64 (IntKind.wrap .i64 (x1 - (x0.length : Int))))]), (11, .val false [.lit (.int .i64 (IntKind.wrap .i64 (x1 - (x0.length : Int))))]), (10, .val false [.lit (.bool false)]), (1, .val false [.lit (.int .i64 (IntKind.wrap .i64 (x1 - (x0.length : Int))))])], []⟩ (by kernel_rfl) ?_
    refine LAt.done [4] [] ⟨12, 0, [(4, .val false [.lit (.int .i64 (IntKind.wrap .i64 (x1 - (x0.length : Int))))])], []⟩ (by kernel_rfl) (by kernel_rfl) ?_
    refine Tr.ret ?_
    have H := Option.some.inj H
    subst H
    exact Fin.of _ [(false, [.lit (.int .i64 (IntKind.wrap .i64 (x1 - (x0.length : Int))))])] (by kernel_rfl) rfl rfl
  · rw [h1, cond_true] at H
    refine Tr.cond (b := true) (by kernel_rfl) (fun _ => ?_) (fun h => nomatch h)
    refine Tr.rs ?_
    refine LAt.run tOk 1 ⟨12, 0, [(4, .val false [.lit (.int .i64 (-1))]), (10, .val false [.lit (.bool true)]), (1, .val false [.lit (.int .i64 (IntKind.wrap .i64 (x1 - (x0.length : Int))))])], []⟩ (by kernel_rfl) ?_
    refine LAt.done [4, 1] [] ⟨12, 0, [(4, .val false [.lit (.int .i64 (-1))]), (1, .val false [.lit (.int .i64 (IntKind.wrap .i64 (x1 - (x0.length : Int))))])], []⟩ (by kernel_rfl) (by kernel_rfl) ?_
    refine Tr.ret ?_
    have H := Option.some.inj H
    subst H
    exact Fin.of _ [(false, [.lit (.int .i64 (-1))])] (by kernel_rfl) rfl rfl

def laws_szVtabF (n : Nat) (x0 : Vtab) (x1 : Int) : Option (Int) :=
  ((laws_szVrowSF n x0.Rows x1).bind fun r1 => (bif (decide (r1 < 0)) then (some (-1)) else ((laws_szIntSF n x0.Pvid r1).bind fun r2 => (bif (decide (r2 < 0)) then (some (-1)) else (some r2)))))
/-- loop.example/g00326/laws.szVtab -/
theorem laws_szVtab (n : Nat) (x0 : Vtab) (x1 : Int) (r : Int) (H : laws_szVtabF n x0 x1 = some r) : LCall Try.prog 17 [.val true (CV.frzRow (Vtab.row x0)), .val false [.lit (.int .i64 x1)]] [.val false [.lit (.int .i64 r)]] [] := by
  refine LCall.of_body tOk Try.func17 rfl (c := (.seq (.region 0 (rg Try.f17 0) false) (.seq (.region 1 (rg Try.f17 1) false) (.seq (.seq (.region 2 (rg Try.f17 2) false) (.cond (.tmp 10) (.seq (.region 3 (rg Try.f17 3) false) .ret) .skip)) (.seq (.region 4 (rg Try.f17 4) false) (.seq (.seq (.region 5 (rg Try.f17 5) false) (.cond (.tmp 16) (.seq (.region 6 (rg Try.f17 6) false) .ret) .skip)) (.seq (.region 7 (rg Try.f17 7) false) .ret))))))) (by kernel_rfl) (Nat.le_of_ble_eq_true (by kernel_rfl)) 0 (rs := [.tmp 4]) rfl [] .nil [(false, [.lit (.int .i64 r)])] [] [] fun cx => ?_
  show Tr _ _ _ ⟨18, 0, [(0, .val true [.sl false 3 (CV.frzEs (x0.Rows.map Vrow.row)), .sl false 1 (CV.frzEs (x0.Pvid.map intRow))]), (1, .val false [.lit (.int .i64 x1)])], []⟩ _
  unfold laws_szVtabF at H
  refine Tr.rs ?_
  refine LAt.run tOk 2 ⟨18, 0, [(4, .val false [.lit (.int .i64 0)]), (2, .adr (.box 2) [(0, 0)] 2 0), (0, .val true [.sl false 3 (CV.frzEs (x0.Rows.map Vrow.row)), .sl false 1 (CV.frzEs (x0.Pvid.map intRow))]), (1, .val false [.lit (.int .i64 x1)])], [(2, [.sl false 3 (CV.frzEs (x0.Rows.map Vrow.row)), .sl false 1 (CV.frzEs (x0.Pvid.map intRow))])]⟩ (by kernel_rfl) ?_
  refine LAt.done [4, 2, 1] [2] ⟨18, 0, [(4, .val false [.lit (.int .i64 0)]), (2, .adr (.box 2) [(0, 0)] 2 0), (1, .val false [.lit (.int .i64 x1)])], [(2, [.sl false 3 (CV.frzEs (x0.Rows.map Vrow.row)), .sl false 1 (CV.frzEs (x0.Pvid.map intRow))])]⟩ (by kernel_rfl) (by kernel_rfl) ?_
  refine Tr.rs ?_
  refine LAt.run tOk 3 ⟨18, 0, [(7, .val false [.lit (.int .i64 x1)]), (6, .val false [.sl false 3 (CV.frzEs (x0.Rows.map Vrow.row))]), (5, .adr (.box 2) [(0, 0)] 2 0), (4, .val false [.lit (.int .i64 0)]), (2, .adr (.box 2) [(0, 0)] 2 0), (1, .val false [.lit (.int .i64 x1)])], [(2, [.sl false 3 (CV.frzEs (x0.Rows.map Vrow.row)), .sl false 1 (CV.frzEs (x0.Pvid.map intRow))])]⟩ (by kernel_rfl) ?_
  obtain ⟨r1, er1, H⟩ := bind_some H
  refine LAt.callP tOk [.rd, .rd] (f := 56) (av := #[.tmp 6, .tmp 7]) (ats := #[32, 3]) (d := (some 8)) (ty := 3) (g := none) (by kernel_rfl) (by kernel_rfl) (by kernel_rfl) [] ⟨18, 0, [(8, .val false [.lit (.int .i64 r1)]), (7, .val false [.lit (.int .i64 x1)]), (6, .val false [.sl false 3 (CV.frzEs (x0.Rows.map Vrow.row))]), (5, .adr (.box 2) [(0, 0)] 2 0), (4, .val false [.lit (.int .i64 0)]), (2, .adr (.box 2) [(0, 0)] 2 0), (1, .val false [.lit (.int .i64 x1)])], [(2, [.sl false 3 (CV.frzEs (x0.Rows.map Vrow.row)), .sl false 1 (CV.frzEs (x0.Pvid.map intRow))])]⟩ ⟨18, 0, [(8, .val false [.lit (.int .i64 r1)]), (7, .val false [.lit (.int .i64 x1)]), (6, .val false [.sl false 3 (CV.frzEs (x0.Rows.map Vrow.row))]), (5, .adr (.box 2) [(0, 0)] 2 0), (4, .val false [.lit (.int .i64 0)]), (2, .adr (.box 2) [(0, 0)] 2 0), (1, .val false [.lit (.int .i64 x1)])], [(2, [.sl false 3 (CV.frzEs (x0.Rows.map Vrow.row)), .sl false 1 (CV.frzEs (x0.Pvid.map intRow))])]⟩ (laws_szVrowS n x0.Rows x1 r1 er1) (by kernel_rfl) (.inl rfl) rfl ?_
  refine LAt.run tOk 1 ⟨18, 0, [(1, .val false [.lit (.int .i64 r1)]), (8, .val false [.lit (.int .i64 r1)]), (7, .val false [.lit (.int .i64 x1)]), (6, .val false [.sl false 3 (CV.frzEs (x0.Rows.map Vrow.row))]), (5, .adr (.box 2) [(0, 0)] 2 0), (4, .val false [.lit (.int .i64 0)]), (2, .adr (.box 2) [(0, 0)] 2 0)], [(2, [.sl false 3 (CV.frzEs (x0.Rows.map Vrow.row)), .sl false 1 (CV.frzEs (x0.Pvid.map intRow))])]⟩ (by kernel_rfl) ?_
  refine LAt.done [1, 4, 2] [2] ⟨18, 0, [(1, .val false [.lit (.int .i64 r1)]), (4, .val false [.lit (.int .i64 0)]), (2, .adr (.box 2) [(0, 0)] 2 0)], [(2, [.sl false 3 (CV.frzEs (x0.Rows.map Vrow.row)), .sl false 1 (CV.frzEs (x0.Pvid.map intRow))])]⟩ (by kernel_rfl) (by kernel_rfl) ?_
  refine Tr.seq ?_
  refine Tr.rs ?_
  refine LAt.run tOk 2 ⟨18, 0, [(10, .val false [.lit (.bool (decide (r1 < 0)))]), (9, .val false [.lit (.int .i64 r1)]), (1, .val false [.lit (.int .i64 r1)]), (4, .val false [.lit (.int .i64 0)]), (2, .adr (.box 2) [(0, 0)] 2 0)], [(2, [.sl false 3 (CV.frzEs (x0.Rows.map Vrow.row)), .sl false 1 (CV.frzEs (x0.Pvid.map intRow))])]⟩ (by kernel_rfl) ?_
  refine LAt.done [10, 1, 4, 2] [2] ⟨18, 0, [(10, .val false [.lit (.bool (decide (r1 < 0)))]), (1, .val false [.lit (.int .i64 r1)]), (4, .val false [.lit (.int .i64 0)]), (2, .adr (.box 2) [(0, 0)] 2 0)], [(2, [.sl false 3 (CV.frzEs (x0.Rows.map Vrow.row)), .sl false 1 (CV.frzEs (x0.Pvid.map intRow))])]⟩ (by kernel_rfl) (by kernel_rfl) ?_
  cases h1 : (decide (r1 < 0))
  · rw [h1, cond_false] at H
    refine Tr.cond (b := false) (by kernel_rfl) (fun h => nomatch h) (fun _ => ?_)
    refine Tr.skip ?_
    show Tr _ _ _ _ _
    refine Tr.rs ?_
    refine LAt.run tOk 3 ⟨18, 0, [(13, .val false [.lit (.int .i64 r1)]), (12, .val false [.sl false 1 (CV.frzEs (x0.Pvid.map intRow))]), (11, .adr (.box 2) [(0, 0)] 2 1), (10, .val false [.lit (.bool false)]), (1, .val false [.lit (.int .i64 r1)]), (4, .val false [.lit (.int .i64 0)]), (2, .adr (.box 2) [(0, 0)] 2 0)], [(2, [.sl false 3 (CV.frzEs (x0.Rows.map Vrow.row)), .sl false 1 (CV.frzEs (x0.Pvid.map intRow))])]⟩ (by kernel_rfl) ?_
    obtain ⟨r2, er2, H⟩ := bind_some H
    refine LAt.callP tOk [.rd, .rd] (f := 57) (av := #[.tmp 12, .tmp 13]) (ats := #[33, 3]) (d := (some 14)) (ty := 3) (g := none) (by kernel_rfl) (by kernel_rfl) (by kernel_rfl) [] ⟨18, 0, [(14, .val false [.lit (.int .i64 r2)]), (13, .val false [.lit (.int .i64 r1)]), (12, .val false [.sl false 1 (CV.frzEs (x0.Pvid.map intRow))]), (11, .adr (.box 2) [(0, 0)] 2 1), (10, .val false [.lit (.bool false)]), (1, .val false [.lit (.int .i64 r1)]), (4, .val false [.lit (.int .i64 0)]), (2, .adr (.box 2) [(0, 0)] 2 0)], [(2, [.sl false 3 (CV.frzEs (x0.Rows.map Vrow.row)), .sl false 1 (CV.frzEs (x0.Pvid.map intRow))])]⟩ ⟨18, 0, [(14, .val false [.lit (.int .i64 r2)]), (13, .val false [.lit (.int .i64 r1)]), (12, .val false [.sl false 1 (CV.frzEs (x0.Pvid.map intRow))]), (11, .adr (.box 2) [(0, 0)] 2 1), (10, .val false [.lit (.bool false)]), (1, .val false [.lit (.int .i64 r1)]), (4, .val false [.lit (.int .i64 0)]), (2, .adr (.box 2) [(0, 0)] 2 0)], [(2, [.sl false 3 (CV.frzEs (x0.Rows.map Vrow.row)), .sl false 1 (CV.frzEs (x0.Pvid.map intRow))])]⟩ (laws_szIntS n x0.Pvid r1 r2 er2) (by kernel_rfl) (.inl rfl) rfl ?_
    refine LAt.run tOk 1 ⟨18, 0, [(1, .val false [.lit (.int .i64 r2)]), (14, .val false [.lit (.int .i64 r2)]), (13, .val false [.lit (.int .i64 r1)]), (12, .val false [.sl false 1 (CV.frzEs (x0.Pvid.map intRow))]), (11, .adr (.box 2) [(0, 0)] 2 1), (10, .val false [.lit (.bool false)]), (4, .val false [.lit (.int .i64 0)]), (2, .adr (.box 2) [(0, 0)] 2 0)], [(2, [.sl false 3 (CV.frzEs (x0.Rows.map Vrow.row)), .sl false 1 (CV.frzEs (x0.Pvid.map intRow))])]⟩ (by kernel_rfl) ?_
    refine LAt.done [1, 4] [] ⟨18, 0, [(1, .val false [.lit (.int .i64 r2)]), (4, .val false [.lit (.int .i64 0)])], []⟩ (by kernel_rfl) (by kernel_rfl) ?_
    refine Tr.seq ?_
    refine Tr.rs ?_
    refine LAt.run tOk 2 ⟨18, 0, [(16, .val false [.lit (.bool (decide (r2 < 0)))]), (15, .val false [.lit (.int .i64 r2)]), (1, .val false [.lit (.int .i64 r2)]), (4, .val false [.lit (.int .i64 0)])], []⟩ (by kernel_rfl) ?_
    refine LAt.done [16, 1, 4] [] ⟨18, 0, [(16, .val false [.lit (.bool (decide (r2 < 0)))]), (1, .val false [.lit (.int .i64 r2)]), (4, .val false [.lit (.int .i64 0)])], []⟩ (by kernel_rfl) (by kernel_rfl) ?_
    cases h2 : (decide (r2 < 0))
    · rw [h2, cond_false] at H
      refine Tr.cond (b := false) (by kernel_rfl) (fun h => nomatch h) (fun _ => ?_)
      refine Tr.skip ?_
      show Tr _ _ _ _ _
      refine Tr.rs ?_
      refine LAt.run tOk 2 ⟨18, 0, [(4, .val false [.lit (.int .i64 r2)]), (17, .val false [.lit (.int .i64 r2)]), (16, .val false [.lit (.bool false)]), (1, .val false [.lit (.int .i64 r2)])], []⟩ (by kernel_rfl) ?_
      refine LAt.done [4] [] ⟨18, 0, [(4, .val false [.lit (.int .i64 r2)])], []⟩ (by kernel_rfl) (by kernel_rfl) ?_
      refine Tr.ret ?_
      have H := Option.some.inj H
      subst H
      exact Fin.of _ [(false, [.lit (.int .i64 r2)])] (by kernel_rfl) rfl rfl
    · rw [h2, cond_true] at H
      refine Tr.cond (b := true) (by kernel_rfl) (fun _ => ?_) (fun h => nomatch h)
      refine Tr.rs ?_
      refine LAt.run tOk 1 ⟨18, 0, [(4, .val false [.lit (.int .i64 (-1))]), (16, .val false [.lit (.bool true)]), (1, .val false [.lit (.int .i64 r2)])], []⟩ (by kernel_rfl) ?_
      refine LAt.done [4, 1] [] ⟨18, 0, [(4, .val false [.lit (.int .i64 (-1))]), (1, .val false [.lit (.int .i64 r2)])], []⟩ (by kernel_rfl) (by kernel_rfl) ?_
      refine Tr.ret ?_
      have H := Option.some.inj H
      subst H
      exact Fin.of _ [(false, [.lit (.int .i64 (-1))])] (by kernel_rfl) rfl rfl
  · rw [h1, cond_true] at H
    refine Tr.cond (b := true) (by kernel_rfl) (fun _ => ?_) (fun h => nomatch h)
    refine Tr.rs ?_
    refine LAt.run tOk 1 ⟨18, 0, [(4, .val false [.lit (.int .i64 (-1))]), (10, .val false [.lit (.bool true)]), (1, .val false [.lit (.int .i64 r1)]), (2, .adr (.box 2) [(0, 0)] 2 0)], [(2, [.sl false 3 (CV.frzEs (x0.Rows.map Vrow.row)), .sl false 1 (CV.frzEs (x0.Pvid.map intRow))])]⟩ (by kernel_rfl) ?_
    refine LAt.done [4, 1, 2] [2] ⟨18, 0, [(4, .val false [.lit (.int .i64 (-1))]), (1, .val false [.lit (.int .i64 r1)]), (2, .adr (.box 2) [(0, 0)] 2 0)], [(2, [.sl false 3 (CV.frzEs (x0.Rows.map Vrow.row)), .sl false 1 (CV.frzEs (x0.Pvid.map intRow))])]⟩ (by kernel_rfl) (by kernel_rfl) ?_
    refine Tr.ret ?_
    have H := Option.some.inj H
    subst H
    exact Fin.of _ [(false, [.lit (.int .i64 (-1))])] (by kernel_rfl) rfl rfl

def laws_toVrowF (n : Nat) (x0 : Vrow) : Option (Vrow) :=
  (some x0)
/-- loop.example/g00326/laws.toVrow -/
theorem laws_toVrow (n : Nat) (x0 : Vrow) (r : Vrow) (H : laws_toVrowF n x0 = some r) : LCall Try.prog 81 [.val true (CV.frzRow (Vrow.row x0))] [.val true (Vrow.row r)] [] := by
  refine LCall.of_body tOk Try.func81 rfl (c := (.seq (.region 0 (rg Try.f81 0) false) (.seq (.region 1 (rg Try.f81 1) false) (.seq (.region 2 (rg Try.f81 2) false) (.seq (.region 3 (rg Try.f81 3) false) (.seq (.region 4 (rg Try.f81 4) false) (.seq (.region 5 (rg Try.f81 5) false) .ret))))))) (by kernel_rfl) (Nat.le_of_ble_eq_true (by kernel_rfl)) 0 (rs := [.cell 2 81]) rfl [] .nil [(true, (Vrow.row r))] [] [] fun cx => ?_
  show Tr _ _ _ ⟨14, 0, [(0, .val true [.lit (.int .i64 x0.Id), .lit (.int .i64 x0.Members), .lit (.int .i64 x0.Bare)])], []⟩ _
  unfold laws_toVrowF at H
  refine Tr.rs ?_
  refine LAt.run tOk 2 ⟨14, 0, [(2, .adr (.box 2) [(0, 0)] 3 0), (1, .adr (.box 1) [(0, 0)] 3 0), (0, .val true [.lit (.int .i64 x0.Id), .lit (.int .i64 x0.Members), .lit (.int .i64 x0.Bare)])], [(2, [.lit (.int .i64 0), .lit (.int .i64 0), .lit (.int .i64 0)]), (1, [.lit (.int .i64 x0.Id), .lit (.int .i64 x0.Members), .lit (.int .i64 x0.Bare)])]⟩ (by kernel_rfl) ?_
  refine LAt.done [2, 1] [2, 1] ⟨14, 0, [(2, .adr (.box 2) [(0, 0)] 3 0), (1, .adr (.box 1) [(0, 0)] 3 0)], [(2, [.lit (.int .i64 0), .lit (.int .i64 0), .lit (.int .i64 0)]), (1, [.lit (.int .i64 x0.Id), .lit (.int .i64 x0.Members), .lit (.int .i64 x0.Bare)])]⟩ (by kernel_rfl) (by kernel_rfl) ?_
  refine Tr.rs ?_
  refine LAt.run tOk 1 ⟨14, 0, [(3, .adr (.box 3) [(0, 0)] 3 0), (2, .adr (.box 2) [(0, 0)] 3 0), (1, .adr (.box 1) [(0, 0)] 3 0)], [(3, [.lit (.int .i64 0), .lit (.int .i64 0), .lit (.int .i64 0)]), (2, [.lit (.int .i64 0), .lit (.int .i64 0), .lit (.int .i64 0)]), (1, [.lit (.int .i64 x0.Id), .lit (.int .i64 x0.Members), .lit (.int .i64 x0.Bare)])]⟩ (by kernel_rfl) ?_
  refine LAt.done [3, 2, 1] [3, 2, 1] ⟨14, 0, [(3, .adr (.box 3) [(0, 0)] 3 0), (2, .adr (.box 2) [(0, 0)] 3 0), (1, .adr (.box 1) [(0, 0)] 3 0)], [(3, [.lit (.int .i64 0), .lit (.int .i64 0), .lit (.int .i64 0)]), (2, [.lit (.int .i64 0), .lit (.int .i64 0), .lit (.int .i64 0)]), (1, [.lit (.int .i64 x0.Id), .lit (.int .i64 x0.Members), .lit (.int .i64 x0.Bare)])]⟩ (by kernel_rfl) (by kernel_rfl) ?_
  refine Tr.rs ?_
  refine LAt.run tOk 4 ⟨14, 0, [(6, .adr (.box 3) [(0, 0)] 3 0), (5, .val false [.lit (.int .i64 x0.Id)]), (4, .adr (.box 1) [(0, 0)] 3 0), (3, .adr (.box 3) [(0, 0)] 3 0), (2, .adr (.box 2) [(0, 0)] 3 0), (1, .adr (.box 1) [(0, 0)] 3 0)], [(3, [.lit (.int .i64 x0.Id), .lit (.int .i64 0), .lit (.int .i64 0)]), (2, [.lit (.int .i64 0), .lit (.int .i64 0), .lit (.int .i64 0)]), (1, [.lit (.int .i64 x0.Id), .lit (.int .i64 x0.Members), .lit (.int .i64 x0.Bare)])]⟩ (by kernel_rfl) ?_
  refine LAt.done [3, 2, 1] [3, 2, 1] ⟨14, 0, [(3, .adr (.box 3) [(0, 0)] 3 0), (2, .adr (.box 2) [(0, 0)] 3 0), (1, .adr (.box 1) [(0, 0)] 3 0)], [(3, [.lit (.int .i64 x0.Id), .lit (.int .i64 0), .lit (.int .i64 0)]), (2, [.lit (.int .i64 0), .lit (.int .i64 0), .lit (.int .i64 0)]), (1, [.lit (.int .i64 x0.Id), .lit (.int .i64 x0.Members), .lit (.int .i64 x0.Bare)])]⟩ (by kernel_rfl) (by kernel_rfl) ?_
  refine Tr.rs ?_
  refine LAt.run tOk 4 ⟨14, 0, [(9, .adr (.box 3) [(0, 0)] 3 1), (8, .val false [.lit (.int .i64 x0.Members)]), (7, .adr (.box 1) [(0, 0)] 3 1), (3, .adr (.box 3) [(0, 0)] 3 0), (2, .adr (.box 2) [(0, 0)] 3 0), (1, .adr (.box 1) [(0, 0)] 3 0)], [(3, [.lit (.int .i64 x0.Id), .lit (.int .i64 x0.Members), .lit (.int .i64 0)]), (2, [.lit (.int .i64 0), .lit (.int .i64 0), .lit (.int .i64 0)]), (1, [.lit (.int .i64 x0.Id), .lit (.int .i64 x0.Members), .lit (.int .i64 x0.Bare)])]⟩ (by kernel_rfl) ?_
  refine LAt.done [3, 2, 1] [3, 2, 1] ⟨14, 0, [(3, .adr (.box 3) [(0, 0)] 3 0), (2, .adr (.box 2) [(0, 0)] 3 0), (1, .adr (.box 1) [(0, 0)] 3 0)], [(3, [.lit (.int .i64 x0.Id), .lit (.int .i64 x0.Members), .lit (.int .i64 0)]), (2, [.lit (.int .i64 0), .lit (.int .i64 0), .lit (.int .i64 0)]), (1, [.lit (.int .i64 x0.Id), .lit (.int .i64 x0.Members), .lit (.int .i64 x0.Bare)])]⟩ (by kernel_rfl) (by kernel_rfl) ?_
  refine Tr.rs ?_
  refine LAt.run tOk 4 ⟨14, 0, [(12, .adr (.box 3) [(0, 0)] 3 2), (11, .val false [.lit (.int .i64 x0.Bare)]), (10, .adr (.box 1) [(0, 0)] 3 2), (3, .adr (.box 3) [(0, 0)] 3 0), (2, .adr (.box 2) [(0, 0)] 3 0), (1, .adr (.box 1) [(0, 0)] 3 0)], [(3, [.lit (.int .i64 x0.Id), .lit (.int .i64 x0.Members), .lit (.int .i64 x0.Bare)]), (2, [.lit (.int .i64 0), .lit (.int .i64 0), .lit (.int .i64 0)]), (1, [.lit (.int .i64 x0.Id), .lit (.int .i64 x0.Members), .lit (.int .i64 x0.Bare)])]⟩ (by kernel_rfl) ?_
  refine LAt.done [3, 2] [3, 2] ⟨14, 0, [(3, .adr (.box 3) [(0, 0)] 3 0), (2, .adr (.box 2) [(0, 0)] 3 0)], [(3, [.lit (.int .i64 x0.Id), .lit (.int .i64 x0.Members), .lit (.int .i64 x0.Bare)]), (2, [.lit (.int .i64 0), .lit (.int .i64 0), .lit (.int .i64 0)])]⟩ (by kernel_rfl) (by kernel_rfl) ?_
  refine Tr.rs ?_
  refine LAt.run tOk 2 ⟨14, 0, [(13, .val true [.lit (.int .i64 x0.Id), .lit (.int .i64 x0.Members), .lit (.int .i64 x0.Bare)]), (3, .adr (.box 3) [(0, 0)] 3 0), (2, .adr (.box 2) [(0, 0)] 3 0)], [(2, [.lit (.int .i64 x0.Id), .lit (.int .i64 x0.Members), .lit (.int .i64 x0.Bare)]), (3, [.lit (.int .i64 x0.Id), .lit (.int .i64 x0.Members), .lit (.int .i64 x0.Bare)])]⟩ (by kernel_rfl) ?_
  refine LAt.done [2] [2] ⟨14, 0, [(2, .adr (.box 2) [(0, 0)] 3 0)], [(2, [.lit (.int .i64 x0.Id), .lit (.int .i64 x0.Members), .lit (.int .i64 x0.Bare)])]⟩ (by kernel_rfl) (by kernel_rfl) ?_
  refine Tr.ret ?_
  have H := Option.some.inj H
  subst H
  exact Fin.of _ [(true, [.lit (.int .i64 x0.Id), .lit (.int .i64 x0.Members), .lit (.int .i64 x0.Bare)])] (by kernel_rfl) rfl rfl

def laws_toVrowS_L1 (n : Nat) : Nat → (List Vrow) → Int → (List Vrow) → Option ((Int × (List Vrow)) ⊕ ((List Vrow)))
  | 0, _, _, _ => none
  | mo4 + 1, x0, y2, y3 => (bif (decide (y2 < (x0.length : Int))) then ((idx x0 y2).bind fun v5 => ((laws_toVrowF n v5).bind fun r6 => ((idx y3 y2).bind fun v7 => (laws_toVrowS_L1 n mo4 x0 (IntKind.wrap .i64 (y2 + 1)) (y3.set (y2.toNat) r6))))) else (some (Sum.inl (y2, y3))))
def laws_toVrowSF (n : Nat) (x0 : (List Vrow)) : Option ((List Vrow)) :=
  (bif (decide (0 ≤ (x0.length : Int)) && decide ((x0.length : Int) ≤ 268435456)) then ((laws_toVrowS_L1 n n x0 0 (List.replicate ((x0.length : Int)).toNat (⟨0, 0, 0⟩ : Vrow))).bind fun o => match o with | .inl (y2, y3) => (some y3) | .inr r => some r) else none)
/-- loop.example/g00326/laws.toVrowS -/
theorem laws_toVrowS (n : Nat) (x0 : (List Vrow)) (r : (List Vrow)) (H : laws_toVrowSF n x0 = some r) : LCall Try.prog 59 [.val false [.sl false 3 (CV.frzEs (x0.map Vrow.row))]] [.val false [.sl true 3 (r.map Vrow.row)]] [] := by
  refine LCall.of_body tOk Try.func59 rfl (c := (.seq (.region 0 (rg Try.f59 0) false) (.seq (.region 1 (rg Try.f59 1) false) (.seq (.seq (.region 2 (rg Try.f59 2) false) (.block 0 (.loop (.seq (.seq (.region 3 (rg Try.f59 3) false) (.cond (.tmp 11) .skip (.exit 0))) (.seq (.block 1 (.region 5 (rg Try.f59 5) false)) (.region 4 (rg Try.f59 4) false)))))) (.seq (.region 6 (rg Try.f59 6) false) .ret))))) (by kernel_rfl) (Nat.le_of_ble_eq_true (by kernel_rfl)) 0 (rs := [.tmp 2]) rfl [] .nil [(false, [.sl true 3 (r.map Vrow.row)])] [] [] fun cx => ?_
  show Tr _ _ _ ⟨23, 0, [(0, .val false [.sl false 3 (CV.frzEs (x0.map Vrow.row))])], []⟩ _
  unfold laws_toVrowSF at H
  refine Tr.rs ?_
  refine LAt.run tOk 1 ⟨23, 0, [(2, .val false [.sl true 3 (([] : List Vrow).map Vrow.row)]), (0, .val false [.sl false 3 (CV.frzEs (x0.map Vrow.row))])], []⟩ (by kernel_rfl) ?_
  refine LAt.done [2, 0] [] ⟨23, 0, [(2, .val false [.sl true 3 (([] : List Vrow).map Vrow.row)]), (0, .val false [.sl false 3 (CV.frzEs (x0.map Vrow.row))])], []⟩ (by kernel_rfl) (by kernel_rfl) ?_
  refine Tr.rs ?_
  refine LAt.run tOk 1 ⟨23, 0, [(5, .val false [.sl false 3 (CV.frzEs (x0.map Vrow.row))]), (2, .val false [.sl true 3 (([] : List Vrow).map Vrow.row)]), (0, .val false [.sl false 3 (CV.frzEs (x0.map Vrow.row))])], []⟩ (by kernel_rfl) ?_
  refine LAt.lenE tOk (t := 32) (ty := 3) (e := 97) (x := (.tmp 5)) (d := 6) (g := none) ⟨(.slot 5), [], 0, false, 3, (CV.frzEs (x0.map Vrow.row))⟩ (x0).length ⟨23, 0, [(6, .val false [.lit (.int .i64 (x0.length : Int))]), (5, .val false [.sl false 3 (CV.frzEs (x0.map Vrow.row))]), (2, .val false [.sl true 3 (([] : List Vrow).map Vrow.row)]), (0, .val false [.sl false 3 (CV.frzEs (x0.map Vrow.row))])], []⟩ (by kernel_rfl) (by kernel_rfl) (by kernel_rfl) (by kernel_rfl) (by kernel_rfl) (frz_len _ _) (by kernel_rfl) ?_
  obtain ⟨hg1, H⟩ := guard_some H
  refine LAt.makeG tOk (t := 38) (ty := 38) (e := 81) (x := (.tmp 6)) (d := 7) (g := none) ⟨.st [(0, 1, 3), (1, 1, 3), (2, 1, 3)], 3, 24, [.lit (.int .i64 0), .lit (.int .i64 0), .lit (.int .i64 0)]⟩ (x0.length : Int) ((List.replicate ((x0.length : Int)).toNat (⟨0, 0, 0⟩ : Vrow)).map Vrow.row) ⟨23, 0, [(7, .val false [.sl true 3 ((List.replicate ((x0.length : Int)).toNat (⟨0, 0, 0⟩ : Vrow)).map Vrow.row)]), (6, .val false [.lit (.int .i64 (x0.length : Int))]), (5, .val false [.sl false 3 (CV.frzEs (x0.map Vrow.row))]), (2, .val false [.sl true 3 (([] : List Vrow).map Vrow.row)]), (0, .val false [.sl false 3 (CV.frzEs (x0.map Vrow.row))])], []⟩ (by kernel_rfl) (by kernel_rfl) (by kernel_rfl) (by kernel_rfl) (by kernel_rfl) (by kernel_rfl) hg1 (by kernel_rfl) (rep_map _ rfl) (by kernel_rfl) ?_
  refine LAt.moveT (T := lk tab) (ty := 38) (x := (.tmp 7)) (d := 3) (g := none) ⟨false, [.sl true 3 ((List.replicate ((x0.length : Int)).toNat (⟨0, 0, 0⟩ : Vrow)).map Vrow.row)], ⟨23, 0, [(6, .val false [.lit (.int .i64 (x0.length : Int))]), (5, .val false [.sl false 3 (CV.frzEs (x0.map Vrow.row))]), (2, .val false [.sl true 3 (([] : List Vrow).map Vrow.row)]), (0, .val false [.sl false 3 (CV.frzEs (x0.map Vrow.row))])], []⟩⟩ ⟨23, 0, [(3, .val false [.sl true 3 ((List.replicate ((x0.length : Int)).toNat (⟨0, 0, 0⟩ : Vrow)).map Vrow.row)]), (6, .val false [.lit (.int .i64 (x0.length : Int))]), (5, .val false [.sl false 3 (CV.frzEs (x0.map Vrow.row))]), (2, .val false [.sl true 3 (([] : List Vrow).map Vrow.row)]), (0, .val false [.sl false 3 (CV.frzEs (x0.map Vrow.row))])], []⟩ (by kernel_rfl) (by kernel_rfl) (by kernel_rfl) (by kernel_rfl) (by kernel_rfl) (by kernel_rfl) ?_
  refine LAt.done [3, 2, 0] [] ⟨23, 0, [(3, .val false [.sl true 3 ((List.replicate ((x0.length : Int)).toNat (⟨0, 0, 0⟩ : Vrow)).map Vrow.row)]), (2, .val false [.sl true 3 (([] : List Vrow).map Vrow.row)]), (0, .val false [.sl false 3 (CV.frzEs (x0.map Vrow.row))])], []⟩ (by kernel_rfl) (by kernel_rfl) ?_
  refine Tr.seq ?_
  refine Tr.rs ?_
  refine LAt.run tOk 1 ⟨23, 0, [(4, .val false [.lit (.int .i64 0)]), (3, .val false [.sl true 3 ((List.replicate ((x0.length : Int)).toNat (⟨0, 0, 0⟩ : Vrow)).map Vrow.row)]), (2, .val false [.sl true 3 (([] : List Vrow).map Vrow.row)]), (0, .val false [.sl false 3 (CV.frzEs (x0.map Vrow.row))])], []⟩ (by kernel_rfl) ?_
  refine LAt.done [4, 3, 2, 0] [] ⟨23, 0, [(4, .val false [.lit (.int .i64 0)]), (3, .val false [.sl true 3 ((List.replicate ((x0.length : Int)).toNat (⟨0, 0, 0⟩ : Vrow)).map Vrow.row)]), (2, .val false [.sl true 3 (([] : List Vrow).map Vrow.row)]), (0, .val false [.sl false 3 (CV.frzEs (x0.map Vrow.row))])], []⟩ (by kernel_rfl) (by kernel_rfl) ?_
  obtain ⟨o4, eo4, Ho4⟩ := bind_some H
  clear H
  refine Tr.block ?_
  refine Tr.loop (ι := Nat × (Int × (List Vrow))) (fun v => ⟨23, 0, [(4, .val false [.lit (.int .i64 v.2.1)]), (3, .val false [.sl true 3 (v.2.2.map Vrow.row)]), (2, .val false [.sl true 3 (([] : List Vrow).map Vrow.row)]), (0, .val false [.sl false 3 (CV.frzEs (x0.map Vrow.row))])], []⟩) (fun v => laws_toVrowS_L1 n v.1 x0 v.2.1 v.2.2 = some o4) (fun v => v.1) (n, (0, (List.replicate ((x0.length : Int)).toNat (⟨0, 0, 0⟩ : Vrow)))) eo4 (St.sub_of [4, 3, 2, 0] [] (by kernel_rfl)) ?_
  rintro ⟨mo4, y2, y3⟩ H
  obtain _ | mo4 := mo4
  · cases (show (none : Option _) = some o4 from H)
  · rw [laws_toVrowS_L1] at H
    show Tr _ _ _ ⟨23, 0, [(4, .val false [.lit (.int .i64 y2)]), (3, .val false [.sl true 3 (y3.map Vrow.row)]), (2, .val false [.sl true 3 (([] : List Vrow).map Vrow.row)]), (0, .val false [.sl false 3 (CV.frzEs (x0.map Vrow.row))])], []⟩ _
    refine Tr.seq ?_
    refine Tr.rs ?_
    refine LAt.run tOk 2 ⟨23, 0, [(9, .val false [.sl false 3 (CV.frzEs (x0.map Vrow.row))]), (8, .val false [.lit (.int .i64 y2)]), (4, .val false [.lit (.int .i64 y2)]), (3, .val false [.sl true 3 (y3.map Vrow.row)]), (2, .val false [.sl true 3 (([] : List Vrow).map Vrow.row)]), (0, .val false [.sl false 3 (CV.frzEs (x0.map Vrow.row))])], []⟩ (by kernel_rfl) ?_
    refine LAt.lenE tOk (t := 32) (ty := 3) (e := 97) (x := (.tmp 9)) (d := 10) (g := none) ⟨(.slot 9), [], 0, false, 3, (CV.frzEs (x0.map Vrow.row))⟩ (x0).length ⟨23, 0, [(10, .val false [.lit (.int .i64 (x0.length : Int))]), (9, .val false [.sl false 3 (CV.frzEs (x0.map Vrow.row))]), (8, .val false [.lit (.int .i64 y2)]), (4, .val false [.lit (.int .i64 y2)]), (3, .val false [.sl true 3 (y3.map Vrow.row)]), (2, .val false [.sl true 3 (([] : List Vrow).map Vrow.row)]), (0, .val false [.sl false 3 (CV.frzEs (x0.map Vrow.row))])], []⟩ (by kernel_rfl) (by kernel_rfl) (by kernel_rfl) (by kernel_rfl) (by kernel_rfl) (frz_len _ _) (by kernel_rfl) ?_
    refine LAt.run tOk 1 ⟨23, 0, [(11, .val false [.lit (.bool (decide (y2 < (x0.length : Int))))]), (10, .val false [.lit (.int .i64 (x0.length : Int))]), (9, .val false [.sl false 3 (CV.frzEs (x0.map Vrow.row))]), (8, .val false [.lit (.int .i64 y2)]), (4, .val false [.lit (.int .i64 y2)]), (3, .val false [.sl true 3 (y3.map Vrow.row)]), (2, .val false [.sl true 3 (([] : List Vrow).map Vrow.row)]), (0, .val false [.sl false 3 (CV.frzEs (x0.map Vrow.row))])], []⟩ (by kernel_rfl) ?_
    refine LAt.done [11, 10, 9, 8, 4, 3, 2, 0] [] ⟨23, 0, [(11, .val false [.lit (.bool (decide (y2 < (x0.length : Int))))]), (10, .val false [.lit (.int .i64 (x0.length : Int))]), (9, .val false [.sl false 3 (CV.frzEs (x0.map Vrow.row))]), (8, .val false [.lit (.int .i64 y2)]), (4, .val false [.lit (.int .i64 y2)]), (3, .val false [.sl true 3 (y3.map Vrow.row)]), (2, .val false [.sl true 3 (([] : List Vrow).map Vrow.row)]), (0, .val false [.sl false 3 (CV.frzEs (x0.map Vrow.row))])], []⟩ (by kernel_rfl) (by kernel_rfl) ?_
    cases h1 : (decide (y2 < (x0.length : Int)))
    · rw [h1, cond_false] at H
      refine Tr.cond (b := false) (by kernel_rfl) (fun h => nomatch h) (fun _ => ?_)
      refine Tr.exit ?_
      refine And.intro (fun _ => ?_) (fun h => absurd rfl h)
      have H := Option.some.inj H
      subst H
      have H := Ho4
      dsimp only at H
      show Tr _ _ _ _ _
      show Tr _ _ _ _ _
      refine Tr.rs ?_
      refine LAt.run tOk 2 ⟨23, 0, [(2, .ref (.slot 3) [] 0 0 1 false), (22, .ref (.slot 3) [] 0 0 1 false), (11, .val false [.lit (.bool false)]), (10, .val false [.lit (.int .i64 (x0.length : Int))]), (9, .val false [.sl false 3 (CV.frzEs (x0.map Vrow.row))]), (8, .val false [.lit (.int .i64 y2)]), (4, .val false [.lit (.int .i64 y2)]), (3, .val false [.sl true 3 (y3.map Vrow.row)]), (0, .val false [.sl false 3 (CV.frzEs (x0.map Vrow.row))])], []⟩ (by kernel_rfl) ?_
      refine LAt.done [2, 3] [] ⟨23, 0, [(2, .ref (.slot 3) [] 0 0 1 false), (3, .val false [.sl true 3 (y3.map Vrow.row)])], []⟩ (by kernel_rfl) (by kernel_rfl) ?_
      refine Tr.ret ?_
      have H := Option.some.inj H
      subst H
      exact Fin.of _ [(false, [.sl true 3 (y3.map Vrow.row)])] (by kernel_rfl) rfl rfl
    · rw [h1, cond_true] at H
      refine Tr.cond (b := true) (by kernel_rfl) (fun _ => ?_) (fun h => nomatch h)
      refine Tr.skip ?_
      show Tr _ _ _ _ _
      refine Tr.seq ?_
      refine Tr.block ?_
      refine Tr.at ?_
      refine LAt.run tOk 4 ⟨23, 0, [(17, .val false [.lit (.int .i64 y2)]), (16, .val false [.sl false 3 (CV.frzEs (x0.map Vrow.row))]), (15, .val false [.lit (.int .i64 y2)]), (14, .ref (.slot 3) [] 0 0 1 false), (11, .val false [.lit (.bool true)]), (10, .val false [.lit (.int .i64 (x0.length : Int))]), (9, .val false [.sl false 3 (CV.frzEs (x0.map Vrow.row))]), (8, .val false [.lit (.int .i64 y2)]), (4, .val false [.lit (.int .i64 y2)]), (3, .val false [.sl true 3 (y3.map Vrow.row)]), (2, .val false [.sl true 3 (([] : List Vrow).map Vrow.row)]), (0, .val false [.sl false 3 (CV.frzEs (x0.map Vrow.row))])], []⟩ (by kernel_rfl) ?_
      obtain ⟨v5, ev5, H⟩ := bind_some H
      refine LAt.indexF tOk (t := 32) (ty := 0) (x := (.tmp 16)) (y := (.tmp 17)) (d := 18) (g := none) ⟨(.slot 16), [], 0, false, 3, (CV.frzEs (x0.map Vrow.row))⟩ y2 [.lit (.int .i64 v5.Id), .lit (.int .i64 v5.Members), .lit (.int .i64 v5.Bare)] ⟨23, 0, [(18, .fad ([.lit (.int .i64 v5.Id), .lit (.int .i64 v5.Members), .lit (.int .i64 v5.Bare)])), (17, .val false [.lit (.int .i64 y2)]), (16, .val false [.sl false 3 (CV.frzEs (x0.map Vrow.row))]), (15, .val false [.lit (.int .i64 y2)]), (14, .ref (.slot 3) [] 0 0 1 false), (11, .val false [.lit (.bool true)]), (10, .val false [.lit (.int .i64 (x0.length : Int))]), (9, .val false [.sl false 3 (CV.frzEs (x0.map Vrow.row))]), (8, .val false [.lit (.int .i64 y2)]), (4, .val false [.lit (.int .i64 y2)]), (3, .val false [.sl true 3 (y3.map Vrow.row)]), (2, .val false [.sl true 3 (([] : List Vrow).map Vrow.row)]), (0, .val false [.sl false 3 (CV.frzEs (x0.map Vrow.row))])], []⟩ (by kernel_rfl) (by kernel_rfl) (by kernel_rfl) (by kernel_rfl) rfl (idx_isF ev5) (by kernel_rfl) ?_
      refine LAt.run tOk 1 ⟨23, 0, [(19, .val true [.lit (.int .i64 v5.Id), .lit (.int .i64 v5.Members), .lit (.int .i64 v5.Bare)]), (18, .fad ([.lit (.int .i64 v5.Id), .lit (.int .i64 v5.Members), .lit (.int .i64 v5.Bare)])), (17, .val false [.lit (.int .i64 y2)]), (16, .val false [.sl false 3 (CV.frzEs (x0.map Vrow.row))]), (15, .val false [.lit (.int .i64 y2)]), (14, .ref (.slot 3) [] 0 0 1 false), (11, .val false [.lit (.bool true)]), (10, .val false [.lit (.int .i64 (x0.length : Int))]), (9, .val false [.sl false 3 (CV.frzEs (x0.map Vrow.row))]), (8, .val false [.lit (.int .i64 y2)]), (4, .val false [.lit (.int .i64 y2)]), (3, .val false [.sl true 3 (y3.map Vrow.row)]), (2, .val false [.sl true 3 (([] : List Vrow).map Vrow.row)]), (0, .val false [.sl false 3 (CV.frzEs (x0.map Vrow.row))])], []⟩ (by kernel_rfl) ?_
      obtain ⟨r6, er6, H⟩ := bind_some H
      refine LAt.callP tOk [.rd] (f := 81) (av := #[.tmp 19]) (ats := #[97]) (d := (some 20)) (ty := 81) (g := none) (by kernel_rfl) (by kernel_rfl) (by kernel_rfl) [] ⟨23, 0, [(20, .val true [.lit (.int .i64 r6.Id), .lit (.int .i64 r6.Members), .lit (.int .i64 r6.Bare)]), (19, .val true [.lit (.int .i64 v5.Id), .lit (.int .i64 v5.Members), .lit (.int .i64 v5.Bare)]), (18, .fad ([.lit (.int .i64 v5.Id), .lit (.int .i64 v5.Members), .lit (.int .i64 v5.Bare)])), (17, .val false [.lit (.int .i64 y2)]), (16, .val false [.sl false 3 (CV.frzEs (x0.map Vrow.row))]), (15, .val false [.lit (.int .i64 y2)]), (14, .ref (.slot 3) [] 0 0 1 false), (11, .val false [.lit (.bool true)]), (10, .val false [.lit (.int .i64 (x0.length : Int))]), (9, .val false [.sl false 3 (CV.frzEs (x0.map Vrow.row))]), (8, .val false [.lit (.int .i64 y2)]), (4, .val false [.lit (.int .i64 y2)]), (3, .val false [.sl true 3 (y3.map Vrow.row)]), (2, .val false [.sl true 3 (([] : List Vrow).map Vrow.row)]), (0, .val false [.sl false 3 (CV.frzEs (x0.map Vrow.row))])], []⟩ ⟨23, 0, [(20, .val true [.lit (.int .i64 r6.Id), .lit (.int .i64 r6.Members), .lit (.int .i64 r6.Bare)]), (19, .val true [.lit (.int .i64 v5.Id), .lit (.int .i64 v5.Members), .lit (.int .i64 v5.Bare)]), (18, .fad ([.lit (.int .i64 v5.Id), .lit (.int .i64 v5.Members), .lit (.int .i64 v5.Bare)])), (17, .val false [.lit (.int .i64 y2)]), (16, .val false [.sl false 3 (CV.frzEs (x0.map Vrow.row))]), (15, .val false [.lit (.int .i64 y2)]), (14, .ref (.slot 3) [] 0 0 1 false), (11, .val false [.lit (.bool true)]), (10, .val false [.lit (.int .i64 (x0.length : Int))]), (9, .val false [.sl false 3 (CV.frzEs (x0.map Vrow.row))]), (8, .val false [.lit (.int .i64 y2)]), (4, .val false [.lit (.int .i64 y2)]), (3, .val false [.sl true 3 (y3.map Vrow.row)]), (2, .val false [.sl true 3 (([] : List Vrow).map Vrow.row)]), (0, .val false [.sl false 3 (CV.frzEs (x0.map Vrow.row))])], []⟩ (laws_toVrow n v5 r6 er6) (by kernel_rfl) (.inl rfl) rfl ?_
      obtain ⟨v7, ev7, H⟩ := bind_some H
      refine LAt.indexO tOk (t := 38) (ty := 0) (x := (.tmp 14)) (y := (.tmp 15)) (d := 21) (g := none) ⟨(.slot 3), [], 0, true, 3, (y3.map Vrow.row)⟩ y2 (y2.toNat) (Vrow.row v7) ⟨23, 0, [(21, .adr (.slot 3) [(0, (y2.toNat))] 3 0), (20, .val true [.lit (.int .i64 r6.Id), .lit (.int .i64 r6.Members), .lit (.int .i64 r6.Bare)]), (19, .val true [.lit (.int .i64 v5.Id), .lit (.int .i64 v5.Members), .lit (.int .i64 v5.Bare)]), (18, .fad ([.lit (.int .i64 v5.Id), .lit (.int .i64 v5.Members), .lit (.int .i64 v5.Bare)])), (17, .val false [.lit (.int .i64 y2)]), (16, .val false [.sl false 3 (CV.frzEs (x0.map Vrow.row))]), (15, .val false [.lit (.int .i64 y2)]), (14, .ref (.slot 3) [] 0 0 1 false), (11, .val false [.lit (.bool true)]), (10, .val false [.lit (.int .i64 (x0.length : Int))]), (9, .val false [.sl false 3 (CV.frzEs (x0.map Vrow.row))]), (8, .val false [.lit (.int .i64 y2)]), (4, .val false [.lit (.int .i64 y2)]), (3, .val false [.sl true 3 (y3.map Vrow.row)]), (2, .val false [.sl true 3 (([] : List Vrow).map Vrow.row)]), (0, .val false [.sl false 3 (CV.frzEs (x0.map Vrow.row))])], []⟩ (by kernel_rfl) (by kernel_rfl) (by kernel_rfl) (by kernel_rfl) rfl (by kernel_rfl) (idx_isE ev7) rfl (by kernel_rfl) ?_
      refine LAt.storeE tOk (t := 81) (ty := 0) (ad := (.tmp 21)) (x := (.tmp 20)) (g := none) ⟨.st [(0, 1, 3), (1, 1, 3), (2, 1, 3)], 3, 24, [.lit (.int .i64 0), .lit (.int .i64 0), .lit (.int .i64 0)]⟩ ⟨true, [.lit (.int .i64 r6.Id), .lit (.int .i64 r6.Members), .lit (.int .i64 r6.Bare)], ⟨23, 0, [(21, .adr (.slot 3) [(0, (y2.toNat))] 3 0), (20, .val true [.lit (.int .i64 r6.Id), .lit (.int .i64 r6.Members), .lit (.int .i64 r6.Bare)]), (19, .val true [.lit (.int .i64 v5.Id), .lit (.int .i64 v5.Members), .lit (.int .i64 v5.Bare)]), (18, .fad ([.lit (.int .i64 v5.Id), .lit (.int .i64 v5.Members), .lit (.int .i64 v5.Bare)])), (17, .val false [.lit (.int .i64 y2)]), (16, .val false [.sl false 3 (CV.frzEs (x0.map Vrow.row))]), (15, .val false [.lit (.int .i64 y2)]), (14, .ref (.slot 3) [] 0 0 1 false), (11, .val false [.lit (.bool true)]), (10, .val false [.lit (.int .i64 (x0.length : Int))]), (9, .val false [.sl false 3 (CV.frzEs (x0.map Vrow.row))]), (8, .val false [.lit (.int .i64 y2)]), (4, .val false [.lit (.int .i64 y2)]), (3, .val false [.sl true 3 (y3.map Vrow.row)]), (2, .val false [.sl true 3 (([] : List Vrow).map Vrow.row)]), (0, .val false [.sl false 3 (CV.frzEs (x0.map Vrow.row))])], []⟩⟩ (.slot 3) [(0, (y2.toNat))] [(0, (y2.toNat))] 3 0 [.sl true 3 (y3.map Vrow.row)] (Vrow.row v7) [.sl true 3 (y3.map Vrow.row)] [.sl true 3 ((y3.set (y2.toNat) r6).map Vrow.row)] ⟨23, 0, [(3, .val false [.sl true 3 ((y3.set (y2.toNat) r6).map Vrow.row)]), (21, .adr (.slot 3) [(0, (y2.toNat))] 3 0), (20, .val true [.lit (.int .i64 r6.Id), .lit (.int .i64 r6.Members), .lit (.int .i64 r6.Bare)]), (19, .val true [.lit (.int .i64 v5.Id), .lit (.int .i64 v5.Members), .lit (.int .i64 v5.Bare)]), (18, .fad ([.lit (.int .i64 v5.Id), .lit (.int .i64 v5.Members), .lit (.int .i64 v5.Bare)])), (17, .val false [.lit (.int .i64 y2)]), (16, .val false [.sl false 3 (CV.frzEs (x0.map Vrow.row))]), (15, .val false [.lit (.int .i64 y2)]), (11, .val false [.lit (.bool true)]), (10, .val false [.lit (.int .i64 (x0.length : Int))]), (9, .val false [.sl false 3 (CV.frzEs (x0.map Vrow.row))]), (8, .val false [.lit (.int .i64 y2)]), (4, .val false [.lit (.int .i64 y2)]), (2, .val false [.sl true 3 (([] : List Vrow).map Vrow.row)]), (0, .val false [.sl false 3 (CV.frzEs (x0.map Vrow.row))])], []⟩ (by kernel_rfl) (by kernel_rfl) (by kernel_rfl) (by kernel_rfl) (by kernel_rfl) (by kernel_rfl) (getQ_elem rfl (idx_get ev7).2) rfl (by intro h; cases h) (by kernel_rfl) (by kernel_rfl) (by kernel_rfl) (modQ_elem (new := r6) rfl (idx_get ev7).2 rfl) (by kernel_rfl) ?_
      refine LAt.done [3, 21, 20, 19, 18, 17, 16, 15, 11, 10, 9, 8, 4, 2, 0] [] ⟨23, 0, [(3, .val false [.sl true 3 ((y3.set (y2.toNat) r6).map Vrow.row)]), (21, .adr (.slot 3) [(0, (y2.toNat))] 3 0), (20, .val true [.lit (.int .i64 r6.Id), .lit (.int .i64 r6.Members), .lit (.int .i64 r6.Bare)]), (19, .val true [.lit (.int .i64 v5.Id), .lit (.int .i64 v5.Members), .lit (.int .i64 v5.Bare)]), (18, .fad ([.lit (.int .i64 v5.Id), .lit (.int .i64 v5.Members), .lit (.int .i64 v5.Bare)])), (17, .val false [.lit (.int .i64 y2)]), (16, .val false [.sl false 3 (CV.frzEs (x0.map Vrow.row))]), (15, .val false [.lit (.int .i64 y2)]), (11, .val false [.lit (.bool true)]), (10, .val false [.lit (.int .i64 (x0.length : Int))]), (9, .val false [.sl false 3 (CV.frzEs (x0.map Vrow.row))]), (8, .val false [.lit (.int .i64 y2)]), (4, .val false [.lit (.int .i64 y2)]), (2, .val false [.sl true 3 (([] : List Vrow).map Vrow.row)]), (0, .val false [.sl false 3 (CV.frzEs (x0.map Vrow.row))])], []⟩ (by kernel_rfl) (by kernel_rfl) ?_
      show Tr _ _ _ _ _
      refine Tr.at ?_
      refine LAt.run tOk 3 ⟨23, 0, [(4, .val false [.lit (.int .i64 (IntKind.wrap .i64 (y2 + 1)))]), (13, .val false [.lit (.int .i64 (IntKind.wrap .i64 (y2 + 1)))]), (12, .val false [.lit (.int .i64 y2)]), (3, .val false [.sl true 3 ((y3.set (y2.toNat) r6).map Vrow.row)]), (21, .adr (.slot 3) [(0, (y2.toNat))] 3 0), (20, .val true [.lit (.int .i64 r6.Id), .lit (.int .i64 r6.Members), .lit (.int .i64 r6.Bare)]), (19, .val true [.lit (.int .i64 v5.Id), .lit (.int .i64 v5.Members), .lit (.int .i64 v5.Bare)]), (18, .fad ([.lit (.int .i64 v5.Id), .lit (.int .i64 v5.Members), .lit (.int .i64 v5.Bare)])), (17, .val false [.lit (.int .i64 y2)]), (16, .val false [.sl false 3 (CV.frzEs (x0.map Vrow.row))]), (15, .val false [.lit (.int .i64 y2)]), (11, .val false [.lit (.bool true)]), (10, .val false [.lit (.int .i64 (x0.length : Int))]), (9, .val false [.sl false 3 (CV.frzEs (x0.map Vrow.row))]), (8, .val false [.lit (.int .i64 y2)]), (2, .val false [.sl true 3 (([] : List Vrow).map Vrow.row)]), (0, .val false [.sl false 3 (CV.frzEs (x0.map Vrow.row))])], []⟩ (by kernel_rfl) ?_
      refine LAt.done [4, 13, 12, 3, 21, 20, 19, 18, 17, 16, 15, 11, 10, 9, 8, 2, 0] [] ⟨23, 0, [(4, .val false [.lit (.int .i64 (IntKind.wrap .i64 (y2 + 1)))]), (13, .val false [.lit (.int .i64 (IntKind.wrap .i64 (y2 + 1)))]), (12, .val false [.lit (.int .i64 y2)]), (3, .val false [.sl true 3 ((y3.set (y2.toNat) r6).map Vrow.row)]), (21, .adr (.slot 3) [(0, (y2.toNat))] 3 0), (20, .val true [.lit (.int .i64 r6.Id), .lit (.int .i64 r6.Members), .lit (.int .i64 r6.Bare)]), (19, .val true [.lit (.int .i64 v5.Id), .lit (.int .i64 v5.Members), .lit (.int .i64 v5.Bare)]), (18, .fad ([.lit (.int .i64 v5.Id), .lit (.int .i64 v5.Members), .lit (.int .i64 v5.Bare)])), (17, .val false [.lit (.int .i64 y2)]), (16, .val false [.sl false 3 (CV.frzEs (x0.map Vrow.row))]), (15, .val false [.lit (.int .i64 y2)]), (11, .val false [.lit (.bool true)]), (10, .val false [.lit (.int .i64 (x0.length : Int))]), (9, .val false [.sl false 3 (CV.frzEs (x0.map Vrow.row))]), (8, .val false [.lit (.int .i64 y2)]), (2, .val false [.sl true 3 (([] : List Vrow).map Vrow.row)]), (0, .val false [.sl false 3 (CV.frzEs (x0.map Vrow.row))])], []⟩ (by kernel_rfl) (by kernel_rfl) ?_
      exact Exists.intro (mo4, ((IntKind.wrap .i64 (y2 + 1)), (y3.set (y2.toNat) r6))) (And.intro H (And.intro (Nat.lt_succ_self mo4) (St.sub_of [4, 3, 2, 0] [] (by kernel_rfl))))

def laws_toIntS_L1 (n : Nat) : Nat → (List Int) → Int → (List Int) → Option ((Int × (List Int)) ⊕ ((List Int)))
  | 0, _, _, _ => none
  | mo4 + 1, x0, y2, y3 => (bif (decide (y2 < (x0.length : Int))) then ((idx x0 y2).bind fun v5 => ((idx y3 y2).bind fun v6 => (laws_toIntS_L1 n mo4 x0 (IntKind.wrap .i64 (y2 + 1)) (y3.set (y2.toNat) v5)))) else (some (Sum.inl (y2, y3))))
def laws_toIntSF (n : Nat) (x0 : (List Int)) : Option ((List Int)) :=
  (bif (decide (0 ≤ (x0.length : Int)) && decide ((x0.length : Int) ≤ 268435456)) then ((laws_toIntS_L1 n n x0 0 (List.replicate ((x0.length : Int)).toNat 0)).bind fun o => match o with | .inl (y2, y3) => (some y3) | .inr r => some r) else none)
/-- loop.example/g00326/laws.toIntS -/
theorem laws_toIntS (n : Nat) (x0 : (List Int)) (r : (List Int)) (H : laws_toIntSF n x0 = some r) : LCall Try.prog 60 [.val false [.sl false 1 (CV.frzEs (x0.map intRow))]] [.val false [.sl true 1 (r.map intRow)]] [] := by
  refine LCall.of_body tOk Try.func60 rfl (c := (.seq (.region 0 (rg Try.f60 0) false) (.seq (.region 1 (rg Try.f60 1) false) (.seq (.seq (.region 2 (rg Try.f60 2) false) (.block 0 (.loop (.seq (.seq (.region 3 (rg Try.f60 3) false) (.cond (.tmp 11) .skip (.exit 0))) (.seq (.block 1 (.region 5 (rg Try.f60 5) false)) (.region 4 (rg Try.f60 4) false)))))) (.seq (.region 6 (rg Try.f60 6) false) .ret))))) (by kernel_rfl) (Nat.le_of_ble_eq_true (by kernel_rfl)) 0 (rs := [.tmp 2]) rfl [] .nil [(false, [.sl true 1 (r.map intRow)])] [] [] fun cx => ?_
  show Tr _ _ _ ⟨22, 0, [(0, .val false [.sl false 1 (CV.frzEs (x0.map intRow))])], []⟩ _
  unfold laws_toIntSF at H
  refine Tr.rs ?_
  refine LAt.run tOk 1 ⟨22, 0, [(2, .val false [.sl true 1 (([] : List Int).map intRow)]), (0, .val false [.sl false 1 (CV.frzEs (x0.map intRow))])], []⟩ (by kernel_rfl) ?_
  refine LAt.done [2, 0] [] ⟨22, 0, [(2, .val false [.sl true 1 (([] : List Int).map intRow)]), (0, .val false [.sl false 1 (CV.frzEs (x0.map intRow))])], []⟩ (by kernel_rfl) (by kernel_rfl) ?_
  refine Tr.rs ?_
  refine LAt.run tOk 1 ⟨22, 0, [(5, .val false [.sl false 1 (CV.frzEs (x0.map intRow))]), (2, .val false [.sl true 1 (([] : List Int).map intRow)]), (0, .val false [.sl false 1 (CV.frzEs (x0.map intRow))])], []⟩ (by kernel_rfl) ?_
  refine LAt.lenE tOk (t := 33) (ty := 3) (e := 3) (x := (.tmp 5)) (d := 6) (g := none) ⟨(.slot 5), [], 0, false, 1, (CV.frzEs (x0.map intRow))⟩ (x0).length ⟨22, 0, [(6, .val false [.lit (.int .i64 (x0.length : Int))]), (5, .val false [.sl false 1 (CV.frzEs (x0.map intRow))]), (2, .val false [.sl true 1 (([] : List Int).map intRow)]), (0, .val false [.sl false 1 (CV.frzEs (x0.map intRow))])], []⟩ (by kernel_rfl) (by kernel_rfl) (by kernel_rfl) (by kernel_rfl) (by kernel_rfl) (frz_len _ _) (by kernel_rfl) ?_
  obtain ⟨hg1, H⟩ := guard_some H
  refine LAt.makeG tOk (t := 33) (ty := 33) (e := 3) (x := (.tmp 6)) (d := 7) (g := none) ⟨.int .i64, 1, 8, [.lit (.int .i64 0)]⟩ (x0.length : Int) ((List.replicate ((x0.length : Int)).toNat 0).map intRow) ⟨22, 0, [(7, .val false [.sl true 1 ((List.replicate ((x0.length : Int)).toNat 0).map intRow)]), (6, .val false [.lit (.int .i64 (x0.length : Int))]), (5, .val false [.sl false 1 (CV.frzEs (x0.map intRow))]), (2, .val false [.sl true 1 (([] : List Int).map intRow)]), (0, .val false [.sl false 1 (CV.frzEs (x0.map intRow))])], []⟩ (by kernel_rfl) (by kernel_rfl) (by kernel_rfl) (by kernel_rfl) (by kernel_rfl) (by kernel_rfl) hg1 (by kernel_rfl) (rep_map _ rfl) (by kernel_rfl) ?_
  refine LAt.moveT (T := lk tab) (ty := 33) (x := (.tmp 7)) (d := 3) (g := none) ⟨false, [.sl true 1 ((List.replicate ((x0.length : Int)).toNat 0).map intRow)], ⟨22, 0, [(6, .val false [.lit (.int .i64 (x0.length : Int))]), (5, .val false [.sl false 1 (CV.frzEs (x0.map intRow))]), (2, .val false [.sl true 1 (([] : List Int).map intRow)]), (0, .val false [.sl false 1 (CV.frzEs (x0.map intRow))])], []⟩⟩ ⟨22, 0, [(3, .val false [.sl true 1 ((List.replicate ((x0.length : Int)).toNat 0).map intRow)]), (6, .val false [.lit (.int .i64 (x0.length : Int))]), (5, .val false [.sl false 1 (CV.frzEs (x0.map intRow))]), (2, .val false [.sl true 1 (([] : List Int).map intRow)]), (0, .val false [.sl false 1 (CV.frzEs (x0.map intRow))])], []⟩ (by kernel_rfl) (by kernel_rfl) (by kernel_rfl) (by kernel_rfl) (by kernel_rfl) (by kernel_rfl) ?_
  refine LAt.done [3, 2, 0] [] ⟨22, 0, [(3, .val false [.sl true 1 ((List.replicate ((x0.length : Int)).toNat 0).map intRow)]), (2, .val false [.sl true 1 (([] : List Int).map intRow)]), (0, .val false [.sl false 1 (CV.frzEs (x0.map intRow))])], []⟩ (by kernel_rfl) (by kernel_rfl) ?_
  refine Tr.seq ?_
  refine Tr.rs ?_
  refine LAt.run tOk 1 ⟨22, 0, [(4, .val false [.lit (.int .i64 0)]), (3, .val false [.sl true 1 ((List.replicate ((x0.length : Int)).toNat 0).map intRow)]), (2, .val false [.sl true 1 (([] : List Int).map intRow)]), (0, .val false [.sl false 1 (CV.frzEs (x0.map intRow))])], []⟩ (by kernel_rfl) ?_
  refine LAt.done [4, 3, 2, 0] [] ⟨22, 0, [(4, .val false [.lit (.int .i64 0)]), (3, .val false [.sl true 1 ((List.replicate ((x0.length : Int)).toNat 0).map intRow)]), (2, .val false [.sl true 1 (([] : List Int).map intRow)]), (0, .val false [.sl false 1 (CV.frzEs (x0.map intRow))])], []⟩ (by kernel_rfl) (by kernel_rfl) ?_
  obtain ⟨o4, eo4, Ho4⟩ := bind_some H
  clear H
  refine Tr.block ?_
  refine Tr.loop (ι := Nat × (Int × (List Int))) (fun v => ⟨22, 0, [(4, .val false [.lit (.int .i64 v.2.1)]), (3, .val false [.sl true 1 (v.2.2.map intRow)]), (2, .val false [.sl true 1 (([] : List Int).map intRow)]), (0, .val false [.sl false 1 (CV.frzEs (x0.map intRow))])], []⟩) (fun v => laws_toIntS_L1 n v.1 x0 v.2.1 v.2.2 = some o4) (fun v => v.1) (n, (0, (List.replicate ((x0.length : Int)).toNat 0))) eo4 (St.sub_of [4, 3, 2, 0] [] (by kernel_rfl)) ?_
  rintro ⟨mo4, y2, y3⟩ H
  obtain _ | mo4 := mo4
  · cases (show (none : Option _) = some o4 from H)
  · rw [laws_toIntS_L1] at H
    show Tr _ _ _ ⟨22, 0, [(4, .val false [.lit (.int .i64 y2)]), (3, .val false [.sl true 1 (y3.map intRow)]), (2, .val false [.sl true 1 (([] : List Int).map intRow)]), (0, .val false [.sl false 1 (CV.frzEs (x0.map intRow))])], []⟩ _
    refine Tr.seq ?_
    refine Tr.rs ?_
    refine LAt.run tOk 2 ⟨22, 0, [(9, .val false [.sl false 1 (CV.frzEs (x0.map intRow))]), (8, .val false [.lit (.int .i64 y2)]), (4, .val false [.lit (.int .i64 y2)]), (3, .val false [.sl true 1 (y3.map intRow)]), (2, .val false [.sl true 1 (([] : List Int).map intRow)]), (0, .val false [.sl false 1 (CV.frzEs (x0.map intRow))])], []⟩ (by kernel_rfl) ?_
    refine LAt.lenE tOk (t := 33) (ty := 3) (e := 3) (x := (.tmp 9)) (d := 10) (g := none) ⟨(.slot 9), [], 0, false, 1, (CV.frzEs (x0.map intRow))⟩ (x0).length ⟨22, 0, [(10, .val false [.lit (.int .i64 (x0.length : Int))]), (9, .val false [.sl false 1 (CV.frzEs (x0.map intRow))]), (8, .val false [.lit (.int .i64 y2)]), (4, .val false [.lit (.int .i64 y2)]), (3, .val false [.sl true 1 (y3.map intRow)]), (2, .val false [.sl true 1 (([] : List Int).map intRow)]), (0, .val false [.sl false 1 (CV.frzEs (x0.map intRow))])], []⟩ (by kernel_rfl) (by kernel_rfl) (by kernel_rfl) (by kernel_rfl) (by kernel_rfl) (frz_len _ _) (by kernel_rfl) ?_
    refine LAt.run tOk 1 ⟨22, 0, [(11, .val false [.lit (.bool (decide (y2 < (x0.length : Int))))]), (10, .val false [.lit (.int .i64 (x0.length : Int))]), (9, .val false [.sl false 1 (CV.frzEs (x0.map intRow))]), (8, .val false [.lit (.int .i64 y2)]), (4, .val false [.lit (.int .i64 y2)]), (3, .val false [.sl true 1 (y3.map intRow)]), (2, .val false [.sl true 1 (([] : List Int).map intRow)]), (0, .val false [.sl false 1 (CV.frzEs (x0.map intRow))])], []⟩ (by kernel_rfl) ?_
    refine LAt.done [11, 10, 9, 8, 4, 3, 2, 0] [] ⟨22, 0, [(11, .val false [.lit (.bool (decide (y2 < (x0.length : Int))))]), (10, .val false [.lit (.int .i64 (x0.length : Int))]), (9, .val false [.sl false 1 (CV.frzEs (x0.map intRow))]), (8, .val false [.lit (.int .i64 y2)]), (4, .val false [.lit (.int .i64 y2)]), (3, .val false [.sl true 1 (y3.map intRow)]), (2, .val false [.sl true 1 (([] : List Int).map intRow)]), (0, .val false [.sl false 1 (CV.frzEs (x0.map intRow))])], []⟩ (by kernel_rfl) (by kernel_rfl) ?_
    cases h1 : (decide (y2 < (x0.length : Int)))
    · rw [h1, cond_false] at H
      refine Tr.cond (b := false) (by kernel_rfl) (fun h => nomatch h) (fun _ => ?_)
      refine Tr.exit ?_
      refine And.intro (fun _ => ?_) (fun h => absurd rfl h)
      have H := Option.some.inj H
      subst H
      have H := Ho4
      dsimp only at H
      show Tr _ _ _ _ _
      show Tr _ _ _ _ _
      refine Tr.rs ?_
      refine LAt.run tOk 2 ⟨22, 0, [(2, .ref (.slot 3) [] 0 0 1 false), (21, .ref (.slot 3) [] 0 0 1 false), (11, .val false [.lit (.bool false)]), (10, .val false [.lit (.int .i64 (x0.length : Int))]), (9, .val false [.sl false 1 (CV.frzEs (x0.map intRow))]), (8, .val false [.lit (.int .i64 y2)]), (4, .val false [.lit (.int .i64 y2)]), (3, .val false [.sl true 1 (y3.map intRow)]), (0, .val false [.sl false 1 (CV.frzEs (x0.map intRow))])], []⟩ (by kernel_rfl) ?_
      refine LAt.done [2, 3] [] ⟨22, 0, [(2, .ref (.slot 3) [] 0 0 1 false), (3, .val false [.sl true 1 (y3.map intRow)])], []⟩ (by kernel_rfl) (by kernel_rfl) ?_
      refine Tr.ret ?_
      have H := Option.some.inj H
      subst H
      exact Fin.of _ [(false, [.sl true 1 (y3.map intRow)])] (by kernel_rfl) rfl rfl
    · rw [h1, cond_true] at H
      refine Tr.cond (b := true) (by kernel_rfl) (fun _ => ?_) (fun h => nomatch h)
      refine Tr.skip ?_
      show Tr _ _ _ _ _
      refine Tr.seq ?_
      refine Tr.block ?_
      refine Tr.at ?_
      refine LAt.run tOk 4 ⟨22, 0, [(17, .val false [.lit (.int .i64 y2)]), (16, .val false [.sl false 1 (CV.frzEs (x0.map intRow))]), (15, .val false [.lit (.int .i64 y2)]), (14, .ref (.slot 3) [] 0 0 1 false), (11, .val false [.lit (.bool true)]), (10, .val false [.lit (.int .i64 (x0.length : Int))]), (9, .val false [.sl false 1 (CV.frzEs (x0.map intRow))]), (8, .val false [.lit (.int .i64 y2)]), (4, .val false [.lit (.int .i64 y2)]), (3, .val false [.sl true 1 (y3.map intRow)]), (2, .val false [.sl true 1 (([] : List Int).map intRow)]), (0, .val false [.sl false 1 (CV.frzEs (x0.map intRow))])], []⟩ (by kernel_rfl) ?_
      obtain ⟨v5, ev5, H⟩ := bind_some H
      refine LAt.indexF tOk (t := 33) (ty := 0) (x := (.tmp 16)) (y := (.tmp 17)) (d := 18) (g := none) ⟨(.slot 16), [], 0, false, 1, (CV.frzEs (x0.map intRow))⟩ y2 [.lit (.int .i64 v5)] ⟨22, 0, [(18, .fad ([.lit (.int .i64 v5)])), (17, .val false [.lit (.int .i64 y2)]), (16, .val false [.sl false 1 (CV.frzEs (x0.map intRow))]), (15, .val false [.lit (.int .i64 y2)]), (14, .ref (.slot 3) [] 0 0 1 false), (11, .val false [.lit (.bool true)]), (10, .val false [.lit (.int .i64 (x0.length : Int))]), (9, .val false [.sl false 1 (CV.frzEs (x0.map intRow))]), (8, .val false [.lit (.int .i64 y2)]), (4, .val false [.lit (.int .i64 y2)]), (3, .val false [.sl true 1 (y3.map intRow)]), (2, .val false [.sl true 1 (([] : List Int).map intRow)]), (0, .val false [.sl false 1 (CV.frzEs (x0.map intRow))])], []⟩ (by kernel_rfl) (by kernel_rfl) (by kernel_rfl) (by kernel_rfl) rfl (idx_isF ev5) (by kernel_rfl) ?_
      refine LAt.run tOk 1 ⟨22, 0, [(19, .val false [.lit (.int .i64 v5)]), (18, .fad ([.lit (.int .i64 v5)])), (17, .val false [.lit (.int .i64 y2)]), (16, .val false [.sl false 1 (CV.frzEs (x0.map intRow))]), (15, .val false [.lit (.int .i64 y2)]), (14, .ref (.slot 3) [] 0 0 1 false), (11, .val false [.lit (.bool true)]), (10, .val false [.lit (.int .i64 (x0.length : Int))]), (9, .val false [.sl false 1 (CV.frzEs (x0.map intRow))]), (8, .val false [.lit (.int .i64 y2)]), (4, .val false [.lit (.int .i64 y2)]), (3, .val false [.sl true 1 (y3.map intRow)]), (2, .val false [.sl true 1 (([] : List Int).map intRow)]), (0, .val false [.sl false 1 (CV.frzEs (x0.map intRow))])], []⟩ (by kernel_rfl) ?_
      obtain ⟨v6, ev6, H⟩ := bind_some H
      refine LAt.indexO tOk (t := 33) (ty := 0) (x := (.tmp 14)) (y := (.tmp 15)) (d := 20) (g := none) ⟨(.slot 3), [], 0, true, 1, (y3.map intRow)⟩ y2 (y2.toNat) (intRow v6) ⟨22, 0, [(20, .adr (.slot 3) [(0, (y2.toNat))] 1 0), (19, .val false [.lit (.int .i64 v5)]), (18, .fad ([.lit (.int .i64 v5)])), (17, .val false [.lit (.int .i64 y2)]), (16, .val false [.sl false 1 (CV.frzEs (x0.map intRow))]), (15, .val false [.lit (.int .i64 y2)]), (14, .ref (.slot 3) [] 0 0 1 false), (11, .val false [.lit (.bool true)]), (10, .val false [.lit (.int .i64 (x0.length : Int))]), (9, .val false [.sl false 1 (CV.frzEs (x0.map intRow))]), (8, .val false [.lit (.int .i64 y2)]), (4, .val false [.lit (.int .i64 y2)]), (3, .val false [.sl true 1 (y3.map intRow)]), (2, .val false [.sl true 1 (([] : List Int).map intRow)]), (0, .val false [.sl false 1 (CV.frzEs (x0.map intRow))])], []⟩ (by kernel_rfl) (by kernel_rfl) (by kernel_rfl) (by kernel_rfl) rfl (by kernel_rfl) (idx_isE ev6) rfl (by kernel_rfl) ?_
      refine LAt.storeE tOk (t := 3) (ty := 0) (ad := (.tmp 20)) (x := (.tmp 19)) (g := none) ⟨.int .i64, 1, 8, [.lit (.int .i64 0)]⟩ ⟨false, [.lit (.int .i64 v5)], ⟨22, 0, [(20, .adr (.slot 3) [(0, (y2.toNat))] 1 0), (19, .val false [.lit (.int .i64 v5)]), (18, .fad ([.lit (.int .i64 v5)])), (17, .val false [.lit (.int .i64 y2)]), (16, .val false [.sl false 1 (CV.frzEs (x0.map intRow))]), (15, .val false [.lit (.int .i64 y2)]), (14, .ref (.slot 3) [] 0 0 1 false), (11, .val false [.lit (.bool true)]), (10, .val false [.lit (.int .i64 (x0.length : Int))]), (9, .val false [.sl false 1 (CV.frzEs (x0.map intRow))]), (8, .val false [.lit (.int .i64 y2)]), (4, .val false [.lit (.int .i64 y2)]), (3, .val false [.sl true 1 (y3.map intRow)]), (2, .val false [.sl true 1 (([] : List Int).map intRow)]), (0, .val false [.sl false 1 (CV.frzEs (x0.map intRow))])], []⟩⟩ (.slot 3) [(0, (y2.toNat))] [(0, (y2.toNat))] 1 0 [.sl true 1 (y3.map intRow)] (intRow v6) [.sl true 1 (y3.map intRow)] [.sl true 1 ((y3.set (y2.toNat) v5).map intRow)] ⟨22, 0, [(3, .val false [.sl true 1 ((y3.set (y2.toNat) v5).map intRow)]), (20, .adr (.slot 3) [(0, (y2.toNat))] 1 0), (19, .val false [.lit (.int .i64 v5)]), (18, .fad ([.lit (.int .i64 v5)])), (17, .val false [.lit (.int .i64 y2)]), (16, .val false [.sl false 1 (CV.frzEs (x0.map intRow))]), (15, .val false [.lit (.int .i64 y2)]), (11, .val false [.lit (.bool true)]), (10, .val false [.lit (.int .i64 (x0.length : Int))]), (9, .val false [.sl false 1 (CV.frzEs (x0.map intRow))]), (8, .val false [.lit (.int .i64 y2)]), (4, .val false [.lit (.int .i64 y2)]), (2, .val false [.sl true 1 (([] : List Int).map intRow)]), (0, .val false [.sl false 1 (CV.frzEs (x0.map intRow))])], []⟩ (by kernel_rfl) (by kernel_rfl) (by kernel_rfl) (by kernel_rfl) (by kernel_rfl) (by kernel_rfl) (getQ_elem rfl (idx_get ev6).2) rfl (by intro h; cases h) (by kernel_rfl) (by kernel_rfl) (by kernel_rfl) (modQ_elem (new := v5) rfl (idx_get ev6).2 rfl) (by kernel_rfl) ?_
      refine LAt.done [3, 20, 19, 18, 17, 16, 15, 11, 10, 9, 8, 4, 2, 0] [] ⟨22, 0, [(3, .val false [.sl true 1 ((y3.set (y2.toNat) v5).map intRow)]), (20, .adr (.slot 3) [(0, (y2.toNat))] 1 0), (19, .val false [.lit (.int .i64 v5)]), (18, .fad ([.lit (.int .i64 v5)])), (17, .val false [.lit (.int .i64 y2)]), (16, .val false [.sl false 1 (CV.frzEs (x0.map intRow))]), (15, .val false [.lit (.int .i64 y2)]), (11, .val false [.lit (.bool true)]), (10, .val false [.lit (.int .i64 (x0.length : Int))]), (9, .val false [.sl false 1 (CV.frzEs (x0.map intRow))]), (8, .val false [.lit (.int .i64 y2)]), (4, .val false [.lit (.int .i64 y2)]), (2, .val false [.sl true 1 (([] : List Int).map intRow)]), (0, .val false [.sl false 1 (CV.frzEs (x0.map intRow))])], []⟩ (by kernel_rfl) (by kernel_rfl) ?_
      show Tr _ _ _ _ _
      refine Tr.at ?_
      refine LAt.run tOk 3 ⟨22, 0, [(4, .val false [.lit (.int .i64 (IntKind.wrap .i64 (y2 + 1)))]), (13, .val false [.lit (.int .i64 (IntKind.wrap .i64 (y2 + 1)))]), (12, .val false [.lit (.int .i64 y2)]), (3, .val false [.sl true 1 ((y3.set (y2.toNat) v5).map intRow)]), (20, .adr (.slot 3) [(0, (y2.toNat))] 1 0), (19, .val false [.lit (.int .i64 v5)]), (18, .fad ([.lit (.int .i64 v5)])), (17, .val false [.lit (.int .i64 y2)]), (16, .val false [.sl false 1 (CV.frzEs (x0.map intRow))]), (15, .val false [.lit (.int .i64 y2)]), (11, .val false [.lit (.bool true)]), (10, .val false [.lit (.int .i64 (x0.length : Int))]), (9, .val false [.sl false 1 (CV.frzEs (x0.map intRow))]), (8, .val false [.lit (.int .i64 y2)]), (2, .val false [.sl true 1 (([] : List Int).map intRow)]), (0, .val false [.sl false 1 (CV.frzEs (x0.map intRow))])], []⟩ (by kernel_rfl) ?_
      refine LAt.done [4, 13, 12, 3, 20, 19, 18, 17, 16, 15, 11, 10, 9, 8, 2, 0] [] ⟨22, 0, [(4, .val false [.lit (.int .i64 (IntKind.wrap .i64 (y2 + 1)))]), (13, .val false [.lit (.int .i64 (IntKind.wrap .i64 (y2 + 1)))]), (12, .val false [.lit (.int .i64 y2)]), (3, .val false [.sl true 1 ((y3.set (y2.toNat) v5).map intRow)]), (20, .adr (.slot 3) [(0, (y2.toNat))] 1 0), (19, .val false [.lit (.int .i64 v5)]), (18, .fad ([.lit (.int .i64 v5)])), (17, .val false [.lit (.int .i64 y2)]), (16, .val false [.sl false 1 (CV.frzEs (x0.map intRow))]), (15, .val false [.lit (.int .i64 y2)]), (11, .val false [.lit (.bool true)]), (10, .val false [.lit (.int .i64 (x0.length : Int))]), (9, .val false [.sl false 1 (CV.frzEs (x0.map intRow))]), (8, .val false [.lit (.int .i64 y2)]), (2, .val false [.sl true 1 (([] : List Int).map intRow)]), (0, .val false [.sl false 1 (CV.frzEs (x0.map intRow))])], []⟩ (by kernel_rfl) (by kernel_rfl) ?_
      exact Exists.intro (mo4, ((IntKind.wrap .i64 (y2 + 1)), (y3.set (y2.toNat) v5))) (And.intro H (And.intro (Nat.lt_succ_self mo4) (St.sub_of [4, 3, 2, 0] [] (by kernel_rfl))))

def laws_toVtabF (n : Nat) (x0 : Vtab) : Option (Vtab) :=
  ((laws_toVrowSF n x0.Rows).bind fun r1 => ((laws_toIntSF n x0.Pvid).bind fun r2 => (some (⟨r1, r2⟩ : Vtab))))
/-- loop.example/g00326/laws.toVtab -/
theorem laws_toVtab (n : Nat) (x0 : Vtab) (r : Vtab) (H : laws_toVtabF n x0 = some r) : LCall Try.prog 19 [.val true (CV.frzRow (Vtab.row x0))] [.val true (Vtab.row r)] [] := by
  refine LCall.of_body tOk Try.func19 rfl (c := (.seq (.region 0 (rg Try.f19 0) false) (.seq (.region 1 (rg Try.f19 1) false) (.seq (.region 2 (rg Try.f19 2) false) (.seq (.region 3 (rg Try.f19 3) false) (.seq (.region 4 (rg Try.f19 4) false) .ret)))))) (by kernel_rfl) (Nat.le_of_ble_eq_true (by kernel_rfl)) 0 (rs := [.cell 2 40]) rfl [] .nil [(true, (Vtab.row r))] [] [] fun cx => ?_
  show Tr _ _ _ ⟨13, 0, [(0, .val true [.sl false 3 (CV.frzEs (x0.Rows.map Vrow.row)), .sl false 1 (CV.frzEs (x0.Pvid.map intRow))])], []⟩ _
  unfold laws_toVtabF at H
  refine Tr.rs ?_
  refine LAt.run tOk 2 ⟨13, 0, [(2, .adr (.box 2) [(0, 0)] 2 0), (1, .adr (.box 1) [(0, 0)] 2 0), (0, .val true [.sl false 3 (CV.frzEs (x0.Rows.map Vrow.row)), .sl false 1 (CV.frzEs (x0.Pvid.map intRow))])], [(2, [.sl true 3 (([] : List Vrow).map Vrow.row), .sl true 1 (([] : List Int).map intRow)]), (1, [.sl false 3 (CV.frzEs (x0.Rows.map Vrow.row)), .sl false 1 (CV.frzEs (x0.Pvid.map intRow))])]⟩ (by kernel_rfl) ?_
  refine LAt.done [2, 1] [2, 1] ⟨13, 0, [(2, .adr (.box 2) [(0, 0)] 2 0), (1, .adr (.box 1) [(0, 0)] 2 0)], [(2, [.sl true 3 (([] : List Vrow).map Vrow.row), .sl true 1 (([] : List Int).map intRow)]), (1, [.sl false 3 (CV.frzEs (x0.Rows.map Vrow.row)), .sl false 1 (CV.frzEs (x0.Pvid.map intRow))])]⟩ (by kernel_rfl) (by kernel_rfl) ?_
  refine Tr.rs ?_
  refine LAt.run tOk 1 ⟨13, 0, [(3, .adr (.box 3) [(0, 0)] 2 0), (2, .adr (.box 2) [(0, 0)] 2 0), (1, .adr (.box 1) [(0, 0)] 2 0)], [(3, [.sl true 3 (([] : List Vrow).map Vrow.row), .sl true 1 (([] : List Int).map intRow)]), (2, [.sl true 3 (([] : List Vrow).map Vrow.row), .sl true 1 (([] : List Int).map intRow)]), (1, [.sl false 3 (CV.frzEs (x0.Rows.map Vrow.row)), .sl false 1 (CV.frzEs (x0.Pvid.map intRow))])]⟩ (by kernel_rfl) ?_
  refine LAt.done [3, 2, 1] [3, 2, 1] ⟨13, 0, [(3, .adr (.box 3) [(0, 0)] 2 0), (2, .adr (.box 2) [(0, 0)] 2 0), (1, .adr (.box 1) [(0, 0)] 2 0)], [(3, [.sl true 3 (([] : List Vrow).map Vrow.row), .sl true 1 (([] : List Int).map intRow)]), (2, [.sl true 3 (([] : List Vrow).map Vrow.row), .sl true 1 (([] : List Int).map intRow)]), (1, [.sl false 3 (CV.frzEs (x0.Rows.map Vrow.row)), .sl false 1 (CV.frzEs (x0.Pvid.map intRow))])]⟩ (by kernel_rfl) (by kernel_rfl) ?_
  refine Tr.rs ?_
  refine LAt.run tOk 2 ⟨13, 0, [(5, .val false [.sl false 3 (CV.frzEs (x0.Rows.map Vrow.row))]), (4, .adr (.box 1) [(0, 0)] 2 0), (3, .adr (.box 3) [(0, 0)] 2 0), (2, .adr (.box 2) [(0, 0)] 2 0), (1, .adr (.box 1) [(0, 0)] 2 0)], [(3, [.sl true 3 (([] : List Vrow).map Vrow.row), .sl true 1 (([] : List Int).map intRow)]), (2, [.sl true 3 (([] : List Vrow).map Vrow.row), .sl true 1 (([] : List Int).map intRow)]), (1, [.sl false 3 (CV.frzEs (x0.Rows.map Vrow.row)), .sl false 1 (CV.frzEs (x0.Pvid.map intRow))])]⟩ (by kernel_rfl) ?_
  obtain ⟨r1, er1, H⟩ := bind_some H
  refine LAt.callP tOk [.rd] (f := 59) (av := #[.tmp 5]) (ats := #[32]) (d := (some 6)) (ty := 38) (g := none) (by kernel_rfl) (by kernel_rfl) (by kernel_rfl) [] ⟨13, 0, [(6, .val false [.sl true 3 (r1.map Vrow.row)]), (5, .val false [.sl false 3 (CV.frzEs (x0.Rows.map Vrow.row))]), (4, .adr (.box 1) [(0, 0)] 2 0), (3, .adr (.box 3) [(0, 0)] 2 0), (2, .adr (.box 2) [(0, 0)] 2 0), (1, .adr (.box 1) [(0, 0)] 2 0)], [(3, [.sl true 3 (([] : List Vrow).map Vrow.row), .sl true 1 (([] : List Int).map intRow)]), (2, [.sl true 3 (([] : List Vrow).map Vrow.row), .sl true 1 (([] : List Int).map intRow)]), (1, [.sl false 3 (CV.frzEs (x0.Rows.map Vrow.row)), .sl false 1 (CV.frzEs (x0.Pvid.map intRow))])]⟩ ⟨13, 0, [(6, .val false [.sl true 3 (r1.map Vrow.row)]), (5, .val false [.sl false 3 (CV.frzEs (x0.Rows.map Vrow.row))]), (4, .adr (.box 1) [(0, 0)] 2 0), (3, .adr (.box 3) [(0, 0)] 2 0), (2, .adr (.box 2) [(0, 0)] 2 0), (1, .adr (.box 1) [(0, 0)] 2 0)], [(3, [.sl true 3 (([] : List Vrow).map Vrow.row), .sl true 1 (([] : List Int).map intRow)]), (2, [.sl true 3 (([] : List Vrow).map Vrow.row), .sl true 1 (([] : List Int).map intRow)]), (1, [.sl false 3 (CV.frzEs (x0.Rows.map Vrow.row)), .sl false 1 (CV.frzEs (x0.Pvid.map intRow))])]⟩ (laws_toVrowS n x0.Rows r1 er1) (by kernel_rfl) (.inl rfl) rfl ?_
  refine LAt.run tOk 2 ⟨13, 0, [(7, .adr (.box 3) [(0, 0)] 2 0), (5, .val false [.sl false 3 (CV.frzEs (x0.Rows.map Vrow.row))]), (4, .adr (.box 1) [(0, 0)] 2 0), (3, .adr (.box 3) [(0, 0)] 2 0), (2, .adr (.box 2) [(0, 0)] 2 0), (1, .adr (.box 1) [(0, 0)] 2 0)], [(3, [.sl true 3 (r1.map Vrow.row), .sl true 1 (([] : List Int).map intRow)]), (2, [.sl true 3 (([] : List Vrow).map Vrow.row), .sl true 1 (([] : List Int).map intRow)]), (1, [.sl false 3 (CV.frzEs (x0.Rows.map Vrow.row)), .sl false 1 (CV.frzEs (x0.Pvid.map intRow))])]⟩ (by kernel_rfl) ?_
  refine LAt.done [3, 2, 1] [3, 2, 1] ⟨13, 0, [(3, .adr (.box 3) [(0, 0)] 2 0), (2, .adr (.box 2) [(0, 0)] 2 0), (1, .adr (.box 1) [(0, 0)] 2 0)], [(3, [.sl true 3 (r1.map Vrow.row), .sl true 1 (([] : List Int).map intRow)]), (2, [.sl true 3 (([] : List Vrow).map Vrow.row), .sl true 1 (([] : List Int).map intRow)]), (1, [.sl false 3 (CV.frzEs (x0.Rows.map Vrow.row)), .sl false 1 (CV.frzEs (x0.Pvid.map intRow))])]⟩ (by kernel_rfl) (by kernel_rfl) ?_
  refine Tr.rs ?_
  refine LAt.run tOk 2 ⟨13, 0, [(9, .val false [.sl false 1 (CV.frzEs (x0.Pvid.map intRow))]), (8, .adr (.box 1) [(0, 0)] 2 1), (3, .adr (.box 3) [(0, 0)] 2 0), (2, .adr (.box 2) [(0, 0)] 2 0), (1, .adr (.box 1) [(0, 0)] 2 0)], [(3, [.sl true 3 (r1.map Vrow.row), .sl true 1 (([] : List Int).map intRow)]), (2, [.sl true 3 (([] : List Vrow).map Vrow.row), .sl true 1 (([] : List Int).map intRow)]), (1, [.sl false 3 (CV.frzEs (x0.Rows.map Vrow.row)), .sl false 1 (CV.frzEs (x0.Pvid.map intRow))])]⟩ (by kernel_rfl) ?_
  obtain ⟨r2, er2, H⟩ := bind_some H
  refine LAt.callP tOk [.rd] (f := 60) (av := #[.tmp 9]) (ats := #[33]) (d := (some 10)) (ty := 33) (g := none) (by kernel_rfl) (by kernel_rfl) (by kernel_rfl) [] ⟨13, 0, [(10, .val false [.sl true 1 (r2.map intRow)]), (9, .val false [.sl false 1 (CV.frzEs (x0.Pvid.map intRow))]), (8, .adr (.box 1) [(0, 0)] 2 1), (3, .adr (.box 3) [(0, 0)] 2 0), (2, .adr (.box 2) [(0, 0)] 2 0), (1, .adr (.box 1) [(0, 0)] 2 0)], [(3, [.sl true 3 (r1.map Vrow.row), .sl true 1 (([] : List Int).map intRow)]), (2, [.sl true 3 (([] : List Vrow).map Vrow.row), .sl true 1 (([] : List Int).map intRow)]), (1, [.sl false 3 (CV.frzEs (x0.Rows.map Vrow.row)), .sl false 1 (CV.frzEs (x0.Pvid.map intRow))])]⟩ ⟨13, 0, [(10, .val false [.sl true 1 (r2.map intRow)]), (9, .val false [.sl false 1 (CV.frzEs (x0.Pvid.map intRow))]), (8, .adr (.box 1) [(0, 0)] 2 1), (3, .adr (.box 3) [(0, 0)] 2 0), (2, .adr (.box 2) [(0, 0)] 2 0), (1, .adr (.box 1) [(0, 0)] 2 0)], [(3, [.sl true 3 (r1.map Vrow.row), .sl true 1 (([] : List Int).map intRow)]), (2, [.sl true 3 (([] : List Vrow).map Vrow.row), .sl true 1 (([] : List Int).map intRow)]), (1, [.sl false 3 (CV.frzEs (x0.Rows.map Vrow.row)), .sl false 1 (CV.frzEs (x0.Pvid.map intRow))])]⟩ (laws_toIntS n x0.Pvid r2 er2) (by kernel_rfl) (.inl rfl) rfl ?_
  refine LAt.run tOk 2 ⟨13, 0, [(11, .adr (.box 3) [(0, 0)] 2 1), (9, .val false [.sl false 1 (CV.frzEs (x0.Pvid.map intRow))]), (8, .adr (.box 1) [(0, 0)] 2 1), (3, .adr (.box 3) [(0, 0)] 2 0), (2, .adr (.box 2) [(0, 0)] 2 0), (1, .adr (.box 1) [(0, 0)] 2 0)], [(3, [.sl true 3 (r1.map Vrow.row), .sl true 1 (r2.map intRow)]), (2, [.sl true 3 (([] : List Vrow).map Vrow.row), .sl true 1 (([] : List Int).map intRow)]), (1, [.sl false 3 (CV.frzEs (x0.Rows.map Vrow.row)), .sl false 1 (CV.frzEs (x0.Pvid.map intRow))])]⟩ (by kernel_rfl) ?_
  refine LAt.done [3, 2] [3, 2] ⟨13, 0, [(3, .adr (.box 3) [(0, 0)] 2 0), (2, .adr (.box 2) [(0, 0)] 2 0)], [(3, [.sl true 3 (r1.map Vrow.row), .sl true 1 (r2.map intRow)]), (2, [.sl true 3 (([] : List Vrow).map Vrow.row), .sl true 1 (([] : List Int).map intRow)])]⟩ (by kernel_rfl) (by kernel_rfl) ?_
  refine Tr.rs ?_
  refine LAt.run tOk 2 ⟨13, 0, [(3, .adr (.box 3) [(0, 0)] 2 0), (2, .adr (.box 2) [(0, 0)] 2 0)], [(2, [.sl true 3 (r1.map Vrow.row), .sl true 1 (r2.map intRow)]), (3, [.dead, .dead])]⟩ (by kernel_rfl) ?_
  refine LAt.done [2] [2] ⟨13, 0, [(2, .adr (.box 2) [(0, 0)] 2 0)], [(2, [.sl true 3 (r1.map Vrow.row), .sl true 1 (r2.map intRow)])]⟩ (by kernel_rfl) (by kernel_rfl) ?_
  refine Tr.ret ?_
  have H := Option.some.inj H
  subst H
  exact Fin.of _ [(true, [.sl true 3 (r1.map Vrow.row), .sl true 1 (r2.map intRow)])] (by kernel_rfl) rfl rfl

def spec_RowAt_L1 (n : Nat) : Nat → Vtab → Int → Int → Option ((Int) ⊕ (Int))
  | 0, _, _, _ => none
  | mo2 + 1, x0, x1, y1 => (bif (decide (y1 < (x0.Rows.length : Int))) then ((idx x0.Rows y1).bind fun v3 => (bif (v3.Id == x1) then (some (Sum.inr y1)) else (spec_RowAt_L1 n mo2 x0 x1 (IntKind.wrap .i64 (y1 + 1))))) else (some (Sum.inl y1)))
def spec_RowAtF (n : Nat) (x0 : Vtab) (x1 : Int) : Option (Int) :=
  ((spec_RowAt_L1 n n x0 x1 0).bind fun o => match o with | .inl y1 => (some (-1)) | .inr r => some r)
/-- loop.example/g00326/spec.RowAt -/
theorem spec_RowAt (n : Nat) (x0 : Vtab) (x1 : Int) (r : Int) (H : spec_RowAtF n x0 x1 = some r) : LCall Try.prog 58 [.val true (CV.frzRow (Vtab.row x0)), .val false [.lit (.int .i64 x1)]] [.val false [.lit (.int .i64 r)]] [] := by
  refine LCall.of_body tOk Try.func58 rfl (c := (.seq (.region 0 (rg Try.f58 0) false) (.seq (.seq (.region 1 (rg Try.f58 1) false) (.block 0 (.loop (.seq (.seq (.region 2 (rg Try.f58 2) false) (.cond (.tmp 10) .skip (.exit 0))) (.seq (.block 1 (.seq (.region 4 (rg Try.f58 4) false) (.cond (.tmp 20) (.seq (.region 5 (rg Try.f58 5) false) .ret) .skip))) (.region 3 (rg Try.f58 3) false)))))) (.seq (.region 6 (rg Try.f58 6) false) .ret)))) (by kernel_rfl) (Nat.le_of_ble_eq_true (by kernel_rfl)) 0 (rs := [.tmp 4]) rfl [] .nil [(false, [.lit (.int .i64 r)])] [] [] fun cx => ?_
  show Tr _ _ _ ⟨22, 0, [(0, .val true [.sl false 3 (CV.frzEs (x0.Rows.map Vrow.row)), .sl false 1 (CV.frzEs (x0.Pvid.map intRow))]), (1, .val false [.lit (.int .i64 x1)])], []⟩ _
  unfold spec_RowAtF at H
  refine Tr.rs ?_
  refine LAt.run tOk 2 ⟨22, 0, [(4, .val false [.lit (.int .i64 0)]), (2, .adr (.box 2) [(0, 0)] 2 0), (0, .val true [.sl false 3 (CV.frzEs (x0.Rows.map Vrow.row)), .sl false 1 (CV.frzEs (x0.Pvid.map intRow))]), (1, .val false [.lit (.int .i64 x1)])], [(2, [.sl false 3 (CV.frzEs (x0.Rows.map Vrow.row)), .sl false 1 (CV.frzEs (x0.Pvid.map intRow))])]⟩ (by kernel_rfl) ?_
  refine LAt.done [4, 2, 1] [2] ⟨22, 0, [(4, .val false [.lit (.int .i64 0)]), (2, .adr (.box 2) [(0, 0)] 2 0), (1, .val false [.lit (.int .i64 x1)])], [(2, [.sl false 3 (CV.frzEs (x0.Rows.map Vrow.row)), .sl false 1 (CV.frzEs (x0.Pvid.map intRow))])]⟩ (by kernel_rfl) (by kernel_rfl) ?_
  refine Tr.seq ?_
  refine Tr.rs ?_
  refine LAt.run tOk 1 ⟨22, 0, [(5, .val false [.lit (.int .i64 0)]), (4, .val false [.lit (.int .i64 0)]), (2, .adr (.box 2) [(0, 0)] 2 0), (1, .val false [.lit (.int .i64 x1)])], [(2, [.sl false 3 (CV.frzEs (x0.Rows.map Vrow.row)), .sl false 1 (CV.frzEs (x0.Pvid.map intRow))])]⟩ (by kernel_rfl) ?_
  refine LAt.done [5, 4, 2, 1] [2] ⟨22, 0, [(5, .val false [.lit (.int .i64 0)]), (4, .val false [.lit (.int .i64 0)]), (2, .adr (.box 2) [(0, 0)] 2 0), (1, .val false [.lit (.int .i64 x1)])], [(2, [.sl false 3 (CV.frzEs (x0.Rows.map Vrow.row)), .sl false 1 (CV.frzEs (x0.Pvid.map intRow))])]⟩ (by kernel_rfl) (by kernel_rfl) ?_
  obtain ⟨o2, eo2, Ho2⟩ := bind_some H
  clear H
  refine Tr.block ?_
  refine Tr.loop (ι := Nat × (Int)) (fun v => ⟨22, 0, [(5, .val false [.lit (.int .i64 v.2)]), (4, .val false [.lit (.int .i64 0)]), (2, .adr (.box 2) [(0, 0)] 2 0), (1, .val false [.lit (.int .i64 x1)])], [(2, [.sl false 3 (CV.frzEs (x0.Rows.map Vrow.row)), .sl false 1 (CV.frzEs (x0.Pvid.map intRow))])]⟩) (fun v => spec_RowAt_L1 n v.1 x0 x1 v.2 = some o2) (fun v => v.1) (n, 0) eo2 (St.sub_of [5, 4, 2, 1] [2] (by kernel_rfl)) ?_
  rintro ⟨mo2, y1⟩ H
  obtain _ | mo2 := mo2
  · cases (show (none : Option _) = some o2 from H)
  · rw [spec_RowAt_L1] at H
    show Tr _ _ _ ⟨22, 0, [(5, .val false [.lit (.int .i64 y1)]), (4, .val false [.lit (.int .i64 0)]), (2, .adr (.box 2) [(0, 0)] 2 0), (1, .val false [.lit (.int .i64 x1)])], [(2, [.sl false 3 (CV.frzEs (x0.Rows.map Vrow.row)), .sl false 1 (CV.frzEs (x0.Pvid.map intRow))])]⟩ _
    refine Tr.seq ?_
    refine Tr.rs ?_
    refine LAt.run tOk 3 ⟨22, 0, [(8, .val false [.sl false 3 (CV.frzEs (x0.Rows.map Vrow.row))]), (7, .adr (.box 2) [(0, 0)] 2 0), (6, .val false [.lit (.int .i64 y1)]), (5, .val false [.lit (.int .i64 y1)]), (4, .val false [.lit (.int .i64 0)]), (2, .adr (.box 2) [(0, 0)] 2 0), (1, .val false [.lit (.int .i64 x1)])], [(2, [.sl false 3 (CV.frzEs (x0.Rows.map Vrow.row)), .sl false 1 (CV.frzEs (x0.Pvid.map intRow))])]⟩ (by kernel_rfl) ?_
    refine LAt.lenE tOk (t := 38) (ty := 3) (e := 81) (x := (.tmp 8)) (d := 9) (g := none) ⟨(.slot 8), [], 0, false, 3, (CV.frzEs (x0.Rows.map Vrow.row))⟩ (x0.Rows).length ⟨22, 0, [(9, .val false [.lit (.int .i64 (x0.Rows.length : Int))]), (8, .val false [.sl false 3 (CV.frzEs (x0.Rows.map Vrow.row))]), (7, .adr (.box 2) [(0, 0)] 2 0), (6, .val false [.lit (.int .i64 y1)]), (5, .val false [.lit (.int .i64 y1)]), (4, .val false [.lit (.int .i64 0)]), (2, .adr (.box 2) [(0, 0)] 2 0), (1, .val false [.lit (.int .i64 x1)])], [(2, [.sl false 3 (CV.frzEs (x0.Rows.map Vrow.row)), .sl false 1 (CV.frzEs (x0.Pvid.map intRow))])]⟩ (by kernel_rfl) (by kernel_rfl) (by kernel_rfl) (by kernel_rfl) (by kernel_rfl) (frz_len _ _) (by kernel_rfl) ?_
    refine LAt.run tOk 1 ⟨22, 0, [(10, .val false [.lit (.bool (decide (y1 < (x0.Rows.length : Int))))]), (9, .val false [.lit (.int .i64 (x0.Rows.length : Int))]), (8, .val false [.sl false 3 (CV.frzEs (x0.Rows.map Vrow.row))]), (7, .adr (.box 2) [(0, 0)] 2 0), (6, .val false [.lit (.int .i64 y1)]), (5, .val false [.lit (.int .i64 y1)]), (4, .val false [.lit (.int .i64 0)]), (2, .adr (.box 2) [(0, 0)] 2 0), (1, .val false [.lit (.int .i64 x1)])], [(2, [.sl false 3 (CV.frzEs (x0.Rows.map Vrow.row)), .sl false 1 (CV.frzEs (x0.Pvid.map intRow))])]⟩ (by kernel_rfl) ?_
    refine LAt.done [10, 9, 8, 7, 6, 5, 4, 2, 1] [2] ⟨22, 0, [(10, .val false [.lit (.bool (decide (y1 < (x0.Rows.length : Int))))]), (9, .val false [.lit (.int .i64 (x0.Rows.length : Int))]), (8, .val false [.sl false 3 (CV.frzEs (x0.Rows.map Vrow.row))]), (7, .adr (.box 2) [(0, 0)] 2 0), (6, .val false [.lit (.int .i64 y1)]), (5, .val false [.lit (.int .i64 y1)]), (4, .val false [.lit (.int .i64 0)]), (2, .adr (.box 2) [(0, 0)] 2 0), (1, .val false [.lit (.int .i64 x1)])], [(2, [.sl false 3 (CV.frzEs (x0.Rows.map Vrow.row)), .sl false 1 (CV.frzEs (x0.Pvid.map intRow))])]⟩ (by kernel_rfl) (by kernel_rfl) ?_
    cases h1 : (decide (y1 < (x0.Rows.length : Int)))
    · rw [h1, cond_false] at H
      refine Tr.cond (b := false) (by kernel_rfl) (fun h => nomatch h) (fun _ => ?_)
      refine Tr.exit ?_
      refine And.intro (fun _ => ?_) (fun h => absurd rfl h)
      have H := Option.some.inj H
      subst H
      have H := Ho2
      dsimp only at H
      show Tr _ _ _ _ _
      show Tr _ _ _ _ _
      refine Tr.rs ?_
      refine LAt.run tOk 1 ⟨22, 0, [(4, .val false [.lit (.int .i64 (-1))]), (10, .val false [.lit (.bool false)]), (9, .val false [.lit (.int .i64 (x0.Rows.length : Int))]), (8, .val false [.sl false 3 (CV.frzEs (x0.Rows.map Vrow.row))]), (7, .adr (.box 2) [(0, 0)] 2 0), (6, .val false [.lit (.int .i64 y1)]), (5, .val false [.lit (.int .i64 y1)]), (2, .adr (.box 2) [(0, 0)] 2 0), (1, .val false [.lit (.int .i64 x1)])], [(2, [.sl false 3 (CV.frzEs (x0.Rows.map Vrow.row)), .sl false 1 (CV.frzEs (x0.Pvid.map intRow))])]⟩ (by kernel_rfl) ?_
      refine LAt.done [4] [] ⟨22, 0, [(4, .val false [.lit (.int .i64 (-1))])], []⟩ (by kernel_rfl) (by kernel_rfl) ?_
      refine Tr.ret ?_
      have H := Option.some.inj H
      subst H
      exact Fin.of _ [(false, [.lit (.int .i64 (-1))])] (by kernel_rfl) rfl rfl
    · rw [h1, cond_true] at H
      refine Tr.cond (b := true) (by kernel_rfl) (fun _ => ?_) (fun h => nomatch h)
      refine Tr.skip ?_
      show Tr _ _ _ _ _
      refine Tr.seq ?_
      refine Tr.block ?_
      refine Tr.rs ?_
      refine LAt.run tOk 3 ⟨22, 0, [(15, .val false [.lit (.int .i64 y1)]), (14, .val false [.sl false 3 (CV.frzEs (x0.Rows.map Vrow.row))]), (13, .adr (.box 2) [(0, 0)] 2 0), (10, .val false [.lit (.bool true)]), (9, .val false [.lit (.int .i64 (x0.Rows.length : Int))]), (8, .val false [.sl false 3 (CV.frzEs (x0.Rows.map Vrow.row))]), (7, .adr (.box 2) [(0, 0)] 2 0), (6, .val false [.lit (.int .i64 y1)]), (5, .val false [.lit (.int .i64 y1)]), (4, .val false [.lit (.int .i64 0)]), (2, .adr (.box 2) [(0, 0)] 2 0), (1, .val false [.lit (.int .i64 x1)])], [(2, [.sl false 3 (CV.frzEs (x0.Rows.map Vrow.row)), .sl false 1 (CV.frzEs (x0.Pvid.map intRow))])]⟩ (by kernel_rfl) ?_
      obtain ⟨v3, ev3, H⟩ := bind_some H
      refine LAt.indexF tOk (t := 38) (ty := 0) (x := (.tmp 14)) (y := (.tmp 15)) (d := 16) (g := none) ⟨(.slot 14), [], 0, false, 3, (CV.frzEs (x0.Rows.map Vrow.row))⟩ y1 [.lit (.int .i64 v3.Id), .lit (.int .i64 v3.Members), .lit (.int .i64 v3.Bare)] ⟨22, 0, [(16, .fad ([.lit (.int .i64 v3.Id), .lit (.int .i64 v3.Members), .lit (.int .i64 v3.Bare)])), (15, .val false [.lit (.int .i64 y1)]), (14, .val false [.sl false 3 (CV.frzEs (x0.Rows.map Vrow.row))]), (13, .adr (.box 2) [(0, 0)] 2 0), (10, .val false [.lit (.bool true)]), (9, .val false [.lit (.int .i64 (x0.Rows.length : Int))]), (8, .val false [.sl false 3 (CV.frzEs (x0.Rows.map Vrow.row))]), (7, .adr (.box 2) [(0, 0)] 2 0), (6, .val false [.lit (.int .i64 y1)]), (5, .val false [.lit (.int .i64 y1)]), (4, .val false [.lit (.int .i64 0)]), (2, .adr (.box 2) [(0, 0)] 2 0), (1, .val false [.lit (.int .i64 x1)])], [(2, [.sl false 3 (CV.frzEs (x0.Rows.map Vrow.row)), .sl false 1 (CV.frzEs (x0.Pvid.map intRow))])]⟩ (by kernel_rfl) (by kernel_rfl) (by kernel_rfl) (by kernel_rfl) rfl (idx_isF ev3) (by kernel_rfl) ?_
      refine LAt.run tOk 4 ⟨22, 0, [(20, .val false [.lit (.bool (v3.Id == x1))]), (19, .val false [.lit (.int .i64 x1)]), (18, .val false [.lit (.int .i64 v3.Id)]), (17, .fad ([.lit (.int .i64 v3.Id), .lit (.int .i64 v3.Members), .lit (.int .i64 v3.Bare)])), (16, .fad ([.lit (.int .i64 v3.Id), .lit (.int .i64 v3.Members), .lit (.int .i64 v3.Bare)])), (15, .val false [.lit (.int .i64 y1)]), (14, .val false [.sl false 3 (CV.frzEs (x0.Rows.map Vrow.row))]), (13, .adr (.box 2) [(0, 0)] 2 0), (10, .val false [.lit (.bool true)]), (9, .val false [.lit (.int .i64 (x0.Rows.length : Int))]), (8, .val false [.sl false 3 (CV.frzEs (x0.Rows.map Vrow.row))]), (7, .adr (.box 2) [(0, 0)] 2 0), (6, .val false [.lit (.int .i64 y1)]), (5, .val false [.lit (.int .i64 y1)]), (4, .val false [.lit (.int .i64 0)]), (2, .adr (.box 2) [(0, 0)] 2 0), (1, .val false [.lit (.int .i64 x1)])], [(2, [.sl false 3 (CV.frzEs (x0.Rows.map Vrow.row)), .sl false 1 (CV.frzEs (x0.Pvid.map intRow))])]⟩ (by kernel_rfl) ?_
      refine LAt.done [20, 19, 18, 17, 16, 15, 14, 13, 10, 9, 8, 7, 6, 5, 4, 2, 1] [2] ⟨22, 0, [(20, .val false [.lit (.bool (v3.Id == x1))]), (19, .val false [.lit (.int .i64 x1)]), (18, .val false [.lit (.int .i64 v3.Id)]), (17, .fad ([.lit (.int .i64 v3.Id), .lit (.int .i64 v3.Members), .lit (.int .i64 v3.Bare)])), (16, .fad ([.lit (.int .i64 v3.Id), .lit (.int .i64 v3.Members), .lit (.int .i64 v3.Bare)])), (15, .val false [.lit (.int .i64 y1)]), (14, .val false [.sl false 3 (CV.frzEs (x0.Rows.map Vrow.row))]), (13, .adr (.box 2) [(0, 0)] 2 0), (10, .val false [.lit (.bool true)]), (9, .val false [.lit (.int .i64 (x0.Rows.length : Int))]), (8, .val false [.sl false 3 (CV.frzEs (x0.Rows.map Vrow.row))]), (7, .adr (.box 2) [(0, 0)] 2 0), (6, .val false [.lit (.int .i64 y1)]), (5, .val false [.lit (.int .i64 y1)]), (4, .val false [.lit (.int .i64 0)]), (2, .adr (.box 2) [(0, 0)] 2 0), (1, .val false [.lit (.int .i64 x1)])], [(2, [.sl false 3 (CV.frzEs (x0.Rows.map Vrow.row)), .sl false 1 (CV.frzEs (x0.Pvid.map intRow))])]⟩ (by kernel_rfl) (by kernel_rfl) ?_
      cases h2 : (v3.Id == x1)
      · rw [h2, cond_false] at H
        refine Tr.cond (b := false) (by kernel_rfl) (fun h => nomatch h) (fun _ => ?_)
        refine Tr.skip ?_
        show Tr _ _ _ _ _
        refine Tr.at ?_
        refine LAt.run tOk 3 ⟨22, 0, [(5, .val false [.lit (.int .i64 (IntKind.wrap .i64 (y1 + 1)))]), (12, .val false [.lit (.int .i64 (IntKind.wrap .i64 (y1 + 1)))]), (11, .val false [.lit (.int .i64 y1)]), (20, .val false [.lit (.bool false)]), (19, .val false [.lit (.int .i64 x1)]), (18, .val false [.lit (.int .i64 v3.Id)]), (17, .fad ([.lit (.int .i64 v3.Id), .lit (.int .i64 v3.Members), .lit (.int .i64 v3.Bare)])), (16, .fad ([.lit (.int .i64 v3.Id), .lit (.int .i64 v3.Members), .lit (.int .i64 v3.Bare)])), (15, .val false [.lit (.int .i64 y1)]), (14, .val false [.sl false 3 (CV.frzEs (x0.Rows.map Vrow.row))]), (13, .adr (.box 2) [(0, 0)] 2 0), (10, .val false [.lit (.bool true)]), (9, .val false [.lit (.int .i64 (x0.Rows.length : Int))]), (8, .val false [.sl false 3 (CV.frzEs (x0.Rows.map Vrow.row))]), (7, .adr (.box 2) [(0, 0)] 2 0), (6, .val false [.lit (.int .i64 y1)]), (4, .val false [.lit (.int .i64 0)]), (2, .adr (.box 2) [(0, 0)] 2 0), (1, .val false [.lit (.int .i64 x1)])], [(2, [.sl false 3 (CV.frzEs (x0.Rows.map Vrow.row)), .sl false 1 (CV.frzEs (x0.Pvid.map intRow))])]⟩ (by kernel_rfl) ?_
        refine LAt.done [5, 12, 11, 20, 19, 18, 17, 16, 15, 14, 13, 10, 9, 8, 7, 6, 4, 2, 1] [2] ⟨22, 0, [(5, .val false [.lit (.int .i64 (IntKind.wrap .i64 (y1 + 1)))]), (12, .val false [.lit (.int .i64 (IntKind.wrap .i64 (y1 + 1)))]), (11, .val false [.lit (.int .i64 y1)]), (20, .val false [.lit (.bool false)]), (19, .val false [.lit (.int .i64 x1)]), (18, .val false [.lit (.int .i64 v3.Id)]), (17, .fad ([.lit (.int .i64 v3.Id), .lit (.int .i64 v3.Members), .lit (.int .i64 v3.Bare)])), (16, .fad ([.lit (.int .i64 v3.Id), .lit (.int .i64 v3.Members), .lit (.int .i64 v3.Bare)])), (15, .val false [.lit (.int .i64 y1)]), (14, .val false [.sl false 3 (CV.frzEs (x0.Rows.map Vrow.row))]), (13, .adr (.box 2) [(0, 0)] 2 0), (10, .val false [.lit (.bool true)]), (9, .val false [.lit (.int .i64 (x0.Rows.length : Int))]), (8, .val false [.sl false 3 (CV.frzEs (x0.Rows.map Vrow.row))]), (7, .adr (.box 2) [(0, 0)] 2 0), (6, .val false [.lit (.int .i64 y1)]), (4, .val false [.lit (.int .i64 0)]), (2, .adr (.box 2) [(0, 0)] 2 0), (1, .val false [.lit (.int .i64 x1)])], [(2, [.sl false 3 (CV.frzEs (x0.Rows.map Vrow.row)), .sl false 1 (CV.frzEs (x0.Pvid.map intRow))])]⟩ (by kernel_rfl) (by kernel_rfl) ?_
        exact Exists.intro (mo2, (IntKind.wrap .i64 (y1 + 1))) (And.intro H (And.intro (Nat.lt_succ_self mo2) (St.sub_of [5, 4, 2, 1] [2] (by kernel_rfl))))
      · rw [h2, cond_true] at H
        refine Tr.cond (b := true) (by kernel_rfl) (fun _ => ?_) (fun h => nomatch h)
        refine Tr.rs ?_
        refine LAt.run tOk 2 ⟨22, 0, [(4, .val false [.lit (.int .i64 y1)]), (21, .val false [.lit (.int .i64 y1)]), (20, .val false [.lit (.bool true)]), (19, .val false [.lit (.int .i64 x1)]), (18, .val false [.lit (.int .i64 v3.Id)]), (17, .fad ([.lit (.int .i64 v3.Id), .lit (.int .i64 v3.Members), .lit (.int .i64 v3.Bare)])), (16, .fad ([.lit (.int .i64 v3.Id), .lit (.int .i64 v3.Members), .lit (.int .i64 v3.Bare)])), (15, .val false [.lit (.int .i64 y1)]), (14, .val false [.sl false 3 (CV.frzEs (x0.Rows.map Vrow.row))]), (13, .adr (.box 2) [(0, 0)] 2 0), (10, .val false [.lit (.bool true)]), (9, .val false [.lit (.int .i64 (x0.Rows.length : Int))]), (8, .val false [.sl false 3 (CV.frzEs (x0.Rows.map Vrow.row))]), (7, .adr (.box 2) [(0, 0)] 2 0), (6, .val false [.lit (.int .i64 y1)]), (5, .val false [.lit (.int .i64 y1)]), (2, .adr (.box 2) [(0, 0)] 2 0), (1, .val false [.lit (.int .i64 x1)])], [(2, [.sl false 3 (CV.frzEs (x0.Rows.map Vrow.row)), .sl false 1 (CV.frzEs (x0.Pvid.map intRow))])]⟩ (by kernel_rfl) ?_
        refine LAt.done [4, 21, 20, 19, 18, 17, 16, 15, 14, 13, 10, 9, 8, 7, 6, 5, 2, 1] [2] ⟨22, 0, [(4, .val false [.lit (.int .i64 y1)]), (21, .val false [.lit (.int .i64 y1)]), (20, .val false [.lit (.bool true)]), (19, .val false [.lit (.int .i64 x1)]), (18, .val false [.lit (.int .i64 v3.Id)]), (17, .fad ([.lit (.int .i64 v3.Id), .lit (.int .i64 v3.Members), .lit (.int .i64 v3.Bare)])), (16, .fad ([.lit (.int .i64 v3.Id), .lit (.int .i64 v3.Members), .lit (.int .i64 v3.Bare)])), (15, .val false [.lit (.int .i64 y1)]), (14, .val false [.sl false 3 (CV.frzEs (x0.Rows.map Vrow.row))]), (13, .adr (.box 2) [(0, 0)] 2 0), (10, .val false [.lit (.bool true)]), (9, .val false [.lit (.int .i64 (x0.Rows.length : Int))]), (8, .val false [.sl false 3 (CV.frzEs (x0.Rows.map Vrow.row))]), (7, .adr (.box 2) [(0, 0)] 2 0), (6, .val false [.lit (.int .i64 y1)]), (5, .val false [.lit (.int .i64 y1)]), (2, .adr (.box 2) [(0, 0)] 2 0), (1, .val false [.lit (.int .i64 x1)])], [(2, [.sl false 3 (CV.frzEs (x0.Rows.map Vrow.row)), .sl false 1 (CV.frzEs (x0.Pvid.map intRow))])]⟩ (by kernel_rfl) (by kernel_rfl) ?_
        refine Tr.ret ?_
        have H := Option.some.inj H
        subst H
        have H := Ho2
        dsimp only at H
        have H := Option.some.inj H
        subst H
        exact Fin.of _ [(false, [.lit (.int .i64 y1)])] (by kernel_rfl) rfl rfl

def spec_EgressOfF (n : Nat) (x0 : Vtab) (x1 : Int) : Option (Int) :=
  ((spec_RowAtF n x0 x1).bind fun r1 => (bif (decide (r1 < 0)) then (some 0) else ((idx x0.Rows r1).bind fun v2 => (some v2.Members))))
/-- loop.example/g00326/spec.EgressOf -/
theorem spec_EgressOf (n : Nat) (x0 : Vtab) (x1 : Int) (r : Int) (H : spec_EgressOfF n x0 x1 = some r) : LCall Try.prog 18 [.val true (CV.frzRow (Vtab.row x0)), .val false [.lit (.int .i64 x1)]] [.val false [.lit (.int .i64 r)]] [] := by
  refine LCall.of_body tOk Try.func18 rfl (c := (.seq (.region 0 (rg Try.f18 0) false) (.seq (.region 1 (rg Try.f18 1) false) (.seq (.seq (.region 2 (rg Try.f18 2) false) (.cond (.tmp 10) (.seq (.region 3 (rg Try.f18 3) false) .ret) .skip)) (.seq (.region 4 (rg Try.f18 4) false) .ret))))) (by kernel_rfl) (Nat.le_of_ble_eq_true (by kernel_rfl)) 0 (rs := [.tmp 4]) rfl [] .nil [(false, [.lit (.int .i64 r)])] [] [] fun cx => ?_
  show Tr _ _ _ ⟨17, 0, [(0, .val true [.sl false 3 (CV.frzEs (x0.Rows.map Vrow.row)), .sl false 1 (CV.frzEs (x0.Pvid.map intRow))]), (1, .val false [.lit (.int .i64 x1)])], []⟩ _
  unfold spec_EgressOfF at H
  refine Tr.rs ?_
  refine LAt.run tOk 2 ⟨17, 0, [(4, .val false [.lit (.int .i64 0)]), (2, .adr (.box 2) [(0, 0)] 2 0), (0, .val true [.sl false 3 (CV.frzEs (x0.Rows.map Vrow.row)), .sl false 1 (CV.frzEs (x0.Pvid.map intRow))]), (1, .val false [.lit (.int .i64 x1)])], [(2, [.sl false 3 (CV.frzEs (x0.Rows.map Vrow.row)), .sl false 1 (CV.frzEs (x0.Pvid.map intRow))])]⟩ (by kernel_rfl) ?_
  refine LAt.done [4, 2, 1] [2] ⟨17, 0, [(4, .val false [.lit (.int .i64 0)]), (2, .adr (.box 2) [(0, 0)] 2 0), (1, .val false [.lit (.int .i64 x1)])], [(2, [.sl false 3 (CV.frzEs (x0.Rows.map Vrow.row)), .sl false 1 (CV.frzEs (x0.Pvid.map intRow))])]⟩ (by kernel_rfl) (by kernel_rfl) ?_
  refine Tr.rs ?_
  refine LAt.run tOk 2 ⟨17, 0, [(7, .val false [.lit (.int .i64 x1)]), (6, .val true [.sl false 3 (CV.frzEs (x0.Rows.map Vrow.row)), .sl false 1 (CV.frzEs (x0.Pvid.map intRow))]), (4, .val false [.lit (.int .i64 0)]), (2, .adr (.box 2) [(0, 0)] 2 0), (1, .val false [.lit (.int .i64 x1)])], [(2, [.sl false 3 (CV.frzEs (x0.Rows.map Vrow.row)), .sl false 1 (CV.frzEs (x0.Pvid.map intRow))])]⟩ (by kernel_rfl) ?_
  obtain ⟨r1, er1, H⟩ := bind_some H
  refine LAt.callP tOk [.rd, .rd] (f := 58) (av := #[.tmp 6, .tmp 7]) (ats := #[40, 3]) (d := (some 8)) (ty := 3) (g := none) (by kernel_rfl) (by kernel_rfl) (by kernel_rfl) [] ⟨17, 0, [(8, .val false [.lit (.int .i64 r1)]), (7, .val false [.lit (.int .i64 x1)]), (6, .val true [.sl false 3 (CV.frzEs (x0.Rows.map Vrow.row)), .sl false 1 (CV.frzEs (x0.Pvid.map intRow))]), (4, .val false [.lit (.int .i64 0)]), (2, .adr (.box 2) [(0, 0)] 2 0), (1, .val false [.lit (.int .i64 x1)])], [(2, [.sl false 3 (CV.frzEs (x0.Rows.map Vrow.row)), .sl false 1 (CV.frzEs (x0.Pvid.map intRow))])]⟩ ⟨17, 0, [(8, .val false [.lit (.int .i64 r1)]), (7, .val false [.lit (.int .i64 x1)]), (6, .val true [.sl false 3 (CV.frzEs (x0.Rows.map Vrow.row)), .sl false 1 (CV.frzEs (x0.Pvid.map intRow))]), (4, .val false [.lit (.int .i64 0)]), (2, .adr (.box 2) [(0, 0)] 2 0), (1, .val false [.lit (.int .i64 x1)])], [(2, [.sl false 3 (CV.frzEs (x0.Rows.map Vrow.row)), .sl false 1 (CV.frzEs (x0.Pvid.map intRow))])]⟩ (spec_RowAt n x0 x1 r1 er1) (by kernel_rfl) (.inl rfl) rfl ?_
  refine LAt.run tOk 1 ⟨17, 0, [(5, .val false [.lit (.int .i64 r1)]), (8, .val false [.lit (.int .i64 r1)]), (7, .val false [.lit (.int .i64 x1)]), (6, .val true [.sl false 3 (CV.frzEs (x0.Rows.map Vrow.row)), .sl false 1 (CV.frzEs (x0.Pvid.map intRow))]), (4, .val false [.lit (.int .i64 0)]), (2, .adr (.box 2) [(0, 0)] 2 0), (1, .val false [.lit (.int .i64 x1)])], [(2, [.sl false 3 (CV.frzEs (x0.Rows.map Vrow.row)), .sl false 1 (CV.frzEs (x0.Pvid.map intRow))])]⟩ (by kernel_rfl) ?_
  refine LAt.done [5, 4, 2] [2] ⟨17, 0, [(5, .val false [.lit (.int .i64 r1)]), (4, .val false [.lit (.int .i64 0)]), (2, .adr (.box 2) [(0, 0)] 2 0)], [(2, [.sl false 3 (CV.frzEs (x0.Rows.map Vrow.row)), .sl false 1 (CV.frzEs (x0.Pvid.map intRow))])]⟩ (by kernel_rfl) (by kernel_rfl) ?_
  refine Tr.seq ?_
  refine Tr.rs ?_
  refine LAt.run tOk 2 ⟨17, 0, [(10, .val false [.lit (.bool (decide (r1 < 0)))]), (9, .val false [.lit (.int .i64 r1)]), (5, .val false [.lit (.int .i64 r1)]), (4, .val false [.lit (.int .i64 0)]), (2, .adr (.box 2) [(0, 0)] 2 0)], [(2, [.sl false 3 (CV.frzEs (x0.Rows.map Vrow.row)), .sl false 1 (CV.frzEs (x0.Pvid.map intRow))])]⟩ (by kernel_rfl) ?_
  refine LAt.done [10, 5, 4, 2] [2] ⟨17, 0, [(10, .val false [.lit (.bool (decide (r1 < 0)))]), (5, .val false [.lit (.int .i64 r1)]), (4, .val false [.lit (.int .i64 0)]), (2, .adr (.box 2) [(0, 0)] 2 0)], [(2, [.sl false 3 (CV.frzEs (x0.Rows.map Vrow.row)), .sl false 1 (CV.frzEs (x0.Pvid.map intRow))])]⟩ (by kernel_rfl) (by kernel_rfl) ?_
  cases h1 : (decide (r1 < 0))
  · rw [h1, cond_false] at H
    refine Tr.cond (b := false) (by kernel_rfl) (fun h => nomatch h) (fun _ => ?_)
    refine Tr.skip ?_
    show Tr _ _ _ _ _
    refine Tr.rs ?_
    refine LAt.run tOk 3 ⟨17, 0, [(13, .val false [.lit (.int .i64 r1)]), (12, .val false [.sl false 3 (CV.frzEs (x0.Rows.map Vrow.row))]), (11, .adr (.box 2) [(0, 0)] 2 0), (10, .val false [.lit (.bool false)]), (5, .val false [.lit (.int .i64 r1)]), (4, .val false [.lit (.int .i64 0)]), (2, .adr (.box 2) [(0, 0)] 2 0)], [(2, [.sl false 3 (CV.frzEs (x0.Rows.map Vrow.row)), .sl false 1 (CV.frzEs (x0.Pvid.map intRow))])]⟩ (by kernel_rfl) ?_
    obtain ⟨v2, ev2, H⟩ := bind_some H
    refine LAt.indexF tOk (t := 38) (ty := 0) (x := (.tmp 12)) (y := (.tmp 13)) (d := 14) (g := none) ⟨(.slot 12), [], 0, false, 3, (CV.frzEs (x0.Rows.map Vrow.row))⟩ r1 [.lit (.int .i64 v2.Id), .lit (.int .i64 v2.Members), .lit (.int .i64 v2.Bare)] ⟨17, 0, [(14, .fad ([.lit (.int .i64 v2.Id), .lit (.int .i64 v2.Members), .lit (.int .i64 v2.Bare)])), (13, .val false [.lit (.int .i64 r1)]), (12, .val false [.sl false 3 (CV.frzEs (x0.Rows.map Vrow.row))]), (11, .adr (.box 2) [(0, 0)] 2 0), (10, .val false [.lit (.bool false)]), (5, .val false [.lit (.int .i64 r1)]), (4, .val false [.lit (.int .i64 0)]), (2, .adr (.box 2) [(0, 0)] 2 0)], [(2, [.sl false 3 (CV.frzEs (x0.Rows.map Vrow.row)), .sl false 1 (CV.frzEs (x0.Pvid.map intRow))])]⟩ (by kernel_rfl) (by kernel_rfl) (by kernel_rfl) (by kernel_rfl) rfl (idx_isF ev2) (by kernel_rfl) ?_
    refine LAt.run tOk 3 ⟨17, 0, [(4, .val false [.lit (.int .i64 v2.Members)]), (16, .val false [.lit (.int .i64 v2.Members)]), (15, .fad ([.lit (.int .i64 v2.Members), .lit (.int .i64 v2.Bare)])), (14, .fad ([.lit (.int .i64 v2.Id), .lit (.int .i64 v2.Members), .lit (.int .i64 v2.Bare)])), (13, .val false [.lit (.int .i64 r1)]), (12, .val false [.sl false 3 (CV.frzEs (x0.Rows.map Vrow.row))]), (11, .adr (.box 2) [(0, 0)] 2 0), (10, .val false [.lit (.bool false)]), (5, .val false [.lit (.int .i64 r1)]), (2, .adr (.box 2) [(0, 0)] 2 0)], [(2, [.sl false 3 (CV.frzEs (x0.Rows.map Vrow.row)), .sl false 1 (CV.frzEs (x0.Pvid.map intRow))])]⟩ (by kernel_rfl) ?_
    refine LAt.done [4] [] ⟨17, 0, [(4, .val false [.lit (.int .i64 v2.Members)])], []⟩ (by kernel_rfl) (by kernel_rfl) ?_
    refine Tr.ret ?_
    have H := Option.some.inj H
    subst H
    exact Fin.of _ [(false, [.lit (.int .i64 v2.Members)])] (by kernel_rfl) rfl rfl
  · rw [h1, cond_true] at H
    refine Tr.cond (b := true) (by kernel_rfl) (fun _ => ?_) (fun h => nomatch h)
    refine Tr.rs ?_
    refine LAt.run tOk 1 ⟨17, 0, [(4, .val false [.lit (.int .i64 0)]), (10, .val false [.lit (.bool true)]), (5, .val false [.lit (.int .i64 r1)]), (2, .adr (.box 2) [(0, 0)] 2 0)], [(2, [.sl false 3 (CV.frzEs (x0.Rows.map Vrow.row)), .sl false 1 (CV.frzEs (x0.Pvid.map intRow))])]⟩ (by kernel_rfl) ?_
    refine LAt.done [4, 5, 2] [2] ⟨17, 0, [(4, .val false [.lit (.int .i64 0)]), (5, .val false [.lit (.int .i64 r1)]), (2, .adr (.box 2) [(0, 0)] 2 0)], [(2, [.sl false 3 (CV.frzEs (x0.Rows.map Vrow.row)), .sl false 1 (CV.frzEs (x0.Pvid.map intRow))])]⟩ (by kernel_rfl) (by kernel_rfl) ?_
    refine Tr.ret ?_
    have H := Option.some.inj H
    subst H
    exact Fin.of _ [(false, [.lit (.int .i64 0)])] (by kernel_rfl) rfl rfl

def impl_RowAt_L1 (n : Nat) : Nat → Vtab → Int → Int → Option ((Int) ⊕ (Int))
  | 0, _, _, _ => none
  | mo2 + 1, x0, x1, y1 => (bif (decide (y1 < (x0.Rows.length : Int))) then ((idx x0.Rows y1).bind fun v3 => (bif (v3.Id == x1) then (some (Sum.inr y1)) else (impl_RowAt_L1 n mo2 x0 x1 (IntKind.wrap .i64 (y1 + 1))))) else (some (Sum.inl y1)))
def impl_RowAtF (n : Nat) (x0 : Vtab) (x1 : Int) : Option (Int) :=
  ((impl_RowAt_L1 n n x0 x1 0).bind fun o => match o with | .inl y1 => (some (-1)) | .inr r => some r)
/-- loop.example/g00326/impl.RowAt -/
theorem impl_RowAt (n : Nat) (x0 : Vtab) (x1 : Int) (r : Int) (H : impl_RowAtF n x0 x1 = some r) : LCall Try.prog 61 [.val true (CV.frzRow (Vtab.row x0)), .val false [.lit (.int .i64 x1)]] [.val false [.lit (.int .i64 r)]] [] := by
  refine LCall.of_body tOk Try.func61 rfl (c := (.seq (.region 0 (rg Try.f61 0) false) (.seq (.seq (.region 1 (rg Try.f61 1) false) (.block 0 (.loop (.seq (.region 2 (rg Try.f61 2) false) (.seq (.cond (.tmp 11) .skip (.exit 0)) (.seq (.block 1 (.seq (.region 3 (rg Try.f61 3) false) (.seq (.region 4 (rg Try.f61 4) false) (.cond (.tmp 18) (.seq (.region 5 (rg Try.f61 5) false) .ret) .skip)))) (.region 6 (rg Try.f61 6) false))))))) (.seq (.region 7 (rg Try.f61 7) false) .ret)))) (by kernel_rfl) (Nat.le_of_ble_eq_true (by kernel_rfl)) 0 (rs := [.tmp 4]) rfl [] .nil [(false, [.lit (.int .i64 r)])] [] [] fun cx => ?_
  show Tr _ _ _ ⟨21, 0, [(0, .val true [.sl false 3 (CV.frzEs (x0.Rows.map Vrow.row)), .sl false 1 (CV.frzEs (x0.Pvid.map intRow))]), (1, .val false [.lit (.int .i64 x1)])], []⟩ _
  unfold impl_RowAtF at H
  refine Tr.rs ?_
  refine LAt.run tOk 2 ⟨21, 0, [(4, .val false [.lit (.int .i64 0)]), (2, .adr (.box 2) [(0, 0)] 2 0), (0, .val true [.sl false 3 (CV.frzEs (x0.Rows.map Vrow.row)), .sl false 1 (CV.frzEs (x0.Pvid.map intRow))]), (1, .val false [.lit (.int .i64 x1)])], [(2, [.sl false 3 (CV.frzEs (x0.Rows.map Vrow.row)), .sl false 1 (CV.frzEs (x0.Pvid.map intRow))])]⟩ (by kernel_rfl) ?_
  refine LAt.done [4, 2, 1] [2] ⟨21, 0, [(4, .val false [.lit (.int .i64 0)]), (2, .adr (.box 2) [(0, 0)] 2 0), (1, .val false [.lit (.int .i64 x1)])], [(2, [.sl false 3 (CV.frzEs (x0.Rows.map Vrow.row)), .sl false 1 (CV.frzEs (x0.Pvid.map intRow))])]⟩ (by kernel_rfl) (by kernel_rfl) ?_
  refine Tr.seq ?_
  refine Tr.rs ?_
  refine LAt.run tOk 2 ⟨21, 0, [(8, .val false [.sl false 3 (CV.frzEs (x0.Rows.map Vrow.row))]), (7, .adr (.box 2) [(0, 0)] 2 0), (4, .val false [.lit (.int .i64 0)]), (2, .adr (.box 2) [(0, 0)] 2 0), (1, .val false [.lit (.int .i64 x1)])], [(2, [.sl false 3 (CV.frzEs (x0.Rows.map Vrow.row)), .sl false 1 (CV.frzEs (x0.Pvid.map intRow))])]⟩ (by kernel_rfl) ?_
  refine LAt.lenE tOk (t := 38) (ty := 3) (e := 81) (x := (.tmp 8)) (d := 9) (g := none) ⟨(.slot 8), [], 0, false, 3, (CV.frzEs (x0.Rows.map Vrow.row))⟩ (x0.Rows).length ⟨21, 0, [(9, .val false [.lit (.int .i64 (x0.Rows.length : Int))]), (8, .val false [.sl false 3 (CV.frzEs (x0.Rows.map Vrow.row))]), (7, .adr (.box 2) [(0, 0)] 2 0), (4, .val false [.lit (.int .i64 0)]), (2, .adr (.box 2) [(0, 0)] 2 0), (1, .val false [.lit (.int .i64 x1)])], [(2, [.sl false 3 (CV.frzEs (x0.Rows.map Vrow.row)), .sl false 1 (CV.frzEs (x0.Pvid.map intRow))])]⟩ (by kernel_rfl) (by kernel_rfl) (by kernel_rfl) (by kernel_rfl) (by kernel_rfl) (frz_len _ _) (by kernel_rfl) ?_
  refine LAt.run tOk 1 ⟨21, 0, [(10, .val false [.lit (.int .i64 0)]), (9, .val false [.lit (.int .i64 (x0.Rows.length : Int))]), (8, .val false [.sl false 3 (CV.frzEs (x0.Rows.map Vrow.row))]), (7, .adr (.box 2) [(0, 0)] 2 0), (4, .val false [.lit (.int .i64 0)]), (2, .adr (.box 2) [(0, 0)] 2 0), (1, .val false [.lit (.int .i64 x1)])], [(2, [.sl false 3 (CV.frzEs (x0.Rows.map Vrow.row)), .sl false 1 (CV.frzEs (x0.Pvid.map intRow))])]⟩ (by kernel_rfl) ?_
  refine LAt.done [10, 9, 8, 4, 1] [] ⟨21, 0, [(10, .val false [.lit (.int .i64 0)]), (9, .val false [.lit (.int .i64 (x0.Rows.length : Int))]), (8, .val false [.sl false 3 (CV.frzEs (x0.Rows.map Vrow.row))]), (4, .val false [.lit (.int .i64 0)]), (1, .val false [.lit (.int .i64 x1)])], []⟩ (by kernel_rfl) (by kernel_rfl) ?_
  obtain ⟨o2, eo2, Ho2⟩ := bind_some H
  clear H
  refine Tr.block ?_
  refine Tr.loop (ι := Nat × (Int)) (fun v => ⟨21, 0, [(10, .val false [.lit (.int .i64 v.2)]), (9, .val false [.lit (.int .i64 (x0.Rows.length : Int))]), (8, .val false [.sl false 3 (CV.frzEs (x0.Rows.map Vrow.row))]), (4, .val false [.lit (.int .i64 0)]), (1, .val false [.lit (.int .i64 x1)])], []⟩) (fun v => impl_RowAt_L1 n v.1 x0 x1 v.2 = some o2) (fun v => v.1) (n, 0) eo2 (St.sub_of [10, 9, 8, 4, 1] [] (by kernel_rfl)) ?_
  rintro ⟨mo2, y1⟩ H
  obtain _ | mo2 := mo2
  · cases (show (none : Option _) = some o2 from H)
  · rw [impl_RowAt_L1] at H
    show Tr _ _ _ ⟨21, 0, [(10, .val false [.lit (.int .i64 y1)]), (9, .val false [.lit (.int .i64 (x0.Rows.length : Int))]), (8, .val false [.sl false 3 (CV.frzEs (x0.Rows.map Vrow.row))]), (4, .val false [.lit (.int .i64 0)]), (1, .val false [.lit (.int .i64 x1)])], []⟩ _
    refine Tr.rs ?_
    refine LAt.run tOk 1 ⟨21, 0, [(11, .val false [.lit (.bool (decide (y1 < (x0.Rows.length : Int))))]), (10, .val false [.lit (.int .i64 y1)]), (9, .val false [.lit (.int .i64 (x0.Rows.length : Int))]), (8, .val false [.sl false 3 (CV.frzEs (x0.Rows.map Vrow.row))]), (4, .val false [.lit (.int .i64 0)]), (1, .val false [.lit (.int .i64 x1)])], []⟩ (by kernel_rfl) ?_
    refine LAt.done [11, 10, 9, 8, 4, 1] [] ⟨21, 0, [(11, .val false [.lit (.bool (decide (y1 < (x0.Rows.length : Int))))]), (10, .val false [.lit (.int .i64 y1)]), (9, .val false [.lit (.int .i64 (x0.Rows.length : Int))]), (8, .val false [.sl false 3 (CV.frzEs (x0.Rows.map Vrow.row))]), (4, .val false [.lit (.int .i64 0)]), (1, .val false [.lit (.int .i64 x1)])], []⟩ (by kernel_rfl) (by kernel_rfl) ?_
    refine Tr.seq ?_
    cases h1 : (decide (y1 < (x0.Rows.length : Int)))
    · rw [h1, cond_false] at H
      refine Tr.cond (b := false) (by kernel_rfl) (fun h => nomatch h) (fun _ => ?_)
      refine Tr.exit ?_
      refine And.intro (fun _ => ?_) (fun h => absurd rfl h)
      have H := Option.some.inj H
      subst H
      have H := Ho2
      dsimp only at H
      show Tr _ _ _ _ _
      show Tr _ _ _ _ _
      refine Tr.rs ?_
      refine LAt.run tOk 1 ⟨21, 0, [(4, .val false [.lit (.int .i64 (-1))]), (11, .val false [.lit (.bool false)]), (10, .val false [.lit (.int .i64 y1)]), (9, .val false [.lit (.int .i64 (x0.Rows.length : Int))]), (8, .val false [.sl false 3 (CV.frzEs (x0.Rows.map Vrow.row))]), (1, .val false [.lit (.int .i64 x1)])], []⟩ (by kernel_rfl) ?_
      refine LAt.done [4] [] ⟨21, 0, [(4, .val false [.lit (.int .i64 (-1))])], []⟩ (by kernel_rfl) (by kernel_rfl) ?_
      refine Tr.ret ?_
      have H := Option.some.inj H
      subst H
      exact Fin.of _ [(false, [.lit (.int .i64 (-1))])] (by kernel_rfl) rfl rfl
    · rw [h1, cond_true] at H
      refine Tr.cond (b := true) (by kernel_rfl) (fun _ => ?_) (fun h => nomatch h)
      refine Tr.skip ?_
      show Tr _ _ _ _ _
      refine Tr.seq ?_
      refine Tr.block ?_
      refine Tr.rs ?_
      refine LAt.run tOk 1 ⟨21, 0, [(12, .val false [.lit (.int .i64 y1)]), (11, .val false [.lit (.bool true)]), (10, .val false [.lit (.int .i64 y1)]), (9, .val false [.lit (.int .i64 (x0.Rows.length : Int))]), (8, .val false [.sl false 3 (CV.frzEs (x0.Rows.map Vrow.row))]), (4, .val false [.lit (.int .i64 0)]), (1, .val false [.lit (.int .i64 x1)])], []⟩ (by kernel_rfl) ?_
      obtain ⟨v3, ev3, H⟩ := bind_some H
      refine LAt.indexF tOk (t := 38) (ty := 0) (x := (.tmp 8)) (y := (.tmp 10)) (d := 13) (g := none) ⟨(.slot 8), [], 0, false, 3, (CV.frzEs (x0.Rows.map Vrow.row))⟩ y1 [.lit (.int .i64 v3.Id), .lit (.int .i64 v3.Members), .lit (.int .i64 v3.Bare)] ⟨21, 0, [(13, .fad ([.lit (.int .i64 v3.Id), .lit (.int .i64 v3.Members), .lit (.int .i64 v3.Bare)])), (12, .val false [.lit (.int .i64 y1)]), (11, .val false [.lit (.bool true)]), (10, .val false [.lit (.int .i64 y1)]), (9, .val false [.lit (.int .i64 (x0.Rows.length : Int))]), (8, .val false [.sl false 3 (CV.frzEs (x0.Rows.map Vrow.row))]), (4, .val false [.lit (.int .i64 0)]), (1, .val false [.lit (.int .i64 x1)])], []⟩ (by kernel_rfl) (by kernel_rfl) (by kernel_rfl) (by kernel_rfl) rfl (idx_isF ev3) (by kernel_rfl) ?_
      refine LAt.run tOk 4 ⟨21, 0, [(5, .val false [.lit (.int .i64 y1)]), (6, .adr (.box 6) [(0, 0)] 3 0), (14, .val true [.lit (.int .i64 v3.Id), .lit (.int .i64 v3.Members), .lit (.int .i64 v3.Bare)]), (13, .fad ([.lit (.int .i64 v3.Id), .lit (.int .i64 v3.Members), .lit (.int .i64 v3.Bare)])), (12, .val false [.lit (.int .i64 y1)]), (11, .val false [.lit (.bool true)]), (10, .val false [.lit (.int .i64 y1)]), (9, .val false [.lit (.int .i64 (x0.Rows.length : Int))]), (8, .val false [.sl false 3 (CV.frzEs (x0.Rows.map Vrow.row))]), (4, .val false [.lit (.int .i64 0)]), (1, .val false [.lit (.int .i64 x1)])], [(6, [.lit (.int .i64 v3.Id), .lit (.int .i64 v3.Members), .lit (.int .i64 v3.Bare)])]⟩ (by kernel_rfl) ?_
      refine LAt.done [5, 6, 14, 13, 12, 11, 10, 9, 8, 4, 1] [6] ⟨21, 0, [(5, .val false [.lit (.int .i64 y1)]), (6, .adr (.box 6) [(0, 0)] 3 0), (14, .val true [.lit (.int .i64 v3.Id), .lit (.int .i64 v3.Members), .lit (.int .i64 v3.Bare)]), (13, .fad ([.lit (.int .i64 v3.Id), .lit (.int .i64 v3.Members), .lit (.int .i64 v3.Bare)])), (12, .val false [.lit (.int .i64 y1)]), (11, .val false [.lit (.bool true)]), (10, .val false [.lit (.int .i64 y1)]), (9, .val false [.lit (.int .i64 (x0.Rows.length : Int))]), (8, .val false [.sl false 3 (CV.frzEs (x0.Rows.map Vrow.row))]), (4, .val false [.lit (.int .i64 0)]), (1, .val false [.lit (.int .i64 x1)])], [(6, [.lit (.int .i64 v3.Id), .lit (.int .i64 v3.Members), .lit (.int .i64 v3.Bare)])]⟩ (by kernel_rfl) (by kernel_rfl) ?_
      refine Tr.rs ?_
      refine LAt.run tOk 4 ⟨21, 0, [(18, .val false [.lit (.bool (v3.Id == x1))]), (17, .val false [.lit (.int .i64 x1)]), (16, .val false [.lit (.int .i64 v3.Id)]), (15, .adr (.box 6) [(0, 0)] 3 0), (5, .val false [.lit (.int .i64 y1)]), (6, .adr (.box 6) [(0, 0)] 3 0), (14, .val true [.lit (.int .i64 v3.Id), .lit (.int .i64 v3.Members), .lit (.int .i64 v3.Bare)]), (13, .fad ([.lit (.int .i64 v3.Id), .lit (.int .i64 v3.Members), .lit (.int .i64 v3.Bare)])), (12, .val false [.lit (.int .i64 y1)]), (11, .val false [.lit (.bool true)]), (10, .val false [.lit (.int .i64 y1)]), (9, .val false [.lit (.int .i64 (x0.Rows.length : Int))]), (8, .val false [.sl false 3 (CV.frzEs (x0.Rows.map Vrow.row))]), (4, .val false [.lit (.int .i64 0)]), (1, .val false [.lit (.int .i64 x1)])], [(6, [.lit (.int .i64 v3.Id), .lit (.int .i64 v3.Members), .lit (.int .i64 v3.Bare)])]⟩ (by kernel_rfl) ?_
      refine LAt.done [18, 17, 16, 15, 5, 6, 14, 13, 12, 11, 10, 9, 8, 4, 1] [6] ⟨21, 0, [(18, .val false [.lit (.bool (v3.Id == x1))]), (17, .val false [.lit (.int .i64 x1)]), (16, .val false [.lit (.int .i64 v3.Id)]), (15, .adr (.box 6) [(0, 0)] 3 0), (5, .val false [.lit (.int .i64 y1)]), (6, .adr (.box 6) [(0, 0)] 3 0), (14, .val true [.lit (.int .i64 v3.Id), .lit (.int .i64 v3.Members), .lit (.int .i64 v3.Bare)]), (13, .fad ([.lit (.int .i64 v3.Id), .lit (.int .i64 v3.Members), .lit (.int .i64 v3.Bare)])), (12, .val false [.lit (.int .i64 y1)]), (11, .val false [.lit (.bool true)]), (10, .val false [.lit (.int .i64 y1)]), (9, .val false [.lit (.int .i64 (x0.Rows.length : Int))]), (8, .val false [.sl false 3 (CV.frzEs (x0.Rows.map Vrow.row))]), (4, .val false [.lit (.int .i64 0)]), (1, .val false [.lit (.int .i64 x1)])], [(6, [.lit (.int .i64 v3.Id), .lit (.int .i64 v3.Members), .lit (.int .i64 v3.Bare)])]⟩ (by kernel_rfl) (by kernel_rfl) ?_
      cases h2 : (v3.Id == x1)
      · rw [h2, cond_false] at H
        refine Tr.cond (b := false) (by kernel_rfl) (fun h => nomatch h) (fun _ => ?_)
        refine Tr.skip ?_
        show Tr _ _ _ _ _
        refine Tr.at ?_
        refine LAt.run tOk 2 ⟨21, 0, [(10, .val false [.lit (.int .i64 (IntKind.wrap .i64 (y1 + 1)))]), (20, .val false [.lit (.int .i64 (IntKind.wrap .i64 (y1 + 1)))]), (18, .val false [.lit (.bool false)]), (17, .val false [.lit (.int .i64 x1)]), (16, .val false [.lit (.int .i64 v3.Id)]), (15, .adr (.box 6) [(0, 0)] 3 0), (5, .val false [.lit (.int .i64 y1)]), (6, .adr (.box 6) [(0, 0)] 3 0), (14, .val true [.lit (.int .i64 v3.Id), .lit (.int .i64 v3.Members), .lit (.int .i64 v3.Bare)]), (13, .fad ([.lit (.int .i64 v3.Id), .lit (.int .i64 v3.Members), .lit (.int .i64 v3.Bare)])), (12, .val false [.lit (.int .i64 y1)]), (11, .val false [.lit (.bool true)]), (9, .val false [.lit (.int .i64 (x0.Rows.length : Int))]), (8, .val false [.sl false 3 (CV.frzEs (x0.Rows.map Vrow.row))]), (4, .val false [.lit (.int .i64 0)]), (1, .val false [.lit (.int .i64 x1)])], [(6, [.lit (.int .i64 v3.Id), .lit (.int .i64 v3.Members), .lit (.int .i64 v3.Bare)])]⟩ (by kernel_rfl) ?_
        refine LAt.done [10, 20, 18, 17, 16, 15, 5, 6, 14, 13, 12, 11, 9, 8, 4, 1] [6] ⟨21, 0, [(10, .val false [.lit (.int .i64 (IntKind.wrap .i64 (y1 + 1)))]), (20, .val false [.lit (.int .i64 (IntKind.wrap .i64 (y1 + 1)))]), (18, .val false [.lit (.bool false)]), (17, .val false [.lit (.int .i64 x1)]), (16, .val false [.lit (.int .i64 v3.Id)]), (15, .adr (.box 6) [(0, 0)] 3 0), (5, .val false [.lit (.int .i64 y1)]), (6, .adr (.box 6) [(0, 0)] 3 0), (14, .val true [.lit (.int .i64 v3.Id), .lit (.int .i64 v3.Members), .lit (.int .i64 v3.Bare)]), (13, .fad ([.lit (.int .i64 v3.Id), .lit (.int .i64 v3.Members), .lit (.int .i64 v3.Bare)])), (12, .val false [.lit (.int .i64 y1)]), (11, .val false [.lit (.bool true)]), (9, .val false [.lit (.int .i64 (x0.Rows.length : Int))]), (8, .val false [.sl false 3 (CV.frzEs (x0.Rows.map Vrow.row))]), (4, .val false [.lit (.int .i64 0)]), (1, .val false [.lit (.int .i64 x1)])], [(6, [.lit (.int .i64 v3.Id), .lit (.int .i64 v3.Members), .lit (.int .i64 v3.Bare)])]⟩ (by kernel_rfl) (by kernel_rfl) ?_
        exact Exists.intro (mo2, (IntKind.wrap .i64 (y1 + 1))) (And.intro H (And.intro (Nat.lt_succ_self mo2) (St.sub_of [10, 9, 8, 4, 1] [] (by kernel_rfl))))
      · rw [h2, cond_true] at H
        refine Tr.cond (b := true) (by kernel_rfl) (fun _ => ?_) (fun h => nomatch h)
        refine Tr.rs ?_
        refine LAt.run tOk 2 ⟨21, 0, [(4, .val false [.lit (.int .i64 y1)]), (19, .val false [.lit (.int .i64 y1)]), (18, .val false [.lit (.bool true)]), (17, .val false [.lit (.int .i64 x1)]), (16, .val false [.lit (.int .i64 v3.Id)]), (15, .adr (.box 6) [(0, 0)] 3 0), (5, .val false [.lit (.int .i64 y1)]), (6, .adr (.box 6) [(0, 0)] 3 0), (14, .val true [.lit (.int .i64 v3.Id), .lit (.int .i64 v3.Members), .lit (.int .i64 v3.Bare)]), (13, .fad ([.lit (.int .i64 v3.Id), .lit (.int .i64 v3.Members), .lit (.int .i64 v3.Bare)])), (12, .val false [.lit (.int .i64 y1)]), (11, .val false [.lit (.bool true)]), (10, .val false [.lit (.int .i64 y1)]), (9, .val false [.lit (.int .i64 (x0.Rows.length : Int))]), (8, .val false [.sl false 3 (CV.frzEs (x0.Rows.map Vrow.row))]), (1, .val false [.lit (.int .i64 x1)])], [(6, [.lit (.int .i64 v3.Id), .lit (.int .i64 v3.Members), .lit (.int .i64 v3.Bare)])]⟩ (by kernel_rfl) ?_
        refine LAt.done [4, 19, 18, 17, 16, 15, 5, 6, 14, 13, 12, 11, 10, 9, 8, 1] [6] ⟨21, 0, [(4, .val false [.lit (.int .i64 y1)]), (19, .val false [.lit (.int .i64 y1)]), (18, .val false [.lit (.bool true)]), (17, .val false [.lit (.int .i64 x1)]), (16, .val false [.lit (.int .i64 v3.Id)]), (15, .adr (.box 6) [(0, 0)] 3 0), (5, .val false [.lit (.int .i64 y1)]), (6, .adr (.box 6) [(0, 0)] 3 0), (14, .val true [.lit (.int .i64 v3.Id), .lit (.int .i64 v3.Members), .lit (.int .i64 v3.Bare)]), (13, .fad ([.lit (.int .i64 v3.Id), .lit (.int .i64 v3.Members), .lit (.int .i64 v3.Bare)])), (12, .val false [.lit (.int .i64 y1)]), (11, .val false [.lit (.bool true)]), (10, .val false [.lit (.int .i64 y1)]), (9, .val false [.lit (.int .i64 (x0.Rows.length : Int))]), (8, .val false [.sl false 3 (CV.frzEs (x0.Rows.map Vrow.row))]), (1, .val false [.lit (.int .i64 x1)])], [(6, [.lit (.int .i64 v3.Id), .lit (.int .i64 v3.Members), .lit (.int .i64 v3.Bare)])]⟩ (by kernel_rfl) (by kernel_rfl) ?_
        refine Tr.ret ?_
        have H := Option.some.inj H
        subst H
        have H := Ho2
        dsimp only at H
        have H := Option.some.inj H
        subst H
        exact Fin.of _ [(false, [.lit (.int .i64 y1)])] (by kernel_rfl) rfl rfl

def impl_EgressOfF (n : Nat) (x0 : Vtab) (x1 : Int) : Option (Int) :=
  ((impl_RowAtF n x0 x1).bind fun r1 => (bif (decide (r1 < 0)) then (some 0) else ((idx x0.Rows r1).bind fun v2 => (some v2.Members))))
/-- loop.example/g00326/impl.EgressOf -/
theorem impl_EgressOf (n : Nat) (x0 : Vtab) (x1 : Int) (r : Int) (H : impl_EgressOfF n x0 x1 = some r) : LCall Try.prog 20 [.val true (CV.frzRow (Vtab.row x0)), .val false [.lit (.int .i64 x1)]] [.val false [.lit (.int .i64 r)]] [] := by
  refine LCall.of_body tOk Try.func20 rfl (c := (.seq (.region 0 (rg Try.f20 0) false) (.seq (.region 1 (rg Try.f20 1) false) (.seq (.seq (.region 2 (rg Try.f20 2) false) (.cond (.tmp 10) (.seq (.region 3 (rg Try.f20 3) false) .ret) .skip)) (.seq (.region 4 (rg Try.f20 4) false) .ret))))) (by kernel_rfl) (Nat.le_of_ble_eq_true (by kernel_rfl)) 0 (rs := [.tmp 4]) rfl [] .nil [(false, [.lit (.int .i64 r)])] [] [] fun cx => ?_
  show Tr _ _ _ ⟨17, 0, [(0, .val true [.sl false 3 (CV.frzEs (x0.Rows.map Vrow.row)), .sl false 1 (CV.frzEs (x0.Pvid.map intRow))]), (1, .val false [.lit (.int .i64 x1)])], []⟩ _
  unfold impl_EgressOfF at H
  refine Tr.rs ?_
  refine LAt.run tOk 2 ⟨17, 0, [(4, .val false [.lit (.int .i64 0)]), (2, .adr (.box 2) [(0, 0)] 2 0), (0, .val true [.sl false 3 (CV.frzEs (x0.Rows.map Vrow.row)), .sl false 1 (CV.frzEs (x0.Pvid.map intRow))]), (1, .val false [.lit (.int .i64 x1)])], [(2, [.sl false 3 (CV.frzEs (x0.Rows.map Vrow.row)), .sl false 1 (CV.frzEs (x0.Pvid.map intRow))])]⟩ (by kernel_rfl) ?_
  refine LAt.done [4, 2, 1] [2] ⟨17, 0, [(4, .val false [.lit (.int .i64 0)]), (2, .adr (.box 2) [(0, 0)] 2 0), (1, .val false [.lit (.int .i64 x1)])], [(2, [.sl false 3 (CV.frzEs (x0.Rows.map Vrow.row)), .sl false 1 (CV.frzEs (x0.Pvid.map intRow))])]⟩ (by kernel_rfl) (by kernel_rfl) ?_
  refine Tr.rs ?_
  refine LAt.run tOk 2 ⟨17, 0, [(7, .val false [.lit (.int .i64 x1)]), (6, .val true [.sl false 3 (CV.frzEs (x0.Rows.map Vrow.row)), .sl false 1 (CV.frzEs (x0.Pvid.map intRow))]), (4, .val false [.lit (.int .i64 0)]), (2, .adr (.box 2) [(0, 0)] 2 0), (1, .val false [.lit (.int .i64 x1)])], [(2, [.sl false 3 (CV.frzEs (x0.Rows.map Vrow.row)), .sl false 1 (CV.frzEs (x0.Pvid.map intRow))])]⟩ (by kernel_rfl) ?_
  obtain ⟨r1, er1, H⟩ := bind_some H
  refine LAt.callP tOk [.rd, .rd] (f := 61) (av := #[.tmp 6, .tmp 7]) (ats := #[40, 3]) (d := (some 8)) (ty := 3) (g := none) (by kernel_rfl) (by kernel_rfl) (by kernel_rfl) [] ⟨17, 0, [(8, .val false [.lit (.int .i64 r1)]), (7, .val false [.lit (.int .i64 x1)]), (6, .val true [.sl false 3 (CV.frzEs (x0.Rows.map Vrow.row)), .sl false 1 (CV.frzEs (x0.Pvid.map intRow))]), (4, .val false [.lit (.int .i64 0)]), (2, .adr (.box 2) [(0, 0)] 2 0), (1, .val false [.lit (.int .i64 x1)])], [(2, [.sl false 3 (CV.frzEs (x0.Rows.map Vrow.row)), .sl false 1 (CV.frzEs (x0.Pvid.map intRow))])]⟩ ⟨17, 0, [(8, .val false [.lit (.int .i64 r1)]), (7, .val false [.lit (.int .i64 x1)]), (6, .val true [.sl false 3 (CV.frzEs (x0.Rows.map Vrow.row)), .sl false 1 (CV.frzEs (x0.Pvid.map intRow))]), (4, .val false [.lit (.int .i64 0)]), (2, .adr (.box 2) [(0, 0)] 2 0), (1, .val false [.lit (.int .i64 x1)])], [(2, [.sl false 3 (CV.frzEs (x0.Rows.map Vrow.row)), .sl false 1 (CV.frzEs (x0.Pvid.map intRow))])]⟩ (impl_RowAt n x0 x1 r1 er1) (by kernel_rfl) (.inl rfl) rfl ?_
  refine LAt.run tOk 1 ⟨17, 0, [(5, .val false [.lit (.int .i64 r1)]), (8, .val false [.lit (.int .i64 r1)]), (7, .val false [.lit (.int .i64 x1)]), (6, .val true [.sl false 3 (CV.frzEs (x0.Rows.map Vrow.row)), .sl false 1 (CV.frzEs (x0.Pvid.map intRow))]), (4, .val false [.lit (.int .i64 0)]), (2, .adr (.box 2) [(0, 0)] 2 0), (1, .val false [.lit (.int .i64 x1)])], [(2, [.sl false 3 (CV.frzEs (x0.Rows.map Vrow.row)), .sl false 1 (CV.frzEs (x0.Pvid.map intRow))])]⟩ (by kernel_rfl) ?_
  refine LAt.done [5, 4, 2] [2] ⟨17, 0, [(5, .val false [.lit (.int .i64 r1)]), (4, .val false [.lit (.int .i64 0)]), (2, .adr (.box 2) [(0, 0)] 2 0)], [(2, [.sl false 3 (CV.frzEs (x0.Rows.map Vrow.row)), .sl false 1 (CV.frzEs (x0.Pvid.map intRow))])]⟩ (by kernel_rfl) (by kernel_rfl) ?_
  refine Tr.seq ?_
  refine Tr.rs ?_
  refine LAt.run tOk 2 ⟨17, 0, [(10, .val false [.lit (.bool (decide (r1 < 0)))]), (9, .val false [.lit (.int .i64 r1)]), (5, .val false [.lit (.int .i64 r1)]), (4, .val false [.lit (.int .i64 0)]), (2, .adr (.box 2) [(0, 0)] 2 0)], [(2, [.sl false 3 (CV.frzEs (x0.Rows.map Vrow.row)), .sl false 1 (CV.frzEs (x0.Pvid.map intRow))])]⟩ (by kernel_rfl) ?_
  refine LAt.done [10, 5, 4, 2] [2] ⟨17, 0, [(10, .val false [.lit (.bool (decide (r1 < 0)))]), (5, .val false [.lit (.int .i64 r1)]), (4, .val false [.lit (.int .i64 0)]), (2, .adr (.box 2) [(0, 0)] 2 0)], [(2, [.sl false 3 (CV.frzEs (x0.Rows.map Vrow.row)), .sl false 1 (CV.frzEs (x0.Pvid.map intRow))])]⟩ (by kernel_rfl) (by kernel_rfl) ?_
  cases h1 : (decide (r1 < 0))
  · rw [h1, cond_false] at H
    refine Tr.cond (b := false) (by kernel_rfl) (fun h => nomatch h) (fun _ => ?_)
    refine Tr.skip ?_
    show Tr _ _ _ _ _
    refine Tr.rs ?_
    refine LAt.run tOk 3 ⟨17, 0, [(13, .val false [.lit (.int .i64 r1)]), (12, .val false [.sl false 3 (CV.frzEs (x0.Rows.map Vrow.row))]), (11, .adr (.box 2) [(0, 0)] 2 0), (10, .val false [.lit (.bool false)]), (5, .val false [.lit (.int .i64 r1)]), (4, .val false [.lit (.int .i64 0)]), (2, .adr (.box 2) [(0, 0)] 2 0)], [(2, [.sl false 3 (CV.frzEs (x0.Rows.map Vrow.row)), .sl false 1 (CV.frzEs (x0.Pvid.map intRow))])]⟩ (by kernel_rfl) ?_
    obtain ⟨v2, ev2, H⟩ := bind_some H
    refine LAt.indexF tOk (t := 38) (ty := 0) (x := (.tmp 12)) (y := (.tmp 13)) (d := 14) (g := none) ⟨(.slot 12), [], 0, false, 3, (CV.frzEs (x0.Rows.map Vrow.row))⟩ r1 [.lit (.int .i64 v2.Id), .lit (.int .i64 v2.Members), .lit (.int .i64 v2.Bare)] ⟨17, 0, [(14, .fad ([.lit (.int .i64 v2.Id), .lit (.int .i64 v2.Members), .lit (.int .i64 v2.Bare)])), (13, .val false [.lit (.int .i64 r1)]), (12, .val false [.sl false 3 (CV.frzEs (x0.Rows.map Vrow.row))]), (11, .adr (.box 2) [(0, 0)] 2 0), (10, .val false [.lit (.bool false)]), (5, .val false [.lit (.int .i64 r1)]), (4, .val false [.lit (.int .i64 0)]), (2, .adr (.box 2) [(0, 0)] 2 0)], [(2, [.sl false 3 (CV.frzEs (x0.Rows.map Vrow.row)), .sl false 1 (CV.frzEs (x0.Pvid.map intRow))])]⟩ (by kernel_rfl) (by kernel_rfl) (by kernel_rfl) (by kernel_rfl) rfl (idx_isF ev2) (by kernel_rfl) ?_
    refine LAt.run tOk 3 ⟨17, 0, [(4, .val false [.lit (.int .i64 v2.Members)]), (16, .val false [.lit (.int .i64 v2.Members)]), (15, .fad ([.lit (.int .i64 v2.Members), .lit (.int .i64 v2.Bare)])), (14, .fad ([.lit (.int .i64 v2.Id), .lit (.int .i64 v2.Members), .lit (.int .i64 v2.Bare)])), (13, .val false [.lit (.int .i64 r1)]), (12, .val false [.sl false 3 (CV.frzEs (x0.Rows.map Vrow.row))]), (11, .adr (.box 2) [(0, 0)] 2 0), (10, .val false [.lit (.bool false)]), (5, .val false [.lit (.int .i64 r1)]), (2, .adr (.box 2) [(0, 0)] 2 0)], [(2, [.sl false 3 (CV.frzEs (x0.Rows.map Vrow.row)), .sl false 1 (CV.frzEs (x0.Pvid.map intRow))])]⟩ (by kernel_rfl) ?_
    refine LAt.done [4] [] ⟨17, 0, [(4, .val false [.lit (.int .i64 v2.Members)])], []⟩ (by kernel_rfl) (by kernel_rfl) ?_
    refine Tr.ret ?_
    have H := Option.some.inj H
    subst H
    exact Fin.of _ [(false, [.lit (.int .i64 v2.Members)])] (by kernel_rfl) rfl rfl
  · rw [h1, cond_true] at H
    refine Tr.cond (b := true) (by kernel_rfl) (fun _ => ?_) (fun h => nomatch h)
    refine Tr.rs ?_
    refine LAt.run tOk 1 ⟨17, 0, [(4, .val false [.lit (.int .i64 0)]), (10, .val false [.lit (.bool true)]), (5, .val false [.lit (.int .i64 r1)]), (2, .adr (.box 2) [(0, 0)] 2 0)], [(2, [.sl false 3 (CV.frzEs (x0.Rows.map Vrow.row)), .sl false 1 (CV.frzEs (x0.Pvid.map intRow))])]⟩ (by kernel_rfl) ?_
    refine LAt.done [4, 5, 2] [2] ⟨17, 0, [(4, .val false [.lit (.int .i64 0)]), (5, .val false [.lit (.int .i64 r1)]), (2, .adr (.box 2) [(0, 0)] 2 0)], [(2, [.sl false 3 (CV.frzEs (x0.Rows.map Vrow.row)), .sl false 1 (CV.frzEs (x0.Pvid.map intRow))])]⟩ (by kernel_rfl) (by kernel_rfl) ?_
    refine Tr.ret ?_
    have H := Option.some.inj H
    subst H
    exact Fin.of _ [(false, [.lit (.int .i64 0)])] (by kernel_rfl) rfl rfl

def laws_eqVrowF (n : Nat) (x0 : Vrow) (x1 : Vrow) : Option (Bool) :=
  (bif (x0.Id != x1.Id) then (some false) else (bif (x0.Members != x1.Members) then (some false) else (bif (x0.Bare != x1.Bare) then (some false) else (some true))))
/-- loop.example/g00326/laws.eqVrow -/
theorem laws_eqVrow (n : Nat) (x0 : Vrow) (x1 : Vrow) (r : Bool) (H : laws_eqVrowF n x0 x1 = some r) : LCall Try.prog 82 [.val true (CV.frzRow (Vrow.row x0)), .val true (CV.frzRow (Vrow.row x1))] [.val false [.lit (.bool r)]] [] := by
  refine LCall.of_body tOk Try.func82 rfl (c := (.seq (.region 0 (rg Try.f82 0) false) (.seq (.seq (.region 1 (rg Try.f82 1) false) (.cond (.tmp 9) (.seq (.region 2 (rg Try.f82 2) false) .ret) .skip)) (.seq (.seq (.region 3 (rg Try.f82 3) false) (.cond (.tmp 14) (.seq (.region 4 (rg Try.f82 4) false) .ret) .skip)) (.seq (.seq (.region 5 (rg Try.f82 5) false) (.cond (.tmp 19) (.seq (.region 6 (rg Try.f82 6) false) .ret) .skip)) (.seq (.region 7 (rg Try.f82 7) false) .ret)))))) (by kernel_rfl) (Nat.le_of_ble_eq_true (by kernel_rfl)) 0 (rs := [.tmp 4]) rfl [] .nil [(false, [.lit (.bool r)])] [] [] fun cx => ?_
  show Tr _ _ _ ⟨20, 0, [(0, .val true [.lit (.int .i64 x0.Id), .lit (.int .i64 x0.Members), .lit (.int .i64 x0.Bare)]), (1, .val true [.lit (.int .i64 x1.Id), .lit (.int .i64 x1.Members), .lit (.int .i64 x1.Bare)])], []⟩ _
  unfold laws_eqVrowF at H
  refine Tr.rs ?_
  refine LAt.run tOk 3 ⟨20, 0, [(4, .val false [.lit (.bool false)]), (3, .adr (.box 3) [(0, 0)] 3 0), (2, .adr (.box 2) [(0, 0)] 3 0), (0, .val true [.lit (.int .i64 x0.Id), .lit (.int .i64 x0.Members), .lit (.int .i64 x0.Bare)]), (1, .val true [.lit (.int .i64 x1.Id), .lit (.int .i64 x1.Members), .lit (.int .i64 x1.Bare)])], [(3, [.lit (.int .i64 x1.Id), .lit (.int .i64 x1.Members), .lit (.int .i64 x1.Bare)]), (2, [.lit (.int .i64 x0.Id), .lit (.int .i64 x0.Members), .lit (.int .i64 x0.Bare)])]⟩ (by kernel_rfl) ?_
  refine LAt.done [4, 3, 2] [3, 2] ⟨20, 0, [(4, .val false [.lit (.bool false)]), (3, .adr (.box 3) [(0, 0)] 3 0), (2, .adr (.box 2) [(0, 0)] 3 0)], [(3, [.lit (.int .i64 x1.Id), .lit (.int .i64 x1.Members), .lit (.int .i64 x1.Bare)]), (2, [.lit (.int .i64 x0.Id), .lit (.int .i64 x0.Members), .lit (.int .i64 x0.Bare)])]⟩ (by kernel_rfl) (by kernel_rfl) ?_
  refine Tr.seq ?_
  refine Tr.rs ?_
  refine LAt.run tOk 5 ⟨20, 0, [(9, .val false [.lit (.bool (x0.Id != x1.Id))]), (8, .val false [.lit (.int .i64 x1.Id)]), (7, .adr (.box 3) [(0, 0)] 3 0), (6, .val false [.lit (.int .i64 x0.Id)]), (5, .adr (.box 2) [(0, 0)] 3 0), (4, .val false [.lit (.bool false)]), (3, .adr (.box 3) [(0, 0)] 3 0), (2, .adr (.box 2) [(0, 0)] 3 0)], [(3, [.lit (.int .i64 x1.Id), .lit (.int .i64 x1.Members), .lit (.int .i64 x1.Bare)]), (2, [.lit (.int .i64 x0.Id), .lit (.int .i64 x0.Members), .lit (.int .i64 x0.Bare)])]⟩ (by kernel_rfl) ?_
  refine LAt.done [9, 4, 3, 2] [3, 2] ⟨20, 0, [(9, .val false [.lit (.bool (x0.Id != x1.Id))]), (4, .val false [.lit (.bool false)]), (3, .adr (.box 3) [(0, 0)] 3 0), (2, .adr (.box 2) [(0, 0)] 3 0)], [(3, [.lit (.int .i64 x1.Id), .lit (.int .i64 x1.Members), .lit (.int .i64 x1.Bare)]), (2, [.lit (.int .i64 x0.Id), .lit (.int .i64 x0.Members), .lit (.int .i64 x0.Bare)])]⟩ (by kernel_rfl) (by kernel_rfl) ?_
  cases h1 : (x0.Id != x1.Id)
  · rw [h1, cond_false] at H
    refine Tr.cond (b := false) (by kernel_rfl) (fun h => nomatch h) (fun _ => ?_)
    refine Tr.skip ?_
    show Tr _ _ _ _ _
    refine Tr.seq ?_
    refine Tr.rs ?_
    refine LAt.run tOk 5 ⟨20, 0, [(14, .val false [.lit (.bool (x0.Members != x1.Members))]), (13, .val false [.lit (.int .i64 x1.Members)]), (12, .adr (.box 3) [(0, 0)] 3 1), (11, .val false [.lit (.int .i64 x0.Members)]), (10, .adr (.box 2) [(0, 0)] 3 1), (9, .val false [.lit (.bool false)]), (4, .val false [.lit (.bool false)]), (3, .adr (.box 3) [(0, 0)] 3 0), (2, .adr (.box 2) [(0, 0)] 3 0)], [(3, [.lit (.int .i64 x1.Id), .lit (.int .i64 x1.Members), .lit (.int .i64 x1.Bare)]), (2, [.lit (.int .i64 x0.Id), .lit (.int .i64 x0.Members), .lit (.int .i64 x0.Bare)])]⟩ (by kernel_rfl) ?_
    refine LAt.done [14, 4, 3, 2] [3, 2] ⟨20, 0, [(14, .val false [.lit (.bool (x0.Members != x1.Members))]), (4, .val false [.lit (.bool false)]), (3, .adr (.box 3) [(0, 0)] 3 0), (2, .adr (.box 2) [(0, 0)] 3 0)], [(3, [.lit (.int .i64 x1.Id), .lit (.int .i64 x1.Members), .lit (.int .i64 x1.Bare)]), (2, [.lit (.int .i64 x0.Id), .lit (.int .i64 x0.Members), .lit (.int .i64 x0.Bare)])]⟩ (by kernel_rfl) (by kernel_rfl) ?_
    cases h2 : (x0.Members != x1.Members)
    · rw [h2, cond_false] at H
      refine Tr.cond (b := false) (by kernel_rfl) (fun h => nomatch h) (fun _ => ?_)
      refine Tr.skip ?_
      show Tr _ _ _ _ _
      refine Tr.seq ?_
      refine Tr.rs ?_
      refine LAt.run tOk 5 ⟨20, 0, [(19, .val false [.lit (.bool (x0.Bare != x1.Bare))]), (18, .val false [.lit (.int .i64 x1.Bare)]), (17, .adr (.box 3) [(0, 0)] 3 2), (16, .val false [.lit (.int .i64 x0.Bare)]), (15, .adr (.box 2) [(0, 0)] 3 2), (14, .val false [.lit (.bool false)]), (4, .val false [.lit (.bool false)]), (3, .adr (.box 3) [(0, 0)] 3 0), (2, .adr (.box 2) [(0, 0)] 3 0)], [(3, [.lit (.int .i64 x1.Id), .lit (.int .i64 x1.Members), .lit (.int .i64 x1.Bare)]), (2, [.lit (.int .i64 x0.Id), .lit (.int .i64 x0.Members), .lit (.int .i64 x0.Bare)])]⟩ (by kernel_rfl) ?_
      refine LAt.done [19, 4] [] ⟨20, 0, [(19, .val false [.lit (.bool (x0.Bare != x1.Bare))]), (4, .val false [.lit (.bool false)])], []⟩ (by kernel_rfl) (by kernel_rfl) ?_
      cases h3 : (x0.Bare != x1.Bare)
      · rw [h3, cond_false] at H
        refine Tr.cond (b := false) (by kernel_rfl) (fun h => nomatch h) (fun _ => ?_)
        refine Tr.skip ?_
        show Tr _ _ _ _ _
        refine Tr.rs ?_
        refine LAt.run tOk 1 ⟨20, 0, [(4, .val false [.lit (.bool true)]), (19, .val false [.lit (.bool false)])], []⟩ (by kernel_rfl) ?_
        refine LAt.done [4] [] ⟨20, 0, [(4, .val false [.lit (.bool true)])], []⟩ (by kernel_rfl) (by kernel_rfl) ?_
        refine Tr.ret ?_
        have H := Option.some.inj H
        subst H
        exact Fin.of _ [(false, [.lit (.bool true)])] (by kernel_rfl) rfl rfl
      · rw [h3, cond_true] at H
        refine Tr.cond (b := true) (by kernel_rfl) (fun _ => ?_) (fun h => nomatch h)
        refine Tr.rs ?_
        refine LAt.run tOk 1 ⟨20, 0, [(4, .val false [.lit (.bool false)]), (19, .val false [.lit (.bool true)])], []⟩ (by kernel_rfl) ?_
        refine LAt.done [4] [] ⟨20, 0, [(4, .val false [.lit (.bool false)])], []⟩ (by kernel_rfl) (by kernel_rfl) ?_
        refine Tr.ret ?_
        have H := Option.some.inj H
        subst H
        exact Fin.of _ [(false, [.lit (.bool false)])] (by kernel_rfl) rfl rfl
    · rw [h2, cond_true] at H
      refine Tr.cond (b := true) (by kernel_rfl) (fun _ => ?_) (fun h => nomatch h)
      refine Tr.rs ?_
      refine LAt.run tOk 1 ⟨20, 0, [(4, .val false [.lit (.bool false)]), (14, .val false [.lit (.bool true)]), (3, .adr (.box 3) [(0, 0)] 3 0), (2, .adr (.box 2) [(0, 0)] 3 0)], [(3, [.lit (.int .i64 x1.Id), .lit (.int .i64 x1.Members), .lit (.int .i64 x1.Bare)]), (2, [.lit (.int .i64 x0.Id), .lit (.int .i64 x0.Members), .lit (.int .i64 x0.Bare)])]⟩ (by kernel_rfl) ?_
      refine LAt.done [4, 3, 2] [3, 2] ⟨20, 0, [(4, .val false [.lit (.bool false)]), (3, .adr (.box 3) [(0, 0)] 3 0), (2, .adr (.box 2) [(0, 0)] 3 0)], [(3, [.lit (.int .i64 x1.Id), .lit (.int .i64 x1.Members), .lit (.int .i64 x1.Bare)]), (2, [.lit (.int .i64 x0.Id), .lit (.int .i64 x0.Members), .lit (.int .i64 x0.Bare)])]⟩ (by kernel_rfl) (by kernel_rfl) ?_
      refine Tr.ret ?_
      have H := Option.some.inj H
      subst H
      exact Fin.of _ [(false, [.lit (.bool false)])] (by kernel_rfl) rfl rfl
  · rw [h1, cond_true] at H
    refine Tr.cond (b := true) (by kernel_rfl) (fun _ => ?_) (fun h => nomatch h)
    refine Tr.rs ?_
    refine LAt.run tOk 1 ⟨20, 0, [(4, .val false [.lit (.bool false)]), (9, .val false [.lit (.bool true)]), (3, .adr (.box 3) [(0, 0)] 3 0), (2, .adr (.box 2) [(0, 0)] 3 0)], [(3, [.lit (.int .i64 x1.Id), .lit (.int .i64 x1.Members), .lit (.int .i64 x1.Bare)]), (2, [.lit (.int .i64 x0.Id), .lit (.int .i64 x0.Members), .lit (.int .i64 x0.Bare)])]⟩ (by kernel_rfl) ?_
    refine LAt.done [4, 3, 2] [3, 2] ⟨20, 0, [(4, .val false [.lit (.bool false)]), (3, .adr (.box 3) [(0, 0)] 3 0), (2, .adr (.box 2) [(0, 0)] 3 0)], [(3, [.lit (.int .i64 x1.Id), .lit (.int .i64 x1.Members), .lit (.int .i64 x1.Bare)]), (2, [.lit (.int .i64 x0.Id), .lit (.int .i64 x0.Members), .lit (.int .i64 x0.Bare)])]⟩ (by kernel_rfl) (by kernel_rfl) ?_
    refine Tr.ret ?_
    have H := Option.some.inj H
    subst H
    exact Fin.of _ [(false, [.lit (.bool false)])] (by kernel_rfl) rfl rfl

def laws_eqVrowS_L1 (n : Nat) : Nat → (List Vrow) → (List Vrow) → Int → Option ((Int) ⊕ (Bool))
  | 0, _, _, _ => none
  | mo2 + 1, x0, x1, y1 => (bif (decide (y1 < (x0.length : Int))) then ((idx x0 y1).bind fun v3 => ((idx x1 y1).bind fun v4 => ((laws_eqVrowF n v3 v4).bind fun r5 => (bif (!r5) then (some (Sum.inr false)) else (laws_eqVrowS_L1 n mo2 x0 x1 (IntKind.wrap .i64 (y1 + 1))))))) else (some (Sum.inl y1)))
def laws_eqVrowSF (n : Nat) (x0 : (List Vrow)) (x1 : (List Vrow)) : Option (Bool) :=
  (bif ((x0.length : Int) != (x1.length : Int)) then (some false) else ((laws_eqVrowS_L1 n n x0 x1 0).bind fun o => match o with | .inl y1 => (some true) | .inr r => some r))
/-- loop.example/g00326/laws.eqVrowS -/
theorem laws_eqVrowS (n : Nat) (x0 : (List Vrow)) (x1 : (List Vrow)) (r : Bool) (H : laws_eqVrowSF n x0 x1 = some r) : LCall Try.prog 62 [.val false [.sl false 3 (CV.frzEs (x0.map Vrow.row))], .val false [.sl false 3 (CV.frzEs (x1.map Vrow.row))]] [.val false [.lit (.bool r)]] [] := by
  refine LCall.of_body tOk Try.func62 rfl (c := (.seq (.region 0 (rg Try.f62 0) false) (.seq (.seq (.region 1 (rg Try.f62 1) false) (.cond (.tmp 10) (.seq (.region 2 (rg Try.f62 2) false) .ret) .skip)) (.seq (.seq (.region 3 (rg Try.f62 3) false) (.block 0 (.loop (.seq (.seq (.region 4 (rg Try.f62 4) false) (.cond (.tmp 14) .skip (.exit 0))) (.seq (.block 1 (.seq (.region 6 (rg Try.f62 6) true) (.cond (.tmp 26) (.seq (.region 7 (rg Try.f62 7) false) .ret) .skip))) (.region 5 (rg Try.f62 5) false)))))) (.seq (.region 8 (rg Try.f62 8) false) .ret))))) (by kernel_rfl) (Nat.le_of_ble_eq_true (by kernel_rfl)) 0 (rs := [.tmp 4]) rfl [] .nil [(false, [.lit (.bool r)])] [] [] fun cx => ?_
  show Tr _ _ _ ⟨27, 0, [(0, .val false [.sl false 3 (CV.frzEs (x0.map Vrow.row))]), (1, .val false [.sl false 3 (CV.frzEs (x1.map Vrow.row))])], []⟩ _
  unfold laws_eqVrowSF at H
  refine Tr.rs ?_
  refine LAt.run tOk 1 ⟨27, 0, [(4, .val false [.lit (.bool false)]), (0, .val false [.sl false 3 (CV.frzEs (x0.map Vrow.row))]), (1, .val false [.sl false 3 (CV.frzEs (x1.map Vrow.row))])], []⟩ (by kernel_rfl) ?_
  refine LAt.done [4, 0, 1] [] ⟨27, 0, [(4, .val false [.lit (.bool false)]), (0, .val false [.sl false 3 (CV.frzEs (x0.map Vrow.row))]), (1, .val false [.sl false 3 (CV.frzEs (x1.map Vrow.row))])], []⟩ (by kernel_rfl) (by kernel_rfl) ?_
  refine Tr.seq ?_
  refine Tr.rs ?_
  refine LAt.run tOk 1 ⟨27, 0, [(6, .val false [.sl false 3 (CV.frzEs (x0.map Vrow.row))]), (4, .val false [.lit (.bool false)]), (0, .val false [.sl false 3 (CV.frzEs (x0.map Vrow.row))]), (1, .val false [.sl false 3 (CV.frzEs (x1.map Vrow.row))])], []⟩ (by kernel_rfl) ?_
  refine LAt.lenE tOk (t := 38) (ty := 3) (e := 81) (x := (.tmp 6)) (d := 7) (g := none) ⟨(.slot 6), [], 0, false, 3, (CV.frzEs (x0.map Vrow.row))⟩ (x0).length ⟨27, 0, [(7, .val false [.lit (.int .i64 (x0.length : Int))]), (6, .val false [.sl false 3 (CV.frzEs (x0.map Vrow.row))]), (4, .val false [.lit (.bool false)]), (0, .val false [.sl false 3 (CV.frzEs (x0.map Vrow.row))]), (1, .val false [.sl false 3 (CV.frzEs (x1.map Vrow.row))])], []⟩ (by kernel_rfl) (by kernel_rfl) (by kernel_rfl) (by kernel_rfl) (by kernel_rfl) (frz_len _ _) (by kernel_rfl) ?_
  refine LAt.run tOk 1 ⟨27, 0, [(8, .val false [.sl false 3 (CV.frzEs (x1.map Vrow.row))]), (7, .val false [.lit (.int .i64 (x0.length : Int))]), (6, .val false [.sl false 3 (CV.frzEs (x0.map Vrow.row))]), (4, .val false [.lit (.bool false)]), (0, .val false [.sl false 3 (CV.frzEs (x0.map Vrow.row))]), (1, .val false [.sl false 3 (CV.frzEs (x1.map Vrow.row))])], []⟩ (by kernel_rfl) ?_
  refine LAt.lenE tOk (t := 38) (ty := 3) (e := 81) (x := (.tmp 8)) (d := 9) (g := none) ⟨(.slot 8), [], 0, false, 3, (CV.frzEs (x1.map Vrow.row))⟩ (x1).length ⟨27, 0, [(9, .val false [.lit (.int .i64 (x1.length : Int))]), (8, .val false [.sl false 3 (CV.frzEs (x1.map Vrow.row))]), (7, .val false [.lit (.int .i64 (x0.length : Int))]), (6, .val false [.sl false 3 (CV.frzEs (x0.map Vrow.row))]), (4, .val false [.lit (.bool false)]), (0, .val false [.sl false 3 (CV.frzEs (x0.map Vrow.row))]), (1, .val false [.sl false 3 (CV.frzEs (x1.map Vrow.row))])], []⟩ (by kernel_rfl) (by kernel_rfl) (by kernel_rfl) (by kernel_rfl) (by kernel_rfl) (frz_len _ _) (by kernel_rfl) ?_
  refine LAt.run tOk 1 ⟨27, 0, [(10, .val false [.lit (.bool ((x0.length : Int) != (x1.length : Int)))]), (9, .val false [.lit (.int .i64 (x1.length : Int))]), (8, .val false [.sl false 3 (CV.frzEs (x1.map Vrow.row))]), (7, .val false [.lit (.int .i64 (x0.length : Int))]), (6, .val false [.sl false 3 (CV.frzEs (x0.map Vrow.row))]), (4, .val false [.lit (.bool false)]), (0, .val false [.sl false 3 (CV.frzEs (x0.map Vrow.row))]), (1, .val false [.sl false 3 (CV.frzEs (x1.map Vrow.row))])], []⟩ (by kernel_rfl) ?_
  refine LAt.done [10, 4, 0, 1] [] ⟨27, 0, [(10, .val false [.lit (.bool ((x0.length : Int) != (x1.length : Int)))]), (4, .val false [.lit (.bool false)]), (0, .val false [.sl false 3 (CV.frzEs (x0.map Vrow.row))]), (1, .val false [.sl false 3 (CV.frzEs (x1.map Vrow.row))])], []⟩ (by kernel_rfl) (by kernel_rfl) ?_
  cases h1 : ((x0.length : Int) != (x1.length : Int))
  · rw [h1, cond_false] at H
    refine Tr.cond (b := false) (by kernel_rfl) (fun h => nomatch h) (fun _ => ?_)
    refine Tr.skip ?_
    show Tr _ _ _ _ _
    refine Tr.seq ?_
    refine Tr.rs ?_
    refine LAt.run tOk 1 ⟨27, 0, [(5, .val false [.lit (.int .i64 0)]), (10, .val false [.lit (.bool false)]), (4, .val false [.lit (.bool false)]), (0, .val false [.sl false 3 (CV.frzEs (x0.map Vrow.row))]), (1, .val false [.sl false 3 (CV.frzEs (x1.map Vrow.row))])], []⟩ (by kernel_rfl) ?_
    refine LAt.done [5, 4, 0, 1] [] ⟨27, 0, [(5, .val false [.lit (.int .i64 0)]), (4, .val false [.lit (.bool false)]), (0, .val false [.sl false 3 (CV.frzEs (x0.map Vrow.row))]), (1, .val false [.sl false 3 (CV.frzEs (x1.map Vrow.row))])], []⟩ (by kernel_rfl) (by kernel_rfl) ?_
    obtain ⟨o2, eo2, Ho2⟩ := bind_some H
    clear H
    refine Tr.block ?_
    refine Tr.loop (ι := Nat × (Int)) (fun v => ⟨27, 0, [(5, .val false [.lit (.int .i64 v.2)]), (4, .val false [.lit (.bool false)]), (0, .val false [.sl false 3 (CV.frzEs (x0.map Vrow.row))]), (1, .val false [.sl false 3 (CV.frzEs (x1.map Vrow.row))])], []⟩) (fun v => laws_eqVrowS_L1 n v.1 x0 x1 v.2 = some o2) (fun v => v.1) (n, 0) eo2 (St.sub_of [5, 4, 0, 1] [] (by kernel_rfl)) ?_
    rintro ⟨mo2, y1⟩ H
    obtain _ | mo2 := mo2
    · cases (show (none : Option _) = some o2 from H)
    · rw [laws_eqVrowS_L1] at H
      show Tr _ _ _ ⟨27, 0, [(5, .val false [.lit (.int .i64 y1)]), (4, .val false [.lit (.bool false)]), (0, .val false [.sl false 3 (CV.frzEs (x0.map Vrow.row))]), (1, .val false [.sl false 3 (CV.frzEs (x1.map Vrow.row))])], []⟩ _
      refine Tr.seq ?_
      refine Tr.rs ?_
      refine LAt.run tOk 2 ⟨27, 0, [(12, .val false [.sl false 3 (CV.frzEs (x0.map Vrow.row))]), (11, .val false [.lit (.int .i64 y1)]), (5, .val false [.lit (.int .i64 y1)]), (4, .val false [.lit (.bool false)]), (0, .val false [.sl false 3 (CV.frzEs (x0.map Vrow.row))]), (1, .val false [.sl false 3 (CV.frzEs (x1.map Vrow.row))])], []⟩ (by kernel_rfl) ?_
      refine LAt.lenE tOk (t := 38) (ty := 3) (e := 81) (x := (.tmp 12)) (d := 13) (g := none) ⟨(.slot 12), [], 0, false, 3, (CV.frzEs (x0.map Vrow.row))⟩ (x0).length ⟨27, 0, [(13, .val false [.lit (.int .i64 (x0.length : Int))]), (12, .val false [.sl false 3 (CV.frzEs (x0.map Vrow.row))]), (11, .val false [.lit (.int .i64 y1)]), (5, .val false [.lit (.int .i64 y1)]), (4, .val false [.lit (.bool false)]), (0, .val false [.sl false 3 (CV.frzEs (x0.map Vrow.row))]), (1, .val false [.sl false 3 (CV.frzEs (x1.map Vrow.row))])], []⟩ (by kernel_rfl) (by kernel_rfl) (by kernel_rfl) (by kernel_rfl) (by kernel_rfl) (frz_len _ _) (by kernel_rfl) ?_
      refine LAt.run tOk 1 ⟨27, 0, [(14, .val false [.lit (.bool (decide (y1 < (x0.length : Int))))]), (13, .val false [.lit (.int .i64 (x0.length : Int))]), (12, .val false [.sl false 3 (CV.frzEs (x0.map Vrow.row))]), (11, .val false [.lit (.int .i64 y1)]), (5, .val false [.lit (.int .i64 y1)]), (4, .val false [.lit (.bool false)]), (0, .val false [.sl false 3 (CV.frzEs (x0.map Vrow.row))]), (1, .val false [.sl false 3 (CV.frzEs (x1.map Vrow.row))])], []⟩ (by kernel_rfl) ?_
      refine LAt.done [14, 13, 12, 11, 5, 4, 0, 1] [] ⟨27, 0, [(14, .val false [.lit (.bool (decide (y1 < (x0.length : Int))))]), (13, .val false [.lit (.int .i64 (x0.length : Int))]), (12, .val false [.sl false 3 (CV.frzEs (x0.map Vrow.row))]), (11, .val false [.lit (.int .i64 y1)]), (5, .val false [.lit (.int .i64 y1)]), (4, .val false [.lit (.bool false)]), (0, .val false [.sl false 3 (CV.frzEs (x0.map Vrow.row))]), (1, .val false [.sl false 3 (CV.frzEs (x1.map Vrow.row))])], []⟩ (by kernel_rfl) (by kernel_rfl) ?_
      cases h2 : (decide (y1 < (x0.length : Int)))
      · rw [h2, cond_false] at H
        refine Tr.cond (b := false) (by kernel_rfl) (fun h => nomatch h) (fun _ => ?_)
        refine Tr.exit ?_
        refine And.intro (fun _ => ?_) (fun h => absurd rfl h)
        have H := Option.some.inj H
        subst H
        have H := Ho2
        dsimp only at H
        show Tr _ _ _ _ _
        show Tr _ _ _ _ _
        refine Tr.rs ?_
        refine LAt.run tOk 1 ⟨27, 0, [(4, .val false [.lit (.bool true)]), (14, .val false [.lit (.bool false)]), (13, .val false [.lit (.int .i64 (x0.length : Int))]), (12, .val false [.sl false 3 (CV.frzEs (x0.map Vrow.row))]), (11, .val false [.lit (.int .i64 y1)]), (5, .val false [.lit (.int .i64 y1)]), (0, .val false [.sl false 3 (CV.frzEs (x0.map Vrow.row))]), (1, .val false [.sl false 3 (CV.frzEs (x1.map Vrow.row))])], []⟩ (by kernel_rfl) ?_
        refine LAt.done [4] [] ⟨27, 0, [(4, .val false [.lit (.bool true)])], []⟩ (by kernel_rfl) (by kernel_rfl) ?_
        refine Tr.ret ?_
        have H := Option.some.inj H
        subst H
        exact Fin.of _ [(false, [.lit (.bool true)])] (by kernel_rfl) rfl rfl
      · rw [h2, cond_true] at H
        refine Tr.cond (b := true) (by kernel_rfl) (fun _ => ?_) (fun h => nomatch h)
        refine Tr.skip ?_
        show Tr _ _ _ _ _
        refine Tr.seq ?_
        refine Tr.block ?_
        obtain ⟨v3, ev3, H⟩ := bind_some H
        obtain ⟨v4, ev4, H⟩ := bind_some H
        obtain ⟨r5, er5, H⟩ := bind_some H
        refine Tr.draws mixed 10 (by kernel_rfl) ⟨27, 0, [(26, .val false [.lit (.bool (!r5))]), (25, .val false [.lit (.bool r5)]), (24, .val true [.lit (.int .i64 v4.Id), .lit (.int .i64 v4.Members), .lit (.int .i64 v4.Bare)]), (23, .fad ([.lit (.int .i64 v4.Id), .lit (.int .i64 v4.Members), .lit (.int .i64 v4.Bare)])), (22, .val false [.lit (.int .i64 y1)]), (21, .val false [.sl false 3 (CV.frzEs (x1.map Vrow.row))]), (20, .val true [.lit (.int .i64 v3.Id), .lit (.int .i64 v3.Members), .lit (.int .i64 v3.Bare)]), (19, .fad ([.lit (.int .i64 v3.Id), .lit (.int .i64 v3.Members), .lit (.int .i64 v3.Bare)])), (18, .val false [.lit (.int .i64 y1)]), (17, .val false [.sl false 3 (CV.frzEs (x0.map Vrow.row))]), (14, .val false [.lit (.bool true)]), (13, .val false [.lit (.int .i64 (x0.length : Int))]), (12, .val false [.sl false 3 (CV.frzEs (x0.map Vrow.row))]), (11, .val false [.lit (.int .i64 y1)]), (5, .val false [.lit (.int .i64 y1)]), (4, .val false [.lit (.bool false)]), (0, .val false [.sl false 3 (CV.frzEs (x0.map Vrow.row))]), (1, .val false [.sl false 3 (CV.frzEs (x1.map Vrow.row))])], []⟩ (fun cx => ?_) ?_
        · refine AT.run tOk [(0, []), (1, [])] 8 [] [1, 0] ⟨27, 0, [(18, .val false [.lit (.int .i64 y1)]), (17, .val false [.sl false 3 (CV.frzEs (x0.map Vrow.row))]), (14, .val false [.lit (.bool true)]), (13, .val false [.lit (.int .i64 (x0.length : Int))]), (12, .val false [.sl false 3 (CV.frzEs (x0.map Vrow.row))]), (11, .val false [.lit (.int .i64 y1)]), (5, .val false [.lit (.int .i64 y1)]), (4, .val false [.lit (.bool false)]), (0, .val false [.sl false 3 (CV.frzEs (x0.map Vrow.row))]), (1, .val false [.sl false 3 (CV.frzEs (x1.map Vrow.row))])], []⟩ rfl (by kernel_rfl) (fun cx => ?_)
          refine AT.indexF tOk 2 (t := 38) (ty := 0) (x := (.tmp 17)) (y := (.tmp 18)) (d := 19) (g := none) ⟨(.slot 17), [], 0, false, 3, (CV.frzEs (x0.map Vrow.row))⟩ y1 [.lit (.int .i64 v3.Id), .lit (.int .i64 v3.Members), .lit (.int .i64 v3.Bare)] ⟨27, 0, [(19, .fad ([.lit (.int .i64 v3.Id), .lit (.int .i64 v3.Members), .lit (.int .i64 v3.Bare)])), (18, .val false [.lit (.int .i64 y1)]), (17, .val false [.sl false 3 (CV.frzEs (x0.map Vrow.row))]), (14, .val false [.lit (.bool true)]), (13, .val false [.lit (.int .i64 (x0.length : Int))]), (12, .val false [.sl false 3 (CV.frzEs (x0.map Vrow.row))]), (11, .val false [.lit (.int .i64 y1)]), (5, .val false [.lit (.int .i64 y1)]), (4, .val false [.lit (.bool false)]), (0, .val false [.sl false 3 (CV.frzEs (x0.map Vrow.row))]), (1, .val false [.sl false 3 (CV.frzEs (x1.map Vrow.row))])], []⟩ (by kernel_rfl) (by kernel_rfl) (by kernel_rfl) (by kernel_rfl) (by kernel_rfl) (by kernel_rfl) rfl (idx_isF ev3) (by kernel_rfl) (fun cx => ?_)
          refine AT.run tOk [(3, []), (4, []), (5, [])] 4 [] [5, 4, 3, 2, 1, 0] ⟨27, 0, [(22, .val false [.lit (.int .i64 y1)]), (21, .val false [.sl false 3 (CV.frzEs (x1.map Vrow.row))]), (20, .val true [.lit (.int .i64 v3.Id), .lit (.int .i64 v3.Members), .lit (.int .i64 v3.Bare)]), (19, .fad ([.lit (.int .i64 v3.Id), .lit (.int .i64 v3.Members), .lit (.int .i64 v3.Bare)])), (18, .val false [.lit (.int .i64 y1)]), (17, .val false [.sl false 3 (CV.frzEs (x0.map Vrow.row))]), (14, .val false [.lit (.bool true)]), (13, .val false [.lit (.int .i64 (x0.length : Int))]), (12, .val false [.sl false 3 (CV.frzEs (x0.map Vrow.row))]), (11, .val false [.lit (.int .i64 y1)]), (5, .val false [.lit (.int .i64 y1)]), (4, .val false [.lit (.bool false)]), (0, .val false [.sl false 3 (CV.frzEs (x0.map Vrow.row))]), (1, .val false [.sl false 3 (CV.frzEs (x1.map Vrow.row))])], []⟩ rfl (by kernel_rfl) (fun cx => ?_)
          refine AT.indexF tOk 6 (t := 38) (ty := 0) (x := (.tmp 21)) (y := (.tmp 22)) (d := 23) (g := none) ⟨(.slot 21), [], 0, false, 3, (CV.frzEs (x1.map Vrow.row))⟩ y1 [.lit (.int .i64 v4.Id), .lit (.int .i64 v4.Members), .lit (.int .i64 v4.Bare)] ⟨27, 0, [(23, .fad ([.lit (.int .i64 v4.Id), .lit (.int .i64 v4.Members), .lit (.int .i64 v4.Bare)])), (22, .val false [.lit (.int .i64 y1)]), (21, .val false [.sl false 3 (CV.frzEs (x1.map Vrow.row))]), (20, .val true [.lit (.int .i64 v3.Id), .lit (.int .i64 v3.Members), .lit (.int .i64 v3.Bare)]), (19, .fad ([.lit (.int .i64 v3.Id), .lit (.int .i64 v3.Members), .lit (.int .i64 v3.Bare)])), (18, .val false [.lit (.int .i64 y1)]), (17, .val false [.sl false 3 (CV.frzEs (x0.map Vrow.row))]), (14, .val false [.lit (.bool true)]), (13, .val false [.lit (.int .i64 (x0.length : Int))]), (12, .val false [.sl false 3 (CV.frzEs (x0.map Vrow.row))]), (11, .val false [.lit (.int .i64 y1)]), (5, .val false [.lit (.int .i64 y1)]), (4, .val false [.lit (.bool false)]), (0, .val false [.sl false 3 (CV.frzEs (x0.map Vrow.row))]), (1, .val false [.sl false 3 (CV.frzEs (x1.map Vrow.row))])], []⟩ (by kernel_rfl) (by kernel_rfl) (by kernel_rfl) (by kernel_rfl) (by kernel_rfl) (by kernel_rfl) rfl (idx_isF ev4) (by kernel_rfl) (fun cx => ?_)
          refine AT.run tOk [(7, [])] 2 [] [7, 6, 5, 4, 3, 2, 1, 0] ⟨27, 0, [(24, .val true [.lit (.int .i64 v4.Id), .lit (.int .i64 v4.Members), .lit (.int .i64 v4.Bare)]), (23, .fad ([.lit (.int .i64 v4.Id), .lit (.int .i64 v4.Members), .lit (.int .i64 v4.Bare)])), (22, .val false [.lit (.int .i64 y1)]), (21, .val false [.sl false 3 (CV.frzEs (x1.map Vrow.row))]), (20, .val true [.lit (.int .i64 v3.Id), .lit (.int .i64 v3.Members), .lit (.int .i64 v3.Bare)]), (19, .fad ([.lit (.int .i64 v3.Id), .lit (.int .i64 v3.Members), .lit (.int .i64 v3.Bare)])), (18, .val false [.lit (.int .i64 y1)]), (17, .val false [.sl false 3 (CV.frzEs (x0.map Vrow.row))]), (14, .val false [.lit (.bool true)]), (13, .val false [.lit (.int .i64 (x0.length : Int))]), (12, .val false [.sl false 3 (CV.frzEs (x0.map Vrow.row))]), (11, .val false [.lit (.int .i64 y1)]), (5, .val false [.lit (.int .i64 y1)]), (4, .val false [.lit (.bool false)]), (0, .val false [.sl false 3 (CV.frzEs (x0.map Vrow.row))]), (1, .val false [.sl false 3 (CV.frzEs (x1.map Vrow.row))])], []⟩ rfl (by kernel_rfl) (fun cx => ?_)
          refine AT.big1 tOk 8 (by kernel_rfl) (by kernel_rfl) ?_
          refine LAt.callP tOk [.rd, .rd] (f := 82) (av := #[.tmp 20, .tmp 24]) (ats := #[81, 81]) (d := (some 25)) (ty := 4) (g := none) (by kernel_rfl) (by kernel_rfl) (by kernel_rfl) [] ⟨27, 0, [(25, .val false [.lit (.bool r5)]), (24, .val true [.lit (.int .i64 v4.Id), .lit (.int .i64 v4.Members), .lit (.int .i64 v4.Bare)]), (23, .fad ([.lit (.int .i64 v4.Id), .lit (.int .i64 v4.Members), .lit (.int .i64 v4.Bare)])), (22, .val false [.lit (.int .i64 y1)]), (21, .val false [.sl false 3 (CV.frzEs (x1.map Vrow.row))]), (20, .val true [.lit (.int .i64 v3.Id), .lit (.int .i64 v3.Members), .lit (.int .i64 v3.Bare)]), (19, .fad ([.lit (.int .i64 v3.Id), .lit (.int .i64 v3.Members), .lit (.int .i64 v3.Bare)])), (18, .val false [.lit (.int .i64 y1)]), (17, .val false [.sl false 3 (CV.frzEs (x0.map Vrow.row))]), (14, .val false [.lit (.bool true)]), (13, .val false [.lit (.int .i64 (x0.length : Int))]), (12, .val false [.sl false 3 (CV.frzEs (x0.map Vrow.row))]), (11, .val false [.lit (.int .i64 y1)]), (5, .val false [.lit (.int .i64 y1)]), (4, .val false [.lit (.bool false)]), (0, .val false [.sl false 3 (CV.frzEs (x0.map Vrow.row))]), (1, .val false [.sl false 3 (CV.frzEs (x1.map Vrow.row))])], []⟩ ⟨27, 0, [(25, .val false [.lit (.bool r5)]), (24, .val true [.lit (.int .i64 v4.Id), .lit (.int .i64 v4.Members), .lit (.int .i64 v4.Bare)]), (23, .fad ([.lit (.int .i64 v4.Id), .lit (.int .i64 v4.Members), .lit (.int .i64 v4.Bare)])), (22, .val false [.lit (.int .i64 y1)]), (21, .val false [.sl false 3 (CV.frzEs (x1.map Vrow.row))]), (20, .val true [.lit (.int .i64 v3.Id), .lit (.int .i64 v3.Members), .lit (.int .i64 v3.Bare)]), (19, .fad ([.lit (.int .i64 v3.Id), .lit (.int .i64 v3.Members), .lit (.int .i64 v3.Bare)])), (18, .val false [.lit (.int .i64 y1)]), (17, .val false [.sl false 3 (CV.frzEs (x0.map Vrow.row))]), (14, .val false [.lit (.bool true)]), (13, .val false [.lit (.int .i64 (x0.length : Int))]), (12, .val false [.sl false 3 (CV.frzEs (x0.map Vrow.row))]), (11, .val false [.lit (.int .i64 y1)]), (5, .val false [.lit (.int .i64 y1)]), (4, .val false [.lit (.bool false)]), (0, .val false [.sl false 3 (CV.frzEs (x0.map Vrow.row))]), (1, .val false [.sl false 3 (CV.frzEs (x1.map Vrow.row))])], []⟩ (laws_eqVrow n v3 v4 r5 er5) (by kernel_rfl) (.inl rfl) rfl ?_
          refine LAt.fin (by kernel_rfl) (And.intro (And.intro (by kernel_rfl) (by kernel_rfl)) ?_)
          refine AT.run tOk [(9, [])] 0 [] [9, 8, 7, 6, 5, 4, 3, 2, 1, 0] ⟨27, 0, [(26, .val false [.lit (.bool (!r5))]), (25, .val false [.lit (.bool r5)]), (24, .val true [.lit (.int .i64 v4.Id), .lit (.int .i64 v4.Members), .lit (.int .i64 v4.Bare)]), (23, .fad ([.lit (.int .i64 v4.Id), .lit (.int .i64 v4.Members), .lit (.int .i64 v4.Bare)])), (22, .val false [.lit (.int .i64 y1)]), (21, .val false [.sl false 3 (CV.frzEs (x1.map Vrow.row))]), (20, .val true [.lit (.int .i64 v3.Id), .lit (.int .i64 v3.Members), .lit (.int .i64 v3.Bare)]), (19, .fad ([.lit (.int .i64 v3.Id), .lit (.int .i64 v3.Members), .lit (.int .i64 v3.Bare)])), (18, .val false [.lit (.int .i64 y1)]), (17, .val false [.sl false 3 (CV.frzEs (x0.map Vrow.row))]), (14, .val false [.lit (.bool true)]), (13, .val false [.lit (.int .i64 (x0.length : Int))]), (12, .val false [.sl false 3 (CV.frzEs (x0.map Vrow.row))]), (11, .val false [.lit (.int .i64 y1)]), (5, .val false [.lit (.int .i64 y1)]), (4, .val false [.lit (.bool false)]), (0, .val false [.sl false 3 (CV.frzEs (x0.map Vrow.row))]), (1, .val false [.sl false 3 (CV.frzEs (x1.map Vrow.row))])], []⟩ rfl (by kernel_rfl) (fun cx => ?_)
          exact AT.done [26, 25, 24, 23, 22, 21, 20, 19, 18, 17, 14, 13, 12, 11, 5, 4, 0, 1] [] _ (by kernel_rfl) (by kernel_rfl) rfl
        · cases h3 : (!r5)
          · rw [h3, cond_false] at H
            refine Tr.cond (b := false) (by kernel_rfl) (fun h => nomatch h) (fun _ => ?_)
            refine Tr.skip ?_
            show Tr _ _ _ _ _
            refine Tr.at ?_
            refine LAt.run tOk 3 ⟨27, 0, [(5, .val false [.lit (.int .i64 (IntKind.wrap .i64 (y1 + 1)))]), (16, .val false [.lit (.int .i64 (IntKind.wrap .i64 (y1 + 1)))]), (15, .val false [.lit (.int .i64 y1)]), (26, .val false [.lit (.bool false)]), (25, .val false [.lit (.bool r5)]), (24, .val true [.lit (.int .i64 v4.Id), .lit (.int .i64 v4.Members), .lit (.int .i64 v4.Bare)]), (23, .fad ([.lit (.int .i64 v4.Id), .lit (.int .i64 v4.Members), .lit (.int .i64 v4.Bare)])), (22, .val false [.lit (.int .i64 y1)]), (21, .val false [.sl false 3 (CV.frzEs (x1.map Vrow.row))]), (20, .val true [.lit (.int .i64 v3.Id), .lit (.int .i64 v3.Members), .lit (.int .i64 v3.Bare)]), (19, .fad ([.lit (.int .i64 v3.Id), .lit (.int .i64 v3.Members), .lit (.int .i64 v3.Bare)])), (18, .val false [.lit (.int .i64 y1)]), (17, .val false [.sl false 3 (CV.frzEs (x0.map Vrow.row))]), (14, .val false [.lit (.bool true)]), (13, .val false [.lit (.int .i64 (x0.length : Int))]), (12, .val false [.sl false 3 (CV.frzEs (x0.map Vrow.row))]), (11, .val false [.lit (.int .i64 y1)]), (4, .val false [.lit (.bool false)]), (0, .val false [.sl false 3 (CV.frzEs (x0.map Vrow.row))]), (1, .val false [.sl false 3 (CV.frzEs (x1.map Vrow.row))])], []⟩ (by kernel_rfl) ?_
            refine LAt.done [5, 16, 15, 26, 25, 24, 23, 22, 21, 20, 19, 18, 17, 14, 13, 12, 11, 4, 0, 1] [] ⟨27, 0, [(5, .val false [.lit (.int .i64 (IntKind.wrap .i64 (y1 + 1)))]), (16, .val false [.lit (.int .i64 (IntKind.wrap .i64 (y1 + 1)))]), (15, .val false [.lit (.int .i64 y1)]), (26, .val false [.lit (.bool false)]), (25, .val false [.lit (.bool r5)]), (24, .val true [.lit (.int .i64 v4.Id), .lit (.int .i64 v4.Members), .lit (.int .i64 v4.Bare)]), (23, .fad ([.lit (.int .i64 v4.Id), .lit (.int .i64 v4.Members), .lit (.int .i64 v4.Bare)])), (22, .val false [.lit (.int .i64 y1)]), (21, .val false [.sl false 3 (CV.frzEs (x1.map Vrow.row))]), (20, .val true [.lit (.int .i64 v3.Id), .lit (.int .i64 v3.Members), .lit (.int .i64 v3.Bare)]), (19, .fad ([.lit (.int .i64 v3.Id), .lit (.int .i64 v3.Members), .lit (.int .i64 v3.Bare)])), (18, .val false [.lit (.int .i64 y1)]), (17, .val false [.sl false 3 (CV.frzEs (x0.map Vrow.row))]), (14, .val false [.lit (.bool true)]), (13, .val false [.lit (.int .i64 (x0.length : Int))]), (12, .val false [.sl false 3 (CV.frzEs (x0.map Vrow.row))]), (11, .val false [.lit (.int .i64 y1)]), (4, .val false [.lit (.bool false)]), (0, .val false [.sl false 3 (CV.frzEs (x0.map Vrow.row))]), (1, .val false [.sl false 3 (CV.frzEs (x1.map Vrow.row))])], []⟩ (by kernel_rfl) (by kernel_rfl) ?_
            exact Exists.intro (mo2, (IntKind.wrap .i64 (y1 + 1))) (And.intro H (And.intro (Nat.lt_succ_self mo2) (St.sub_of [5, 4, 0, 1] [] (by kernel_rfl))))
          · rw [h3, cond_true] at H
            refine Tr.cond (b := true) (by kernel_rfl) (fun _ => ?_) (fun h => nomatch h)
            refine Tr.rs ?_
            refine LAt.run tOk 1 ⟨27, 0, [(4, .val false [.lit (.bool false)]), (26, .val false [.lit (.bool true)]), (25, .val false [.lit (.bool r5)]), (24, .val true [.lit (.int .i64 v4.Id), .lit (.int .i64 v4.Members), .lit (.int .i64 v4.Bare)]), (23, .fad ([.lit (.int .i64 v4.Id), .lit (.int .i64 v4.Members), .lit (.int .i64 v4.Bare)])), (22, .val false [.lit (.int .i64 y1)]), (21, .val false [.sl false 3 (CV.frzEs (x1.map Vrow.row))]), (20, .val true [.lit (.int .i64 v3.Id), .lit (.int .i64 v3.Members), .lit (.int .i64 v3.Bare)]), (19, .fad ([.lit (.int .i64 v3.Id), .lit (.int .i64 v3.Members), .lit (.int .i64 v3.Bare)])), (18, .val false [.lit (.int .i64 y1)]), (17, .val false [.sl false 3 (CV.frzEs (x0.map Vrow.row))]), (14, .val false [.lit (.bool true)]), (13, .val false [.lit (.int .i64 (x0.length : Int))]), (12, .val false [.sl false 3 (CV.frzEs (x0.map Vrow.row))]), (11, .val false [.lit (.int .i64 y1)]), (5, .val false [.lit (.int .i64 y1)]), (0, .val false [.sl false 3 (CV.frzEs (x0.map Vrow.row))]), (1, .val false [.sl false 3 (CV.frzEs (x1.map Vrow.row))])], []⟩ (by kernel_rfl) ?_
            refine LAt.done [4, 26, 25, 24, 23, 22, 21, 20, 19, 18, 17, 14, 13, 12, 11, 5, 0, 1] [] ⟨27, 0, [(4, .val false [.lit (.bool false)]), (26, .val false [.lit (.bool true)]), (25, .val false [.lit (.bool r5)]), (24, .val true [.lit (.int .i64 v4.Id), .lit (.int .i64 v4.Members), .lit (.int .i64 v4.Bare)]), (23, .fad ([.lit (.int .i64 v4.Id), .lit (.int .i64 v4.Members), .lit (.int .i64 v4.Bare)])), (22, .val false [.lit (.int .i64 y1)]), (21, .val false [.sl false 3 (CV.frzEs (x1.map Vrow.row))]), (20, .val true [.lit (.int .i64 v3.Id), .lit (.int .i64 v3.Members), .lit (.int .i64 v3.Bare)]), (19, .fad ([.lit (.int .i64 v3.Id), .lit (.int .i64 v3.Members), .lit (.int .i64 v3.Bare)])), (18, .val false [.lit (.int .i64 y1)]), (17, .val false [.sl false 3 (CV.frzEs (x0.map Vrow.row))]), (14, .val false [.lit (.bool true)]), (13, .val false [.lit (.int .i64 (x0.length : Int))]), (12, .val false [.sl false 3 (CV.frzEs (x0.map Vrow.row))]), (11, .val false [.lit (.int .i64 y1)]), (5, .val false [.lit (.int .i64 y1)]), (0, .val false [.sl false 3 (CV.frzEs (x0.map Vrow.row))]), (1, .val false [.sl false 3 (CV.frzEs (x1.map Vrow.row))])], []⟩ (by kernel_rfl) (by kernel_rfl) ?_
            refine Tr.ret ?_
            have H := Option.some.inj H
            subst H
            have H := Ho2
            dsimp only at H
            have H := Option.some.inj H
            subst H
            exact Fin.of _ [(false, [.lit (.bool false)])] (by kernel_rfl) rfl rfl
  · rw [h1, cond_true] at H
    refine Tr.cond (b := true) (by kernel_rfl) (fun _ => ?_) (fun h => nomatch h)
    refine Tr.rs ?_
    refine LAt.run tOk 1 ⟨27, 0, [(4, .val false [.lit (.bool false)]), (10, .val false [.lit (.bool true)]), (0, .val false [.sl false 3 (CV.frzEs (x0.map Vrow.row))]), (1, .val false [.sl false 3 (CV.frzEs (x1.map Vrow.row))])], []⟩ (by kernel_rfl) ?_
    refine LAt.done [4, 0, 1] [] ⟨27, 0, [(4, .val false [.lit (.bool false)]), (0, .val false [.sl false 3 (CV.frzEs (x0.map Vrow.row))]), (1, .val false [.sl false 3 (CV.frzEs (x1.map Vrow.row))])], []⟩ (by kernel_rfl) (by kernel_rfl) ?_
    refine Tr.ret ?_
    have H := Option.some.inj H
    subst H
    exact Fin.of _ [(false, [.lit (.bool false)])] (by kernel_rfl) rfl rfl

def laws_eqIntS_L1 (n : Nat) : Nat → (List Int) → (List Int) → Int → Option ((Int) ⊕ (Bool))
  | 0, _, _, _ => none
  | mo2 + 1, x0, x1, y1 => (bif (decide (y1 < (x0.length : Int))) then ((idx x0 y1).bind fun v3 => ((idx x1 y1).bind fun v4 => (bif (v3 != v4) then (some (Sum.inr false)) else (laws_eqIntS_L1 n mo2 x0 x1 (IntKind.wrap .i64 (y1 + 1)))))) else (some (Sum.inl y1)))
def laws_eqIntSF (n : Nat) (x0 : (List Int)) (x1 : (List Int)) : Option (Bool) :=
  (bif ((x0.length : Int) != (x1.length : Int)) then (some false) else ((laws_eqIntS_L1 n n x0 x1 0).bind fun o => match o with | .inl y1 => (some true) | .inr r => some r))
/-- loop.example/g00326/laws.eqIntS -/
theorem laws_eqIntS (n : Nat) (x0 : (List Int)) (x1 : (List Int)) (r : Bool) (H : laws_eqIntSF n x0 x1 = some r) : LCall Try.prog 63 [.val false [.sl false 1 (CV.frzEs (x0.map intRow))], .val false [.sl false 1 (CV.frzEs (x1.map intRow))]] [.val false [.lit (.bool r)]] [] := by
  refine LCall.of_body tOk Try.func63 rfl (c := (.seq (.region 0 (rg Try.f63 0) false) (.seq (.seq (.region 1 (rg Try.f63 1) false) (.cond (.tmp 10) (.seq (.region 2 (rg Try.f63 2) false) .ret) .skip)) (.seq (.seq (.region 3 (rg Try.f63 3) false) (.block 0 (.loop (.seq (.seq (.region 4 (rg Try.f63 4) false) (.cond (.tmp 14) .skip (.exit 0))) (.seq (.block 1 (.seq (.region 6 (rg Try.f63 6) true) (.cond (.tmp 25) (.seq (.region 7 (rg Try.f63 7) false) .ret) .skip))) (.region 5 (rg Try.f63 5) false)))))) (.seq (.region 8 (rg Try.f63 8) false) .ret))))) (by kernel_rfl) (Nat.le_of_ble_eq_true (by kernel_rfl)) 0 (rs := [.tmp 4]) rfl [] .nil [(false, [.lit (.bool r)])] [] [] fun cx => ?_
  show Tr _ _ _ ⟨26, 0, [(0, .val false [.sl false 1 (CV.frzEs (x0.map intRow))]), (1, .val false [.sl false 1 (CV.frzEs (x1.map intRow))])], []⟩ _
  unfold laws_eqIntSF at H
  refine Tr.rs ?_
  refine LAt.run tOk 1 ⟨26, 0, [(4, .val false [.lit (.bool false)]), (0, .val false [.sl false 1 (CV.frzEs (x0.map intRow))]), (1, .val false [.sl false 1 (CV.frzEs (x1.map intRow))])], []⟩ (by kernel_rfl) ?_
  refine LAt.done [4, 0, 1] [] ⟨26, 0, [(4, .val false [.lit (.bool false)]), (0, .val false [.sl false 1 (CV.frzEs (x0.map intRow))]), (1, .val false [.sl false 1 (CV.frzEs (x1.map intRow))])], []⟩ (by kernel_rfl) (by kernel_rfl) ?_
  refine Tr.seq ?_
  refine Tr.rs ?_
  refine LAt.run tOk 1 ⟨26, 0, [(6, .val false [.sl false 1 (CV.frzEs (x0.map intRow))]), (4, .val false [.lit (.bool false)]), (0, .val false [.sl false 1 (CV.frzEs (x0.map intRow))]), (1, .val false [.sl false 1 (CV.frzEs (x1.map intRow))])], []⟩ (by kernel_rfl) ?_
  refine LAt.lenE tOk (t := 33) (ty := 3) (e := 3) (x := (.tmp 6)) (d := 7) (g := none) ⟨(.slot 6), [], 0, false, 1, (CV.frzEs (x0.map intRow))⟩ (x0).length ⟨26, 0, [(7, .val false [.lit (.int .i64 (x0.length : Int))]), (6, .val false [.sl false 1 (CV.frzEs (x0.map intRow))]), (4, .val false [.lit (.bool false)]), (0, .val false [.sl false 1 (CV.frzEs (x0.map intRow))]), (1, .val false [.sl false 1 (CV.frzEs (x1.map intRow))])], []⟩ (by kernel_rfl) (by kernel_rfl) (by kernel_rfl) (by kernel_rfl) (by kernel_rfl) (frz_len _ _) (by kernel_rfl) ?_
  refine LAt.run tOk 1 ⟨26, 0, [(8, .val false [.sl false 1 (CV.frzEs (x1.map intRow))]), (7, .val false [.lit (.int .i64 (x0.length : Int))]), (6, .val false [.sl false 1 (CV.frzEs (x0.map intRow))]), (4, .val false [.lit (.bool false)]), (0, .val false [.sl false 1 (CV.frzEs (x0.map intRow))]), (1, .val false [.sl false 1 (CV.frzEs (x1.map intRow))])], []⟩ (by kernel_rfl) ?_
  refine LAt.lenE tOk (t := 33) (ty := 3) (e := 3) (x := (.tmp 8)) (d := 9) (g := none) ⟨(.slot 8), [], 0, false, 1, (CV.frzEs (x1.map intRow))⟩ (x1).length ⟨26, 0, [(9, .val false [.lit (.int .i64 (x1.length : Int))]), (8, .val false [.sl false 1 (CV.frzEs (x1.map intRow))]), (7, .val false [.lit (.int .i64 (x0.length : Int))]), (6, .val false [.sl false 1 (CV.frzEs (x0.map intRow))]), (4, .val false [.lit (.bool false)]), (0, .val false [.sl false 1 (CV.frzEs (x0.map intRow))]), (1, .val false [.sl false 1 (CV.frzEs (x1.map intRow))])], []⟩ (by kernel_rfl) (by kernel_rfl) (by kernel_rfl) (by kernel_rfl) (by kernel_rfl) (frz_len _ _) (by kernel_rfl) ?_
  refine LAt.run tOk 1 ⟨26, 0, [(10, .val false [.lit (.bool ((x0.length : Int) != (x1.length : Int)))]), (9, .val false [.lit (.int .i64 (x1.length : Int))]), (8, .val false [.sl false 1 (CV.frzEs (x1.map intRow))]), (7, .val false [.lit (.int .i64 (x0.length : Int))]), (6, .val false [.sl false 1 (CV.frzEs (x0.map intRow))]), (4, .val false [.lit (.bool false)]), (0, .val false [.sl false 1 (CV.frzEs (x0.map intRow))]), (1, .val false [.sl false 1 (CV.frzEs (x1.map intRow))])], []⟩ (by kernel_rfl) ?_
  refine LAt.done [10, 4, 0, 1] [] ⟨26, 0, [(10, .val false [.lit (.bool ((x0.length : Int) != (x1.length : Int)))]), (4, .val false [.lit (.bool false)]), (0, .val false [.sl false 1 (CV.frzEs (x0.map intRow))]), (1, .val false [.sl false 1 (CV.frzEs (x1.map intRow))])], []⟩ (by kernel_rfl) (by kernel_rfl) ?_
  cases h1 : ((x0.length : Int) != (x1.length : Int))
  · rw [h1, cond_false] at H
    refine Tr.cond (b := false) (by kernel_rfl) (fun h => nomatch h) (fun _ => ?_)
    refine Tr.skip ?_
    show Tr _ _ _ _ _
    refine Tr.seq ?_
    refine Tr.rs ?_
    refine LAt.run tOk 1 ⟨26, 0, [(5, .val false [.lit (.int .i64 0)]), (10, .val false [.lit (.bool false)]), (4, .val false [.lit (.bool false)]), (0, .val false [.sl false 1 (CV.frzEs (x0.map intRow))]), (1, .val false [.sl false 1 (CV.frzEs (x1.map intRow))])], []⟩ (by kernel_rfl) ?_
    refine LAt.done [5, 4, 0, 1] [] ⟨26, 0, [(5, .val false [.lit (.int .i64 0)]), (4, .val false [.lit (.bool false)]), (0, .val false [.sl false 1 (CV.frzEs (x0.map intRow))]), (1, .val false [.sl false 1 (CV.frzEs (x1.map intRow))])], []⟩ (by kernel_rfl) (by kernel_rfl) ?_
    obtain ⟨o2, eo2, Ho2⟩ := bind_some H
    clear H
    refine Tr.block ?_
    refine Tr.loop (ι := Nat × (Int)) (fun v => ⟨26, 0, [(5, .val false [.lit (.int .i64 v.2)]), (4, .val false [.lit (.bool false)]), (0, .val false [.sl false 1 (CV.frzEs (x0.map intRow))]), (1, .val false [.sl false 1 (CV.frzEs (x1.map intRow))])], []⟩) (fun v => laws_eqIntS_L1 n v.1 x0 x1 v.2 = some o2) (fun v => v.1) (n, 0) eo2 (St.sub_of [5, 4, 0, 1] [] (by kernel_rfl)) ?_
    rintro ⟨mo2, y1⟩ H
    obtain _ | mo2 := mo2
    · cases (show (none : Option _) = some o2 from H)
    · rw [laws_eqIntS_L1] at H
      show Tr _ _ _ ⟨26, 0, [(5, .val false [.lit (.int .i64 y1)]), (4, .val false [.lit (.bool false)]), (0, .val false [.sl false 1 (CV.frzEs (x0.map intRow))]), (1, .val false [.sl false 1 (CV.frzEs (x1.map intRow))])], []⟩ _
      refine Tr.seq ?_
      refine Tr.rs ?_
      refine LAt.run tOk 2 ⟨26, 0, [(12, .val false [.sl false 1 (CV.frzEs (x0.map intRow))]), (11, .val false [.lit (.int .i64 y1)]), (5, .val false [.lit (.int .i64 y1)]), (4, .val false [.lit (.bool false)]), (0, .val false [.sl false 1 (CV.frzEs (x0.map intRow))]), (1, .val false [.sl false 1 (CV.frzEs (x1.map intRow))])], []⟩ (by kernel_rfl) ?_
      refine LAt.lenE tOk (t := 33) (ty := 3) (e := 3) (x := (.tmp 12)) (d := 13) (g := none) ⟨(.slot 12), [], 0, false, 1, (CV.frzEs (x0.map intRow))⟩ (x0).length ⟨26, 0, [(13, .val false [.lit (.int .i64 (x0.length : Int))]), (12, .val false [.sl false 1 (CV.frzEs (x0.map intRow))]), (11, .val false [.lit (.int .i64 y1)]), (5, .val false [.lit (.int .i64 y1)]), (4, .val false [.lit (.bool false)]), (0, .val false [.sl false 1 (CV.frzEs (x0.map intRow))]), (1, .val false [.sl false 1 (CV.frzEs (x1.map intRow))])], []⟩ (by kernel_rfl) (by kernel_rfl) (by kernel_rfl) (by kernel_rfl) (by kernel_rfl) (frz_len _ _) (by kernel_rfl) ?_
      refine LAt.run tOk 1 ⟨26, 0, [(14, .val false [.lit (.bool (decide (y1 < (x0.length : Int))))]), (13, .val false [.lit (.int .i64 (x0.length : Int))]), (12, .val false [.sl false 1 (CV.frzEs (x0.map intRow))]), (11, .val false [.lit (.int .i64 y1)]), (5, .val false [.lit (.int .i64 y1)]), (4, .val false [.lit (.bool false)]), (0, .val false [.sl false 1 (CV.frzEs (x0.map intRow))]), (1, .val false [.sl false 1 (CV.frzEs (x1.map intRow))])], []⟩ (by kernel_rfl) ?_
      refine LAt.done [14, 13, 12, 11, 5, 4, 0, 1] [] ⟨26, 0, [(14, .val false [.lit (.bool (decide (y1 < (x0.length : Int))))]), (13, .val false [.lit (.int .i64 (x0.length : Int))]), (12, .val false [.sl false 1 (CV.frzEs (x0.map intRow))]), (11, .val false [.lit (.int .i64 y1)]), (5, .val false [.lit (.int .i64 y1)]), (4, .val false [.lit (.bool false)]), (0, .val false [.sl false 1 (CV.frzEs (x0.map intRow))]), (1, .val false [.sl false 1 (CV.frzEs (x1.map intRow))])], []⟩ (by kernel_rfl) (by kernel_rfl) ?_
      cases h2 : (decide (y1 < (x0.length : Int)))
      · rw [h2, cond_false] at H
        refine Tr.cond (b := false) (by kernel_rfl) (fun h => nomatch h) (fun _ => ?_)
        refine Tr.exit ?_
        refine And.intro (fun _ => ?_) (fun h => absurd rfl h)
        have H := Option.some.inj H
        subst H
        have H := Ho2
        dsimp only at H
        show Tr _ _ _ _ _
        show Tr _ _ _ _ _
        refine Tr.rs ?_
        refine LAt.run tOk 1 ⟨26, 0, [(4, .val false [.lit (.bool true)]), (14, .val false [.lit (.bool false)]), (13, .val false [.lit (.int .i64 (x0.length : Int))]), (12, .val false [.sl false 1 (CV.frzEs (x0.map intRow))]), (11, .val false [.lit (.int .i64 y1)]), (5, .val false [.lit (.int .i64 y1)]), (0, .val false [.sl false 1 (CV.frzEs (x0.map intRow))]), (1, .val false [.sl false 1 (CV.frzEs (x1.map intRow))])], []⟩ (by kernel_rfl) ?_
        refine LAt.done [4] [] ⟨26, 0, [(4, .val false [.lit (.bool true)])], []⟩ (by kernel_rfl) (by kernel_rfl) ?_
        refine Tr.ret ?_
        have H := Option.some.inj H
        subst H
        exact Fin.of _ [(false, [.lit (.bool true)])] (by kernel_rfl) rfl rfl
      · rw [h2, cond_true] at H
        refine Tr.cond (b := true) (by kernel_rfl) (fun _ => ?_) (fun h => nomatch h)
        refine Tr.skip ?_
        show Tr _ _ _ _ _
        refine Tr.seq ?_
        refine Tr.block ?_
        obtain ⟨v3, ev3, H⟩ := bind_some H
        obtain ⟨v4, ev4, H⟩ := bind_some H
        refine Tr.draws mixed 9 (by kernel_rfl) ⟨26, 0, [(25, .val false [.lit (.bool (v3 != v4))]), (24, .val false [.lit (.int .i64 v4)]), (23, .fad ([.lit (.int .i64 v4)])), (22, .val false [.lit (.int .i64 y1)]), (21, .val false [.sl false 1 (CV.frzEs (x1.map intRow))]), (20, .val false [.lit (.int .i64 v3)]), (19, .fad ([.lit (.int .i64 v3)])), (18, .val false [.lit (.int .i64 y1)]), (17, .val false [.sl false 1 (CV.frzEs (x0.map intRow))]), (14, .val false [.lit (.bool true)]), (13, .val false [.lit (.int .i64 (x0.length : Int))]), (12, .val false [.sl false 1 (CV.frzEs (x0.map intRow))]), (11, .val false [.lit (.int .i64 y1)]), (5, .val false [.lit (.int .i64 y1)]), (4, .val false [.lit (.bool false)]), (0, .val false [.sl false 1 (CV.frzEs (x0.map intRow))]), (1, .val false [.sl false 1 (CV.frzEs (x1.map intRow))])], []⟩ (fun cx => ?_) ?_
        · refine AT.run tOk [(0, []), (1, [])] 7 [] [1, 0] ⟨26, 0, [(18, .val false [.lit (.int .i64 y1)]), (17, .val false [.sl false 1 (CV.frzEs (x0.map intRow))]), (14, .val false [.lit (.bool true)]), (13, .val false [.lit (.int .i64 (x0.length : Int))]), (12, .val false [.sl false 1 (CV.frzEs (x0.map intRow))]), (11, .val false [.lit (.int .i64 y1)]), (5, .val false [.lit (.int .i64 y1)]), (4, .val false [.lit (.bool false)]), (0, .val false [.sl false 1 (CV.frzEs (x0.map intRow))]), (1, .val false [.sl false 1 (CV.frzEs (x1.map intRow))])], []⟩ rfl (by kernel_rfl) (fun cx => ?_)
          refine AT.indexF tOk 2 (t := 33) (ty := 0) (x := (.tmp 17)) (y := (.tmp 18)) (d := 19) (g := none) ⟨(.slot 17), [], 0, false, 1, (CV.frzEs (x0.map intRow))⟩ y1 [.lit (.int .i64 v3)] ⟨26, 0, [(19, .fad ([.lit (.int .i64 v3)])), (18, .val false [.lit (.int .i64 y1)]), (17, .val false [.sl false 1 (CV.frzEs (x0.map intRow))]), (14, .val false [.lit (.bool true)]), (13, .val false [.lit (.int .i64 (x0.length : Int))]), (12, .val false [.sl false 1 (CV.frzEs (x0.map intRow))]), (11, .val false [.lit (.int .i64 y1)]), (5, .val false [.lit (.int .i64 y1)]), (4, .val false [.lit (.bool false)]), (0, .val false [.sl false 1 (CV.frzEs (x0.map intRow))]), (1, .val false [.sl false 1 (CV.frzEs (x1.map intRow))])], []⟩ (by kernel_rfl) (by kernel_rfl) (by kernel_rfl) (by kernel_rfl) (by kernel_rfl) (by kernel_rfl) rfl (idx_isF ev3) (by kernel_rfl) (fun cx => ?_)
          refine AT.run tOk [(3, []), (4, []), (5, [])] 3 [] [5, 4, 3, 2, 1, 0] ⟨26, 0, [(22, .val false [.lit (.int .i64 y1)]), (21, .val false [.sl false 1 (CV.frzEs (x1.map intRow))]), (20, .val false [.lit (.int .i64 v3)]), (19, .fad ([.lit (.int .i64 v3)])), (18, .val false [.lit (.int .i64 y1)]), (17, .val false [.sl false 1 (CV.frzEs (x0.map intRow))]), (14, .val false [.lit (.bool true)]), (13, .val false [.lit (.int .i64 (x0.length : Int))]), (12, .val false [.sl false 1 (CV.frzEs (x0.map intRow))]), (11, .val false [.lit (.int .i64 y1)]), (5, .val false [.lit (.int .i64 y1)]), (4, .val false [.lit (.bool false)]), (0, .val false [.sl false 1 (CV.frzEs (x0.map intRow))]), (1, .val false [.sl false 1 (CV.frzEs (x1.map intRow))])], []⟩ rfl (by kernel_rfl) (fun cx => ?_)
          refine AT.indexF tOk 6 (t := 33) (ty := 0) (x := (.tmp 21)) (y := (.tmp 22)) (d := 23) (g := none) ⟨(.slot 21), [], 0, false, 1, (CV.frzEs (x1.map intRow))⟩ y1 [.lit (.int .i64 v4)] ⟨26, 0, [(23, .fad ([.lit (.int .i64 v4)])), (22, .val false [.lit (.int .i64 y1)]), (21, .val false [.sl false 1 (CV.frzEs (x1.map intRow))]), (20, .val false [.lit (.int .i64 v3)]), (19, .fad ([.lit (.int .i64 v3)])), (18, .val false [.lit (.int .i64 y1)]), (17, .val false [.sl false 1 (CV.frzEs (x0.map intRow))]), (14, .val false [.lit (.bool true)]), (13, .val false [.lit (.int .i64 (x0.length : Int))]), (12, .val false [.sl false 1 (CV.frzEs (x0.map intRow))]), (11, .val false [.lit (.int .i64 y1)]), (5, .val false [.lit (.int .i64 y1)]), (4, .val false [.lit (.bool false)]), (0, .val false [.sl false 1 (CV.frzEs (x0.map intRow))]), (1, .val false [.sl false 1 (CV.frzEs (x1.map intRow))])], []⟩ (by kernel_rfl) (by kernel_rfl) (by kernel_rfl) (by kernel_rfl) (by kernel_rfl) (by kernel_rfl) rfl (idx_isF ev4) (by kernel_rfl) (fun cx => ?_)
          refine AT.run tOk [(7, []), (8, [])] 0 [] [8, 7, 6, 5, 4, 3, 2, 1, 0] ⟨26, 0, [(25, .val false [.lit (.bool (v3 != v4))]), (24, .val false [.lit (.int .i64 v4)]), (23, .fad ([.lit (.int .i64 v4)])), (22, .val false [.lit (.int .i64 y1)]), (21, .val false [.sl false 1 (CV.frzEs (x1.map intRow))]), (20, .val false [.lit (.int .i64 v3)]), (19, .fad ([.lit (.int .i64 v3)])), (18, .val false [.lit (.int .i64 y1)]), (17, .val false [.sl false 1 (CV.frzEs (x0.map intRow))]), (14, .val false [.lit (.bool true)]), (13, .val false [.lit (.int .i64 (x0.length : Int))]), (12, .val false [.sl false 1 (CV.frzEs (x0.map intRow))]), (11, .val false [.lit (.int .i64 y1)]), (5, .val false [.lit (.int .i64 y1)]), (4, .val false [.lit (.bool false)]), (0, .val false [.sl false 1 (CV.frzEs (x0.map intRow))]), (1, .val false [.sl false 1 (CV.frzEs (x1.map intRow))])], []⟩ rfl (by kernel_rfl) (fun cx => ?_)
          exact AT.done [25, 24, 23, 22, 21, 20, 19, 18, 17, 14, 13, 12, 11, 5, 4, 0, 1] [] _ (by kernel_rfl) (by kernel_rfl) rfl
        · cases h3 : (v3 != v4)
          · rw [h3, cond_false] at H
            refine Tr.cond (b := false) (by kernel_rfl) (fun h => nomatch h) (fun _ => ?_)
            refine Tr.skip ?_
            show Tr _ _ _ _ _
            refine Tr.at ?_
            refine LAt.run tOk 3 ⟨26, 0, [(5, .val false [.lit (.int .i64 (IntKind.wrap .i64 (y1 + 1)))]), (16, .val false [.lit (.int .i64 (IntKind.wrap .i64 (y1 + 1)))]), (15, .val false [.lit (.int .i64 y1)]), (25, .val false [.lit (.bool false)]), (24, .val false [.lit (.int .i64 v4)]), (23, .fad ([.lit (.int .i64 v4)])), (22, .val false [.lit (.int .i64 y1)]), (21, .val false [.sl false 1 (CV.frzEs (x1.map intRow))]), (20, .val false [.lit (.int .i64 v3)]), (19, .fad ([.lit (.int .i64 v3)])), (18, .val false [.lit (.int .i64 y1)]), (17, .val false [.sl false 1 (CV.frzEs (x0.map intRow))]), (14, .val false [.lit (.bool true)]), (13, .val false [.lit (.int .i64 (x0.length : Int))]), (12, .val false [.sl false 1 (CV.frzEs (x0.map intRow))]), (11, .val false [.lit (.int .i64 y1)]), (4, .val false [.lit (.bool false)]), (0, .val false [.sl false 1 (CV.frzEs (x0.map intRow))]), (1, .val false [.sl false 1 (CV.frzEs (x1.map intRow))])], []⟩ (by kernel_rfl) ?_
            refine LAt.done [5, 16, 15, 25, 24, 23, 22, 21, 20, 19, 18, 17, 14, 13, 12, 11, 4, 0, 1] [] ⟨26, 0, [(5, .val false [.lit (.int .i64 (IntKind.wrap .i64 (y1 + 1)))]), (16, .val false [.lit (.int .i64 (IntKind.wrap .i64 (y1 + 1)))]), (15, .val false [.lit (.int .i64 y1)]), (25, .val false [.lit (.bool false)]), (24, .val false [.lit (.int .i64 v4)]), (23, .fad ([.lit (.int .i64 v4)])), (22, .val false [.lit (.int .i64 y1)]), (21, .val false [.sl false 1 (CV.frzEs (x1.map intRow))]), (20, .val false [.lit (.int .i64 v3)]), (19, .fad ([.lit (.int .i64 v3)])), (18, .val false [.lit (.int .i64 y1)]), (17, .val false [.sl false 1 (CV.frzEs (x0.map intRow))]), (14, .val false [.lit (.bool true)]), (13, .val false [.lit (.int .i64 (x0.length : Int))]), (12, .val false [.sl false 1 (CV.frzEs (x0.map intRow))]), (11, .val false [.lit (.int .i64 y1)]), (4, .val false [.lit (.bool false)]), (0, .val false [.sl false 1 (CV.frzEs (x0.map intRow))]), (1, .val false [.sl false 1 (CV.frzEs (x1.map intRow))])], []⟩ (by kernel_rfl) (by kernel_rfl) ?_
            exact Exists.intro (mo2, (IntKind.wrap .i64 (y1 + 1))) (And.intro H (And.intro (Nat.lt_succ_self mo2) (St.sub_of [5, 4, 0, 1] [] (by kernel_rfl))))
          · rw [h3, cond_true] at H
            refine Tr.cond (b := true) (by kernel_rfl) (fun _ => ?_) (fun h => nomatch h)
            refine Tr.rs ?_
            refine LAt.run tOk 1 ⟨26, 0, [(4, .val false [.lit (.bool false)]), (25, .val false [.lit (.bool true)]), (24, .val false [.lit (.int .i64 v4)]), (23, .fad ([.lit (.int .i64 v4)])), (22, .val false [.lit (.int .i64 y1)]), (21, .val false [.sl false 1 (CV.frzEs (x1.map intRow))]), (20, .val false [.lit (.int .i64 v3)]), (19, .fad ([.lit (.int .i64 v3)])), (18, .val false [.lit (.int .i64 y1)]), (17, .val false [.sl false 1 (CV.frzEs (x0.map intRow))]), (14, .val false [.lit (.bool true)]), (13, .val false [.lit (.int .i64 (x0.length : Int))]), (12, .val false [.sl false 1 (CV.frzEs (x0.map intRow))]), (11, .val false [.lit (.int .i64 y1)]), (5, .val false [.lit (.int .i64 y1)]), (0, .val false [.sl false 1 (CV.frzEs (x0.map intRow))]), (1, .val false [.sl false 1 (CV.frzEs (x1.map intRow))])], []⟩ (by kernel_rfl) ?_
            refine LAt.done [4, 25, 24, 23, 22, 21, 20, 19, 18, 17, 14, 13, 12, 11, 5, 0, 1] [] ⟨26, 0, [(4, .val false [.lit (.bool false)]), (25, .val false [.lit (.bool true)]), (24, .val false [.lit (.int .i64 v4)]), (23, .fad ([.lit (.int .i64 v4)])), (22, .val false [.lit (.int .i64 y1)]), (21, .val false [.sl false 1 (CV.frzEs (x1.map intRow))]), (20, .val false [.lit (.int .i64 v3)]), (19, .fad ([.lit (.int .i64 v3)])), (18, .val false [.lit (.int .i64 y1)]), (17, .val false [.sl false 1 (CV.frzEs (x0.map intRow))]), (14, .val false [.lit (.bool true)]), (13, .val false [.lit (.int .i64 (x0.length : Int))]), (12, .val false [.sl false 1 (CV.frzEs (x0.map intRow))]), (11, .val false [.lit (.int .i64 y1)]), (5, .val false [.lit (.int .i64 y1)]), (0, .val false [.sl false 1 (CV.frzEs (x0.map intRow))]), (1, .val false [.sl false 1 (CV.frzEs (x1.map intRow))])], []⟩ (by kernel_rfl) (by kernel_rfl) ?_
            refine Tr.ret ?_
            have H := Option.some.inj H
            subst H
            have H := Ho2
            dsimp only at H
            have H := Option.some.inj H
            subst H
            exact Fin.of _ [(false, [.lit (.bool false)])] (by kernel_rfl) rfl rfl
  · rw [h1, cond_true] at H
    refine Tr.cond (b := true) (by kernel_rfl) (fun _ => ?_) (fun h => nomatch h)
    refine Tr.rs ?_
    refine LAt.run tOk 1 ⟨26, 0, [(4, .val false [.lit (.bool false)]), (10, .val false [.lit (.bool true)]), (0, .val false [.sl false 1 (CV.frzEs (x0.map intRow))]), (1, .val false [.sl false 1 (CV.frzEs (x1.map intRow))])], []⟩ (by kernel_rfl) ?_
    refine LAt.done [4, 0, 1] [] ⟨26, 0, [(4, .val false [.lit (.bool false)]), (0, .val false [.sl false 1 (CV.frzEs (x0.map intRow))]), (1, .val false [.sl false 1 (CV.frzEs (x1.map intRow))])], []⟩ (by kernel_rfl) (by kernel_rfl) ?_
    refine Tr.ret ?_
    have H := Option.some.inj H
    subst H
    exact Fin.of _ [(false, [.lit (.bool false)])] (by kernel_rfl) rfl rfl

def laws_eqVtabF (n : Nat) (x0 : Vtab) (x1 : Vtab) : Option (Bool) :=
  ((laws_eqVrowSF n x0.Rows x1.Rows).bind fun r1 => (bif (!r1) then (some false) else ((laws_eqIntSF n x0.Pvid x1.Pvid).bind fun r2 => (bif (!r2) then (some false) else (some true)))))
/-- loop.example/g00326/laws.eqVtab -/
theorem laws_eqVtab (n : Nat) (x0 : Vtab) (x1 : Vtab) (r : Bool) (H : laws_eqVtabF n x0 x1 = some r) : LCall Try.prog 21 [.val true (CV.frzRow (Vtab.row x0)), .val true (CV.frzRow (Vtab.row x1))] [.val false [.lit (.bool r)]] [] := by
  refine LCall.of_body tOk Try.func21 rfl (c := (.seq (.region 0 (rg Try.f21 0) false) (.seq (.seq (.region 1 (rg Try.f21 1) false) (.cond (.tmp 10) (.seq (.region 2 (rg Try.f21 2) false) .ret) .skip)) (.seq (.seq (.region 3 (rg Try.f21 3) false) (.cond (.tmp 16) (.seq (.region 4 (rg Try.f21 4) false) .ret) .skip)) (.seq (.region 5 (rg Try.f21 5) false) .ret))))) (by kernel_rfl) (Nat.le_of_ble_eq_true (by kernel_rfl)) 0 (rs := [.tmp 4]) rfl [] .nil [(false, [.lit (.bool r)])] [] [] fun cx => ?_
  show Tr _ _ _ ⟨17, 0, [(0, .val true [.sl false 3 (CV.frzEs (x0.Rows.map Vrow.row)), .sl false 1 (CV.frzEs (x0.Pvid.map intRow))]), (1, .val true [.sl false 3 (CV.frzEs (x1.Rows.map Vrow.row)), .sl false 1 (CV.frzEs (x1.Pvid.map intRow))])], []⟩ _
  unfold laws_eqVtabF at H
  refine Tr.rs ?_
  refine LAt.run tOk 3 ⟨17, 0, [(4, .val false [.lit (.bool false)]), (3, .adr (.box 3) [(0, 0)] 2 0), (2, .adr (.box 2) [(0, 0)] 2 0), (0, .val true [.sl false 3 (CV.frzEs (x0.Rows.map Vrow.row)), .sl false 1 (CV.frzEs (x0.Pvid.map intRow))]), (1, .val true [.sl false 3 (CV.frzEs (x1.Rows.map Vrow.row)), .sl false 1 (CV.frzEs (x1.Pvid.map intRow))])], [(3, [.sl false 3 (CV.frzEs (x1.Rows.map Vrow.row)), .sl false 1 (CV.frzEs (x1.Pvid.map intRow))]), (2, [.sl false 3 (CV.frzEs (x0.Rows.map Vrow.row)), .sl false 1 (CV.frzEs (x0.Pvid.map intRow))])]⟩ (by kernel_rfl) ?_
  refine LAt.done [4, 3, 2] [3, 2] ⟨17, 0, [(4, .val false [.lit (.bool false)]), (3, .adr (.box 3) [(0, 0)] 2 0), (2, .adr (.box 2) [(0, 0)] 2 0)], [(3, [.sl false 3 (CV.frzEs (x1.Rows.map Vrow.row)), .sl false 1 (CV.frzEs (x1.Pvid.map intRow))]), (2, [.sl false 3 (CV.frzEs (x0.Rows.map Vrow.row)), .sl false 1 (CV.frzEs (x0.Pvid.map intRow))])]⟩ (by kernel_rfl) (by kernel_rfl) ?_
  refine Tr.seq ?_
  refine Tr.rs ?_
  refine LAt.run tOk 4 ⟨17, 0, [(8, .val false [.sl false 3 (CV.frzEs (x1.Rows.map Vrow.row))]), (7, .adr (.box 3) [(0, 0)] 2 0), (6, .val false [.sl false 3 (CV.frzEs (x0.Rows.map Vrow.row))]), (5, .adr (.box 2) [(0, 0)] 2 0), (4, .val false [.lit (.bool false)]), (3, .adr (.box 3) [(0, 0)] 2 0), (2, .adr (.box 2) [(0, 0)] 2 0)], [(3, [.sl false 3 (CV.frzEs (x1.Rows.map Vrow.row)), .sl false 1 (CV.frzEs (x1.Pvid.map intRow))]), (2, [.sl false 3 (CV.frzEs (x0.Rows.map Vrow.row)), .sl false 1 (CV.frzEs (x0.Pvid.map intRow))])]⟩ (by kernel_rfl) ?_
  obtain ⟨r1, er1, H⟩ := bind_some H
  refine LAt.callP tOk [.rd, .rd] (f := 62) (av := #[.tmp 6, .tmp 8]) (ats := #[38, 38]) (d := (some 9)) (ty := 4) (g := none) (by kernel_rfl) (by kernel_rfl) (by kernel_rfl) [] ⟨17, 0, [(9, .val false [.lit (.bool r1)]), (8, .val false [.sl false 3 (CV.frzEs (x1.Rows.map Vrow.row))]), (7, .adr (.box 3) [(0, 0)] 2 0), (6, .val false [.sl false 3 (CV.frzEs (x0.Rows.map Vrow.row))]), (5, .adr (.box 2) [(0, 0)] 2 0), (4, .val false [.lit (.bool false)]), (3, .adr (.box 3) [(0, 0)] 2 0), (2, .adr (.box 2) [(0, 0)] 2 0)], [(3, [.sl false 3 (CV.frzEs (x1.Rows.map Vrow.row)), .sl false 1 (CV.frzEs (x1.Pvid.map intRow))]), (2, [.sl false 3 (CV.frzEs (x0.Rows.map Vrow.row)), .sl false 1 (CV.frzEs (x0.Pvid.map intRow))])]⟩ ⟨17, 0, [(9, .val false [.lit (.bool r1)]), (8, .val false [.sl false 3 (CV.frzEs (x1.Rows.map Vrow.row))]), (7, .adr (.box 3) [(0, 0)] 2 0), (6, .val false [.sl false 3 (CV.frzEs (x0.Rows.map Vrow.row))]), (5, .adr (.box 2) [(0, 0)] 2 0), (4, .val false [.lit (.bool false)]), (3, .adr (.box 3) [(0, 0)] 2 0), (2, .adr (.box 2) [(0, 0)] 2 0)], [(3, [.sl false 3 (CV.frzEs (x1.Rows.map Vrow.row)), .sl false 1 (CV.frzEs (x1.Pvid.map intRow))]), (2, [.sl false 3 (CV.frzEs (x0.Rows.map Vrow.row)), .sl false 1 (CV.frzEs (x0.Pvid.map intRow))])]⟩ (laws_eqVrowS n x0.Rows x1.Rows r1 er1) (by kernel_rfl) (.inl rfl) rfl ?_
  refine LAt.run tOk 1 ⟨17, 0, [(10, .val false [.lit (.bool (!r1))]), (9, .val false [.lit (.bool r1)]), (8, .val false [.sl false 3 (CV.frzEs (x1.Rows.map Vrow.row))]), (7, .adr (.box 3) [(0, 0)] 2 0), (6, .val false [.sl false 3 (CV.frzEs (x0.Rows.map Vrow.row))]), (5, .adr (.box 2) [(0, 0)] 2 0), (4, .val false [.lit (.bool false)]), (3, .adr (.box 3) [(0, 0)] 2 0), (2, .adr (.box 2) [(0, 0)] 2 0)], [(3, [.sl false 3 (CV.frzEs (x1.Rows.map Vrow.row)), .sl false 1 (CV.frzEs (x1.Pvid.map intRow))]), (2, [.sl false 3 (CV.frzEs (x0.Rows.map Vrow.row)), .sl false 1 (CV.frzEs (x0.Pvid.map intRow))])]⟩ (by kernel_rfl) ?_
  refine LAt.done [10, 4, 3, 2] [3, 2] ⟨17, 0, [(10, .val false [.lit (.bool (!r1))]), (4, .val false [.lit (.bool false)]), (3, .adr (.box 3) [(0, 0)] 2 0), (2, .adr (.box 2) [(0, 0)] 2 0)], [(3, [.sl false 3 (CV.frzEs (x1.Rows.map Vrow.row)), .sl false 1 (CV.frzEs (x1.Pvid.map intRow))]), (2, [.sl false 3 (CV.frzEs (x0.Rows.map Vrow.row)), .sl false 1 (CV.frzEs (x0.Pvid.map intRow))])]⟩ (by kernel_rfl) (by kernel_rfl) ?_
  cases h1 : (!r1)
  · rw [h1, cond_false] at H
    refine Tr.cond (b := false) (by kernel_rfl) (fun h => nomatch h) (fun _ => ?_)
    refine Tr.skip ?_
    show Tr _ _ _ _ _
    refine Tr.seq ?_
    refine Tr.rs ?_
    refine LAt.run tOk 4 ⟨17, 0, [(14, .val false [.sl false 1 (CV.frzEs (x1.Pvid.map intRow))]), (13, .adr (.box 3) [(0, 0)] 2 1), (12, .val false [.sl false 1 (CV.frzEs (x0.Pvid.map intRow))]), (11, .adr (.box 2) [(0, 0)] 2 1), (10, .val false [.lit (.bool false)]), (4, .val false [.lit (.bool false)]), (3, .adr (.box 3) [(0, 0)] 2 0), (2, .adr (.box 2) [(0, 0)] 2 0)], [(3, [.sl false 3 (CV.frzEs (x1.Rows.map Vrow.row)), .sl false 1 (CV.frzEs (x1.Pvid.map intRow))]), (2, [.sl false 3 (CV.frzEs (x0.Rows.map Vrow.row)), .sl false 1 (CV.frzEs (x0.Pvid.map intRow))])]⟩ (by kernel_rfl) ?_
    obtain ⟨r2, er2, H⟩ := bind_some H
    refine LAt.callP tOk [.rd, .rd] (f := 63) (av := #[.tmp 12, .tmp 14]) (ats := #[33, 33]) (d := (some 15)) (ty := 4) (g := none) (by kernel_rfl) (by kernel_rfl) (by kernel_rfl) [] ⟨17, 0, [(15, .val false [.lit (.bool r2)]), (14, .val false [.sl false 1 (CV.frzEs (x1.Pvid.map intRow))]), (13, .adr (.box 3) [(0, 0)] 2 1), (12, .val false [.sl false 1 (CV.frzEs (x0.Pvid.map intRow))]), (11, .adr (.box 2) [(0, 0)] 2 1), (10, .val false [.lit (.bool false)]), (4, .val false [.lit (.bool false)]), (3, .adr (.box 3) [(0, 0)] 2 0), (2, .adr (.box 2) [(0, 0)] 2 0)], [(3, [.sl false 3 (CV.frzEs (x1.Rows.map Vrow.row)), .sl false 1 (CV.frzEs (x1.Pvid.map intRow))]), (2, [.sl false 3 (CV.frzEs (x0.Rows.map Vrow.row)), .sl false 1 (CV.frzEs (x0.Pvid.map intRow))])]⟩ ⟨17, 0, [(15, .val false [.lit (.bool r2)]), (14, .val false [.sl false 1 (CV.frzEs (x1.Pvid.map intRow))]), (13, .adr (.box 3) [(0, 0)] 2 1), (12, .val false [.sl false 1 (CV.frzEs (x0.Pvid.map intRow))]), (11, .adr (.box 2) [(0, 0)] 2 1), (10, .val false [.lit (.bool false)]), (4, .val false [.lit (.bool false)]), (3, .adr (.box 3) [(0, 0)] 2 0), (2, .adr (.box 2) [(0, 0)] 2 0)], [(3, [.sl false 3 (CV.frzEs (x1.Rows.map Vrow.row)), .sl false 1 (CV.frzEs (x1.Pvid.map intRow))]), (2, [.sl false 3 (CV.frzEs (x0.Rows.map Vrow.row)), .sl false 1 (CV.frzEs (x0.Pvid.map intRow))])]⟩ (laws_eqIntS n x0.Pvid x1.Pvid r2 er2) (by kernel_rfl) (.inl rfl) rfl ?_
    refine LAt.run tOk 1 ⟨17, 0, [(16, .val false [.lit (.bool (!r2))]), (15, .val false [.lit (.bool r2)]), (14, .val false [.sl false 1 (CV.frzEs (x1.Pvid.map intRow))]), (13, .adr (.box 3) [(0, 0)] 2 1), (12, .val false [.sl false 1 (CV.frzEs (x0.Pvid.map intRow))]), (11, .adr (.box 2) [(0, 0)] 2 1), (10, .val false [.lit (.bool false)]), (4, .val false [.lit (.bool false)]), (3, .adr (.box 3) [(0, 0)] 2 0), (2, .adr (.box 2) [(0, 0)] 2 0)], [(3, [.sl false 3 (CV.frzEs (x1.Rows.map Vrow.row)), .sl false 1 (CV.frzEs (x1.Pvid.map intRow))]), (2, [.sl false 3 (CV.frzEs (x0.Rows.map Vrow.row)), .sl false 1 (CV.frzEs (x0.Pvid.map intRow))])]⟩ (by kernel_rfl) ?_
    refine LAt.done [16, 4] [] ⟨17, 0, [(16, .val false [.lit (.bool (!r2))]), (4, .val false [.lit (.bool false)])], []⟩ (by kernel_rfl) (by kernel_rfl) ?_
    cases h2 : (!r2)
    · rw [h2, cond_false] at H
      refine Tr.cond (b := false) (by kernel_rfl) (fun h => nomatch h) (fun _ => ?_)
      refine Tr.skip ?_
      show Tr _ _ _ _ _
      refine Tr.rs ?_
      refine LAt.run tOk 1 ⟨17, 0, [(4, .val false [.lit (.bool true)]), (16, .val false [.lit (.bool false)])], []⟩ (by kernel_rfl) ?_
      refine LAt.done [4] [] ⟨17, 0, [(4, .val false [.lit (.bool true)])], []⟩ (by kernel_rfl) (by kernel_rfl) ?_
      refine Tr.ret ?_
      have H := Option.some.inj H
      subst H
      exact Fin.of _ [(false, [.lit (.bool true)])] (by kernel_rfl) rfl rfl
    · rw [h2, cond_true] at H
      refine Tr.cond (b := true) (by kernel_rfl) (fun _ => ?_) (fun h => nomatch h)
      refine Tr.rs ?_
      refine LAt.run tOk 1 ⟨17, 0, [(4, .val false [.lit (.bool false)]), (16, .val false [.lit (.bool true)])], []⟩ (by kernel_rfl) ?_
      refine LAt.done [4] [] ⟨17, 0, [(4, .val false [.lit (.bool false)])], []⟩ (by kernel_rfl) (by kernel_rfl) ?_
      refine Tr.ret ?_
      have H := Option.some.inj H
      subst H
      exact Fin.of _ [(false, [.lit (.bool false)])] (by kernel_rfl) rfl rfl
  · rw [h1, cond_true] at H
    refine Tr.cond (b := true) (by kernel_rfl) (fun _ => ?_) (fun h => nomatch h)
    refine Tr.rs ?_
    refine LAt.run tOk 1 ⟨17, 0, [(4, .val false [.lit (.bool false)]), (10, .val false [.lit (.bool true)]), (3, .adr (.box 3) [(0, 0)] 2 0), (2, .adr (.box 2) [(0, 0)] 2 0)], [(3, [.sl false 3 (CV.frzEs (x1.Rows.map Vrow.row)), .sl false 1 (CV.frzEs (x1.Pvid.map intRow))]), (2, [.sl false 3 (CV.frzEs (x0.Rows.map Vrow.row)), .sl false 1 (CV.frzEs (x0.Pvid.map intRow))])]⟩ (by kernel_rfl) ?_
    refine LAt.done [4, 3, 2] [3, 2] ⟨17, 0, [(4, .val false [.lit (.bool false)]), (3, .adr (.box 3) [(0, 0)] 2 0), (2, .adr (.box 2) [(0, 0)] 2 0)], [(3, [.sl false 3 (CV.frzEs (x1.Rows.map Vrow.row)), .sl false 1 (CV.frzEs (x1.Pvid.map intRow))]), (2, [.sl false 3 (CV.frzEs (x0.Rows.map Vrow.row)), .sl false 1 (CV.frzEs (x0.Pvid.map intRow))])]⟩ (by kernel_rfl) (by kernel_rfl) ?_
    refine Tr.ret ?_
    have H := Option.some.inj H
    subst H
    exact Fin.of _ [(false, [.lit (.bool false)])] (by kernel_rfl) rfl rfl

def laws_FnExactEgressOfF (n : Nat) (x0 : Vtab) (x1 : Int) : Option (Bool) :=
  ((laws_szVtabF n x0 1048576).bind fun r1 => (bif (decide (r1 < 0)) then (some true) else ((laws_toVtabF n x0).bind fun r2 => ((spec_EgressOfF n r2 x1).bind fun r3 => ((laws_toVtabF n x0).bind fun r4 => ((impl_EgressOfF n r4 x1).bind fun r5 => (bif (r5 != r3) then (some false) else ((laws_toVtabF n x0).bind fun r6 => ((laws_eqVtabF n r4 r6).bind fun r7 => (bif (!r7) then (some false) else (some true)))))))))))
/-- loop.example/g00326/laws.FnExactEgressOf -/
theorem laws_FnExactEgressOf (n : Nat) (x0 : Vtab) (x1 : Int) (r : Bool) (H : laws_FnExactEgressOfF n x0 x1 = some r) : LCall Try.prog 4 [.val true (CV.frzRow (Vtab.row x0)), .val false [.lit (.int .i64 x1)]] [.val false [.lit (.bool r)]] [] := by
  refine LCall.of_body tOk Try.func4 rfl (c := (.seq (.region 0 (rg Try.f4 0) false) (.seq (.region 1 (rg Try.f4 1) false) (.seq (.region 2 (rg Try.f4 2) false) (.seq (.seq (.region 3 (rg Try.f4 3) false) (.cond (.tmp 13) (.seq (.region 4 (rg Try.f4 4) false) .ret) .skip)) (.seq (.region 5 (rg Try.f4 5) false) (.seq (.region 6 (rg Try.f4 6) false) (.seq (.region 7 (rg Try.f4 7) false) (.seq (.seq (.region 8 (rg Try.f4 8) false) (.cond (.tmp 25) (.seq (.region 9 (rg Try.f4 9) false) .ret) .skip)) (.seq (.seq (.region 10 (rg Try.f4 10) true) (.cond (.tmp 30) (.seq (.region 11 (rg Try.f4 11) false) .ret) .skip)) (.seq (.region 12 (rg Try.f4 12) false) .ret))))))))))) (by kernel_rfl) (Nat.le_of_ble_eq_true (by kernel_rfl)) 0 (rs := [.tmp 4]) rfl [] .nil [(false, [.lit (.bool r)])] [] [] fun cx => ?_
  show Tr _ _ _ ⟨31, 0, [(0, .val true [.sl false 3 (CV.frzEs (x0.Rows.map Vrow.row)), .sl false 1 (CV.frzEs (x0.Pvid.map intRow))]), (1, .val false [.lit (.int .i64 x1)])], []⟩ _
  unfold laws_FnExactEgressOfF at H
  refine Tr.rs ?_
  refine LAt.run tOk 2 ⟨31, 0, [(4, .val false [.lit (.bool false)]), (2, .adr (.box 2) [(0, 0)] 2 0), (0, .val true [.sl false 3 (CV.frzEs (x0.Rows.map Vrow.row)), .sl false 1 (CV.frzEs (x0.Pvid.map intRow))]), (1, .val false [.lit (.int .i64 x1)])], [(2, [.sl false 3 (CV.frzEs (x0.Rows.map Vrow.row)), .sl false 1 (CV.frzEs (x0.Pvid.map intRow))])]⟩ (by kernel_rfl) ?_
  refine LAt.done [4, 2, 1] [2] ⟨31, 0, [(4, .val false [.lit (.bool false)]), (2, .adr (.box 2) [(0, 0)] 2 0), (1, .val false [.lit (.int .i64 x1)])], [(2, [.sl false 3 (CV.frzEs (x0.Rows.map Vrow.row)), .sl false 1 (CV.frzEs (x0.Pvid.map intRow))])]⟩ (by kernel_rfl) (by kernel_rfl) ?_
  refine Tr.rs ?_
  refine LAt.run tOk 1 ⟨31, 0, [(5, .val false [.lit (.int .i64 1048576)]), (4, .val false [.lit (.bool false)]), (2, .adr (.box 2) [(0, 0)] 2 0), (1, .val false [.lit (.int .i64 x1)])], [(2, [.sl false 3 (CV.frzEs (x0.Rows.map Vrow.row)), .sl false 1 (CV.frzEs (x0.Pvid.map intRow))])]⟩ (by kernel_rfl) ?_
  refine LAt.done [5, 4, 2, 1] [2] ⟨31, 0, [(5, .val false [.lit (.int .i64 1048576)]), (4, .val false [.lit (.bool false)]), (2, .adr (.box 2) [(0, 0)] 2 0), (1, .val false [.lit (.int .i64 x1)])], [(2, [.sl false 3 (CV.frzEs (x0.Rows.map Vrow.row)), .sl false 1 (CV.frzEs (x0.Pvid.map intRow))])]⟩ (by kernel_rfl) (by kernel_rfl) ?_
  refine Tr.rs ?_
  refine LAt.run tOk 2 ⟨31, 0, [(10, .val false [.lit (.int .i64 1048576)]), (9, .val true [.sl false 3 (CV.frzEs (x0.Rows.map Vrow.row)), .sl false 1 (CV.frzEs (x0.Pvid.map intRow))]), (5, .val false [.lit (.int .i64 1048576)]), (4, .val false [.lit (.bool false)]), (2, .adr (.box 2) [(0, 0)] 2 0), (1, .val false [.lit (.int .i64 x1)])], [(2, [.sl false 3 (CV.frzEs (x0.Rows.map Vrow.row)), .sl false 1 (CV.frzEs (x0.Pvid.map intRow))])]⟩ (by kernel_rfl) ?_
  obtain ⟨r1, er1, H⟩ := bind_some H
  refine LAt.callP tOk [.rd, .rd] (f := 17) (av := #[.tmp 9, .tmp 10]) (ats := #[35, 3]) (d := (some 11)) (ty := 3) (g := none) (by kernel_rfl) (by kernel_rfl) (by kernel_rfl) [] ⟨31, 0, [(11, .val false [.lit (.int .i64 r1)]), (10, .val false [.lit (.int .i64 1048576)]), (9, .val true [.sl false 3 (CV.frzEs (x0.Rows.map Vrow.row)), .sl false 1 (CV.frzEs (x0.Pvid.map intRow))]), (5, .val false [.lit (.int .i64 1048576)]), (4, .val false [.lit (.bool false)]), (2, .adr (.box 2) [(0, 0)] 2 0), (1, .val false [.lit (.int .i64 x1)])], [(2, [.sl false 3 (CV.frzEs (x0.Rows.map Vrow.row)), .sl false 1 (CV.frzEs (x0.Pvid.map intRow))])]⟩ ⟨31, 0, [(11, .val false [.lit (.int .i64 r1)]), (10, .val false [.lit (.int .i64 1048576)]), (9, .val true [.sl false 3 (CV.frzEs (x0.Rows.map Vrow.row)), .sl false 1 (CV.frzEs (x0.Pvid.map intRow))]), (5, .val false [.lit (.int .i64 1048576)]), (4, .val false [.lit (.bool false)]), (2, .adr (.box 2) [(0, 0)] 2 0), (1, .val false [.lit (.int .i64 x1)])], [(2, [.sl false 3 (CV.frzEs (x0.Rows.map Vrow.row)), .sl false 1 (CV.frzEs (x0.Pvid.map intRow))])]⟩ (laws_szVtab n x0 1048576 r1 er1) (by kernel_rfl) (.inl rfl) rfl ?_
  refine LAt.run tOk 1 ⟨31, 0, [(5, .val false [.lit (.int .i64 r1)]), (11, .val false [.lit (.int .i64 r1)]), (10, .val false [.lit (.int .i64 1048576)]), (9, .val true [.sl false 3 (CV.frzEs (x0.Rows.map Vrow.row)), .sl false 1 (CV.frzEs (x0.Pvid.map intRow))]), (4, .val false [.lit (.bool false)]), (2, .adr (.box 2) [(0, 0)] 2 0), (1, .val false [.lit (.int .i64 x1)])], [(2, [.sl false 3 (CV.frzEs (x0.Rows.map Vrow.row)), .sl false 1 (CV.frzEs (x0.Pvid.map intRow))])]⟩ (by kernel_rfl) ?_
  refine LAt.done [5, 4, 2, 1] [2] ⟨31, 0, [(5, .val false [.lit (.int .i64 r1)]), (4, .val false [.lit (.bool false)]), (2, .adr (.box 2) [(0, 0)] 2 0), (1, .val false [.lit (.int .i64 x1)])], [(2, [.sl false 3 (CV.frzEs (x0.Rows.map Vrow.row)), .sl false 1 (CV.frzEs (x0.Pvid.map intRow))])]⟩ (by kernel_rfl) (by kernel_rfl) ?_
  refine Tr.seq ?_
  refine Tr.rs ?_
  refine LAt.run tOk 2 ⟨31, 0, [(13, .val false [.lit (.bool (decide (r1 < 0)))]), (12, .val false [.lit (.int .i64 r1)]), (5, .val false [.lit (.int .i64 r1)]), (4, .val false [.lit (.bool false)]), (2, .adr (.box 2) [(0, 0)] 2 0), (1, .val false [.lit (.int .i64 x1)])], [(2, [.sl false 3 (CV.frzEs (x0.Rows.map Vrow.row)), .sl false 1 (CV.frzEs (x0.Pvid.map intRow))])]⟩ (by kernel_rfl) ?_
  refine LAt.done [13, 4, 2, 1] [2] ⟨31, 0, [(13, .val false [.lit (.bool (decide (r1 < 0)))]), (4, .val false [.lit (.bool false)]), (2, .adr (.box 2) [(0, 0)] 2 0), (1, .val false [.lit (.int .i64 x1)])], [(2, [.sl false 3 (CV.frzEs (x0.Rows.map Vrow.row)), .sl false 1 (CV.frzEs (x0.Pvid.map intRow))])]⟩ (by kernel_rfl) (by kernel_rfl) ?_
  cases h1 : (decide (r1 < 0))
  · rw [h1, cond_false] at H
    refine Tr.cond (b := false) (by kernel_rfl) (fun h => nomatch h) (fun _ => ?_)
    refine Tr.skip ?_
    show Tr _ _ _ _ _
    refine Tr.rs ?_
    refine LAt.run tOk 1 ⟨31, 0, [(14, .val true [.sl false 3 (CV.frzEs (x0.Rows.map Vrow.row)), .sl false 1 (CV.frzEs (x0.Pvid.map intRow))]), (13, .val false [.lit (.bool false)]), (4, .val false [.lit (.bool false)]), (2, .adr (.box 2) [(0, 0)] 2 0), (1, .val false [.lit (.int .i64 x1)])], [(2, [.sl false 3 (CV.frzEs (x0.Rows.map Vrow.row)), .sl false 1 (CV.frzEs (x0.Pvid.map intRow))])]⟩ (by kernel_rfl) ?_
    obtain ⟨r2, er2, H⟩ := bind_some H
    refine LAt.callP tOk [.rd] (f := 19) (av := #[.tmp 14]) (ats := #[35]) (d := (some 15)) (ty := 40) (g := none) (by kernel_rfl) (by kernel_rfl) (by kernel_rfl) [] ⟨31, 0, [(15, .val true [.sl true 3 (r2.Rows.map Vrow.row), .sl true 1 (r2.Pvid.map intRow)]), (14, .val true [.sl false 3 (CV.frzEs (x0.Rows.map Vrow.row)), .sl false 1 (CV.frzEs (x0.Pvid.map intRow))]), (13, .val false [.lit (.bool false)]), (4, .val false [.lit (.bool false)]), (2, .adr (.box 2) [(0, 0)] 2 0), (1, .val false [.lit (.int .i64 x1)])], [(2, [.sl false 3 (CV.frzEs (x0.Rows.map Vrow.row)), .sl false 1 (CV.frzEs (x0.Pvid.map intRow))])]⟩ ⟨31, 0, [(15, .val true [.sl true 3 (r2.Rows.map Vrow.row), .sl true 1 (r2.Pvid.map intRow)]), (14, .val true [.sl false 3 (CV.frzEs (x0.Rows.map Vrow.row)), .sl false 1 (CV.frzEs (x0.Pvid.map intRow))]), (13, .val false [.lit (.bool false)]), (4, .val false [.lit (.bool false)]), (2, .adr (.box 2) [(0, 0)] 2 0), (1, .val false [.lit (.int .i64 x1)])], [(2, [.sl false 3 (CV.frzEs (x0.Rows.map Vrow.row)), .sl false 1 (CV.frzEs (x0.Pvid.map intRow))])]⟩ (laws_toVtab n x0 r2 er2) (by kernel_rfl) (.inl rfl) rfl ?_
    refine LAt.run tOk 1 ⟨31, 0, [(16, .val false [.lit (.int .i64 x1)]), (15, .val true [.sl true 3 (r2.Rows.map Vrow.row), .sl true 1 (r2.Pvid.map intRow)]), (14, .val true [.sl false 3 (CV.frzEs (x0.Rows.map Vrow.row)), .sl false 1 (CV.frzEs (x0.Pvid.map intRow))]), (13, .val false [.lit (.bool false)]), (4, .val false [.lit (.bool false)]), (2, .adr (.box 2) [(0, 0)] 2 0), (1, .val false [.lit (.int .i64 x1)])], [(2, [.sl false 3 (CV.frzEs (x0.Rows.map Vrow.row)), .sl false 1 (CV.frzEs (x0.Pvid.map intRow))])]⟩ (by kernel_rfl) ?_
    obtain ⟨r3, er3, H⟩ := bind_some H
    refine LAt.callP tOk [.rd, .rd] (f := 18) (av := #[.tmp 15, .tmp 16]) (ats := #[40, 3]) (d := (some 17)) (ty := 3) (g := none) (by kernel_rfl) (by kernel_rfl) (by kernel_rfl) [] ⟨31, 0, [(17, .val false [.lit (.int .i64 r3)]), (15, .val true [.sl false 3 (CV.frzEs (r2.Rows.map Vrow.row)), .sl false 1 (CV.frzEs (r2.Pvid.map intRow))]), (16, .val false [.lit (.int .i64 x1)]), (14, .val true [.sl false 3 (CV.frzEs (x0.Rows.map Vrow.row)), .sl false 1 (CV.frzEs (x0.Pvid.map intRow))]), (13, .val false [.lit (.bool false)]), (4, .val false [.lit (.bool false)]), (2, .adr (.box 2) [(0, 0)] 2 0), (1, .val false [.lit (.int .i64 x1)])], [(2, [.sl false 3 (CV.frzEs (x0.Rows.map Vrow.row)), .sl false 1 (CV.frzEs (x0.Pvid.map intRow))])]⟩ ⟨31, 0, [(17, .val false [.lit (.int .i64 r3)]), (15, .val true [.sl false 3 (CV.frzEs (r2.Rows.map Vrow.row)), .sl false 1 (CV.frzEs (r2.Pvid.map intRow))]), (16, .val false [.lit (.int .i64 x1)]), (14, .val true [.sl false 3 (CV.frzEs (x0.Rows.map Vrow.row)), .sl false 1 (CV.frzEs (x0.Pvid.map intRow))]), (13, .val false [.lit (.bool false)]), (4, .val false [.lit (.bool false)]), (2, .adr (.box 2) [(0, 0)] 2 0), (1, .val false [.lit (.int .i64 x1)])], [(2, [.sl false 3 (CV.frzEs (x0.Rows.map Vrow.row)), .sl false 1 (CV.frzEs (x0.Pvid.map intRow))])]⟩ (spec_EgressOf n r2 x1 r3 er3) (by kernel_rfl) (.inl rfl) rfl ?_
    refine LAt.run tOk 1 ⟨31, 0, [(6, .val false [.lit (.int .i64 r3)]), (17, .val false [.lit (.int .i64 r3)]), (15, .val true [.sl false 3 (CV.frzEs (r2.Rows.map Vrow.row)), .sl false 1 (CV.frzEs (r2.Pvid.map intRow))]), (16, .val false [.lit (.int .i64 x1)]), (14, .val true [.sl false 3 (CV.frzEs (x0.Rows.map Vrow.row)), .sl false 1 (CV.frzEs (x0.Pvid.map intRow))]), (13, .val false [.lit (.bool false)]), (4, .val false [.lit (.bool false)]), (2, .adr (.box 2) [(0, 0)] 2 0), (1, .val false [.lit (.int .i64 x1)])], [(2, [.sl false 3 (CV.frzEs (x0.Rows.map Vrow.row)), .sl false 1 (CV.frzEs (x0.Pvid.map intRow))])]⟩ (by kernel_rfl) ?_
    refine LAt.done [6, 4, 2, 1] [2] ⟨31, 0, [(6, .val false [.lit (.int .i64 r3)]), (4, .val false [.lit (.bool false)]), (2, .adr (.box 2) [(0, 0)] 2 0), (1, .val false [.lit (.int .i64 x1)])], [(2, [.sl false 3 (CV.frzEs (x0.Rows.map Vrow.row)), .sl false 1 (CV.frzEs (x0.Pvid.map intRow))])]⟩ (by kernel_rfl) (by kernel_rfl) ?_
    refine Tr.rs ?_
    refine LAt.run tOk 1 ⟨31, 0, [(18, .val true [.sl false 3 (CV.frzEs (x0.Rows.map Vrow.row)), .sl false 1 (CV.frzEs (x0.Pvid.map intRow))]), (6, .val false [.lit (.int .i64 r3)]), (4, .val false [.lit (.bool false)]), (2, .adr (.box 2) [(0, 0)] 2 0), (1, .val false [.lit (.int .i64 x1)])], [(2, [.sl false 3 (CV.frzEs (x0.Rows.map Vrow.row)), .sl false 1 (CV.frzEs (x0.Pvid.map intRow))])]⟩ (by kernel_rfl) ?_
    obtain ⟨r4, er4, H⟩ := bind_some H
    refine LAt.callP tOk [.rd] (f := 19) (av := #[.tmp 18]) (ats := #[35]) (d := (some 19)) (ty := 40) (g := none) (by kernel_rfl) (by kernel_rfl) (by kernel_rfl) [] ⟨31, 0, [(19, .val true [.sl true 3 (r4.Rows.map Vrow.row), .sl true 1 (r4.Pvid.map intRow)]), (18, .val true [.sl false 3 (CV.frzEs (x0.Rows.map Vrow.row)), .sl false 1 (CV.frzEs (x0.Pvid.map intRow))]), (6, .val false [.lit (.int .i64 r3)]), (4, .val false [.lit (.bool false)]), (2, .adr (.box 2) [(0, 0)] 2 0), (1, .val false [.lit (.int .i64 x1)])], [(2, [.sl false 3 (CV.frzEs (x0.Rows.map Vrow.row)), .sl false 1 (CV.frzEs (x0.Pvid.map intRow))])]⟩ ⟨31, 0, [(19, .val true [.sl true 3 (r4.Rows.map Vrow.row), .sl true 1 (r4.Pvid.map intRow)]), (18, .val true [.sl false 3 (CV.frzEs (x0.Rows.map Vrow.row)), .sl false 1 (CV.frzEs (x0.Pvid.map intRow))]), (6, .val false [.lit (.int .i64 r3)]), (4, .val false [.lit (.bool false)]), (2, .adr (.box 2) [(0, 0)] 2 0), (1, .val false [.lit (.int .i64 x1)])], [(2, [.sl false 3 (CV.frzEs (x0.Rows.map Vrow.row)), .sl false 1 (CV.frzEs (x0.Pvid.map intRow))])]⟩ (laws_toVtab n x0 r4 er4) (by kernel_rfl) (.inl rfl) rfl ?_
    refine LAt.run tOk 2 ⟨31, 0, [(7, .adr (.box 7) [(0, 0)] 2 0), (18, .val true [.sl false 3 (CV.frzEs (x0.Rows.map Vrow.row)), .sl false 1 (CV.frzEs (x0.Pvid.map intRow))]), (6, .val false [.lit (.int .i64 r3)]), (4, .val false [.lit (.bool false)]), (2, .adr (.box 2) [(0, 0)] 2 0), (1, .val false [.lit (.int .i64 x1)])], [(7, [.sl true 3 (r4.Rows.map Vrow.row), .sl true 1 (r4.Pvid.map intRow)]), (2, [.sl false 3 (CV.frzEs (x0.Rows.map Vrow.row)), .sl false 1 (CV.frzEs (x0.Pvid.map intRow))])]⟩ (by kernel_rfl) ?_
    refine LAt.done [7, 6, 4, 2, 1] [7, 2] ⟨31, 0, [(7, .adr (.box 7) [(0, 0)] 2 0), (6, .val false [.lit (.int .i64 r3)]), (4, .val false [.lit (.bool false)]), (2, .adr (.box 2) [(0, 0)] 2 0), (1, .val false [.lit (.int .i64 x1)])], [(7, [.sl true 3 (r4.Rows.map Vrow.row), .sl true 1 (r4.Pvid.map intRow)]), (2, [.sl false 3 (CV.frzEs (x0.Rows.map Vrow.row)), .sl false 1 (CV.frzEs (x0.Pvid.map intRow))])]⟩ (by kernel_rfl) (by kernel_rfl) ?_
    refine Tr.rs ?_
    refine LAt.run tOk 2 ⟨31, 0, [(21, .val false [.lit (.int .i64 x1)]), (20, .ref (.box 7) [(0, 0)] 2 0 2 true), (7, .adr (.box 7) [(0, 0)] 2 0), (6, .val false [.lit (.int .i64 r3)]), (4, .val false [.lit (.bool false)]), (2, .adr (.box 2) [(0, 0)] 2 0), (1, .val false [.lit (.int .i64 x1)])], [(7, [.sl true 3 (r4.Rows.map Vrow.row), .sl true 1 (r4.Pvid.map intRow)]), (2, [.sl false 3 (CV.frzEs (x0.Rows.map Vrow.row)), .sl false 1 (CV.frzEs (x0.Pvid.map intRow))])]⟩ (by kernel_rfl) ?_
    obtain ⟨r5, er5, H⟩ := bind_some H
    refine LAt.callP tOk [.rd, .rd] (f := 20) (av := #[.tmp 20, .tmp 21]) (ats := #[40, 3]) (d := (some 22)) (ty := 3) (g := none) (by kernel_rfl) (by kernel_rfl) (by kernel_rfl) [.box 7] ⟨31, 0, [(22, .val false [.lit (.int .i64 r5)]), (21, .val false [.lit (.int .i64 x1)]), (20, .ref (.box 7) [(0, 0)] 2 0 2 true), (7, .adr (.box 7) [(0, 0)] 2 0), (6, .val false [.lit (.int .i64 r3)]), (4, .val false [.lit (.bool false)]), (2, .adr (.box 2) [(0, 0)] 2 0), (1, .val false [.lit (.int .i64 x1)])], [(7, [.sl true 3 (r4.Rows.map Vrow.row), .sl true 1 (r4.Pvid.map intRow)]), (2, [.sl false 3 (CV.frzEs (x0.Rows.map Vrow.row)), .sl false 1 (CV.frzEs (x0.Pvid.map intRow))])]⟩ ⟨31, 0, [(22, .val false [.lit (.int .i64 r5)]), (21, .val false [.lit (.int .i64 x1)]), (20, .ref (.box 7) [(0, 0)] 2 0 2 true), (7, .adr (.box 7) [(0, 0)] 2 0), (6, .val false [.lit (.int .i64 r3)]), (4, .val false [.lit (.bool false)]), (2, .adr (.box 2) [(0, 0)] 2 0), (1, .val false [.lit (.int .i64 x1)])], [(7, [.sl true 3 (r4.Rows.map Vrow.row), .sl true 1 (r4.Pvid.map intRow)]), (2, [.sl false 3 (CV.frzEs (x0.Rows.map Vrow.row)), .sl false 1 (CV.frzEs (x0.Pvid.map intRow))])]⟩ (impl_EgressOf n r4 x1 r5 er5) (by kernel_rfl) (.inr (rets_cons (mine_cons mine_lit mine_nil) rets_nil)) rfl ?_
    refine LAt.run tOk 1 ⟨31, 0, [(8, .val false [.lit (.int .i64 r5)]), (22, .val false [.lit (.int .i64 r5)]), (21, .val false [.lit (.int .i64 x1)]), (20, .ref (.box 7) [(0, 0)] 2 0 2 true), (7, .adr (.box 7) [(0, 0)] 2 0), (6, .val false [.lit (.int .i64 r3)]), (4, .val false [.lit (.bool false)]), (2, .adr (.box 2) [(0, 0)] 2 0), (1, .val false [.lit (.int .i64 x1)])], [(7, [.sl true 3 (r4.Rows.map Vrow.row), .sl true 1 (r4.Pvid.map intRow)]), (2, [.sl false 3 (CV.frzEs (x0.Rows.map Vrow.row)), .sl false 1 (CV.frzEs (x0.Pvid.map intRow))])]⟩ (by kernel_rfl) ?_
    refine LAt.done [8, 7, 6, 4, 2] [7, 2] ⟨31, 0, [(8, .val false [.lit (.int .i64 r5)]), (7, .adr (.box 7) [(0, 0)] 2 0), (6, .val false [.lit (.int .i64 r3)]), (4, .val false [.lit (.bool false)]), (2, .adr (.box 2) [(0, 0)] 2 0)], [(7, [.sl true 3 (r4.Rows.map Vrow.row), .sl true 1 (r4.Pvid.map intRow)]), (2, [.sl false 3 (CV.frzEs (x0.Rows.map Vrow.row)), .sl false 1 (CV.frzEs (x0.Pvid.map intRow))])]⟩ (by kernel_rfl) (by kernel_rfl) ?_
    refine Tr.seq ?_
    refine Tr.rs ?_
    refine LAt.run tOk 3 ⟨31, 0, [(25, .val false [.lit (.bool (r5 != r3))]), (24, .val false [.lit (.int .i64 r3)]), (23, .val false [.lit (.int .i64 r5)]), (8, .val false [.lit (.int .i64 r5)]), (7, .adr (.box 7) [(0, 0)] 2 0), (6, .val false [.lit (.int .i64 r3)]), (4, .val false [.lit (.bool false)]), (2, .adr (.box 2) [(0, 0)] 2 0)], [(7, [.sl true 3 (r4.Rows.map Vrow.row), .sl true 1 (r4.Pvid.map intRow)]), (2, [.sl false 3 (CV.frzEs (x0.Rows.map Vrow.row)), .sl false 1 (CV.frzEs (x0.Pvid.map intRow))])]⟩ (by kernel_rfl) ?_
    refine LAt.done [25, 7, 4, 2] [7, 2] ⟨31, 0, [(25, .val false [.lit (.bool (r5 != r3))]), (7, .adr (.box 7) [(0, 0)] 2 0), (4, .val false [.lit (.bool false)]), (2, .adr (.box 2) [(0, 0)] 2 0)], [(7, [.sl true 3 (r4.Rows.map Vrow.row), .sl true 1 (r4.Pvid.map intRow)]), (2, [.sl false 3 (CV.frzEs (x0.Rows.map Vrow.row)), .sl false 1 (CV.frzEs (x0.Pvid.map intRow))])]⟩ (by kernel_rfl) (by kernel_rfl) ?_
    cases h2 : (r5 != r3)
    · rw [h2, cond_false] at H
      refine Tr.cond (b := false) (by kernel_rfl) (fun h => nomatch h) (fun _ => ?_)
      refine Tr.skip ?_
      show Tr _ _ _ _ _
      refine Tr.seq ?_
      obtain ⟨r6, er6, H⟩ := bind_some H
      obtain ⟨r7, er7, H⟩ := bind_some H
      refine Tr.draws mixed 5 (by kernel_rfl) ⟨31, 0, [(30, .val false [.lit (.bool (!r7))]), (4, .val false [.lit (.bool false)])], []⟩ (fun cx => ?_) ?_
      · refine AT.run tOk [(0, [3]), (1, [2, 3])] 3 [⟨[2, 3], 35, 2, 27⟩, ⟨[3], 40, 7, 26⟩] [1, 0] ⟨31, 0, [(27, .ref (.box 2) [(0, 0)] 2 0 2 true), (26, .ref (.box 7) [(0, 0)] 2 0 2 true), (25, .val false [.lit (.bool false)]), (7, .adr (.box 7) [(0, 0)] 2 0), (4, .val false [.lit (.bool false)]), (2, .adr (.box 2) [(0, 0)] 2 0)], [(7, [.sl true 3 (r4.Rows.map Vrow.row), .sl true 1 (r4.Pvid.map intRow)]), (2, [.sl false 3 (CV.frzEs (x0.Rows.map Vrow.row)), .sl false 1 (CV.frzEs (x0.Pvid.map intRow))])]⟩ rfl (by kernel_rfl) (fun cx => ?_)
        refine AT.big1 tOk 2 (by kernel_rfl) (by kernel_rfl) ?_
        refine LAt.callP tOk [.rd] (f := 19) (av := #[.tmp 27]) (ats := #[35]) (d := (some 28)) (ty := 40) (g := none) (by kernel_rfl) (by kernel_rfl) (by kernel_rfl) [] ⟨31, 0, [(28, .val true [.sl true 3 (r6.Rows.map Vrow.row), .sl true 1 (r6.Pvid.map intRow)]), (27, .ref (.box 2) [(0, 0)] 2 0 2 true), (26, .ref (.box 7) [(0, 0)] 2 0 2 true), (25, .val false [.lit (.bool false)]), (7, .adr (.box 7) [(0, 0)] 2 0), (4, .val false [.lit (.bool false)]), (2, .adr (.box 2) [(0, 0)] 2 0)], [(7, [.sl true 3 (r4.Rows.map Vrow.row), .sl true 1 (r4.Pvid.map intRow)]), (2, [.sl false 3 (CV.frzEs (x0.Rows.map Vrow.row)), .sl false 1 (CV.frzEs (x0.Pvid.map intRow))])]⟩ ⟨31, 0, [(28, .val true [.sl true 3 (r6.Rows.map Vrow.row), .sl true 1 (r6.Pvid.map intRow)]), (27, .ref (.box 2) [(0, 0)] 2 0 2 true), (26, .ref (.box 7) [(0, 0)] 2 0 2 true), (25, .val false [.lit (.bool false)]), (7, .adr (.box 7) [(0, 0)] 2 0), (4, .val false [.lit (.bool false)]), (2, .adr (.box 2) [(0, 0)] 2 0)], [(7, [.sl true 3 (r4.Rows.map Vrow.row), .sl true 1 (r4.Pvid.map intRow)]), (2, [.sl false 3 (CV.frzEs (x0.Rows.map Vrow.row)), .sl false 1 (CV.frzEs (x0.Pvid.map intRow))])]⟩ (laws_toVtab n x0 r6 er6) (by kernel_rfl) (.inl rfl) rfl ?_
        refine LAt.fin (by kernel_rfl) (And.intro (And.intro (by kernel_rfl) (by kernel_rfl)) ?_)
        refine AT.big1 tOk 3 (by kernel_rfl) (by kernel_rfl) ?_
        refine LAt.callP tOk [.rd, .rd] (f := 21) (av := #[.tmp 26, .tmp 28]) (ats := #[40, 40]) (d := (some 29)) (ty := 4) (g := none) (by kernel_rfl) (by kernel_rfl) (by kernel_rfl) [.box 7] ⟨31, 0, [(29, .val false [.lit (.bool r7)]), (28, .val true [.sl false 3 (CV.frzEs (r6.Rows.map Vrow.row)), .sl false 1 (CV.frzEs (r6.Pvid.map intRow))]), (27, .ref (.box 2) [(0, 0)] 2 0 2 true), (26, .ref (.box 7) [(0, 0)] 2 0 2 true), (25, .val false [.lit (.bool false)]), (7, .adr (.box 7) [(0, 0)] 2 0), (4, .val false [.lit (.bool false)]), (2, .adr (.box 2) [(0, 0)] 2 0)], [(7, [.sl true 3 (r4.Rows.map Vrow.row), .sl true 1 (r4.Pvid.map intRow)]), (2, [.sl false 3 (CV.frzEs (x0.Rows.map Vrow.row)), .sl false 1 (CV.frzEs (x0.Pvid.map intRow))])]⟩ ⟨31, 0, [(29, .val false [.lit (.bool r7)]), (28, .val true [.sl false 3 (CV.frzEs (r6.Rows.map Vrow.row)), .sl false 1 (CV.frzEs (r6.Pvid.map intRow))]), (27, .ref (.box 2) [(0, 0)] 2 0 2 true), (26, .ref (.box 7) [(0, 0)] 2 0 2 true), (25, .val false [.lit (.bool false)]), (7, .adr (.box 7) [(0, 0)] 2 0), (4, .val false [.lit (.bool false)]), (2, .adr (.box 2) [(0, 0)] 2 0)], [(7, [.sl true 3 (r4.Rows.map Vrow.row), .sl true 1 (r4.Pvid.map intRow)]), (2, [.sl false 3 (CV.frzEs (x0.Rows.map Vrow.row)), .sl false 1 (CV.frzEs (x0.Pvid.map intRow))])]⟩ (laws_eqVtab n r4 r6 r7 er7) (by kernel_rfl) (.inr (rets_cons (mine_cons mine_lit mine_nil) rets_nil)) rfl ?_
        refine LAt.fin (by kernel_rfl) (And.intro (And.intro (by kernel_rfl) (by kernel_rfl)) ?_)
        refine AT.run tOk [(4, [])] 0 [⟨[2, 3], 35, 2, 27⟩, ⟨[3], 40, 7, 26⟩] [4, 3, 2, 1, 0] ⟨31, 0, [(30, .val false [.lit (.bool (!r7))]), (29, .val false [.lit (.bool r7)]), (28, .val true [.sl false 3 (CV.frzEs (r6.Rows.map Vrow.row)), .sl false 1 (CV.frzEs (r6.Pvid.map intRow))]), (27, .ref (.box 2) [(0, 0)] 2 0 2 true), (26, .ref (.box 7) [(0, 0)] 2 0 2 true), (25, .val false [.lit (.bool false)]), (7, .adr (.box 7) [(0, 0)] 2 0), (4, .val false [.lit (.bool false)]), (2, .adr (.box 2) [(0, 0)] 2 0)], [(7, [.sl true 3 (r4.Rows.map Vrow.row), .sl true 1 (r4.Pvid.map intRow)]), (2, [.sl false 3 (CV.frzEs (x0.Rows.map Vrow.row)), .sl false 1 (CV.frzEs (x0.Pvid.map intRow))])]⟩ rfl (by kernel_rfl) (fun cx => ?_)
        exact AT.done [30, 4] [] _ (by kernel_rfl) (by kernel_rfl) rfl
      · cases h3 : (!r7)
        · rw [h3, cond_false] at H
          refine Tr.cond (b := false) (by kernel_rfl) (fun h => nomatch h) (fun _ => ?_)
          refine Tr.skip ?_
          show Tr _ _ _ _ _
          refine Tr.rs ?_
          refine LAt.run tOk 1 ⟨31, 0, [(4, .val false [.lit (.bool true)]), (30, .val false [.lit (.bool false)])], []⟩ (by kernel_rfl) ?_
          refine LAt.done [4] [] ⟨31, 0, [(4, .val false [.lit (.bool true)])], []⟩ (by kernel_rfl) (by kernel_rfl) ?_
          refine Tr.ret ?_
          have H := Option.some.inj H
          subst H
          exact Fin.of _ [(false, [.lit (.bool true)])] (by kernel_rfl) rfl rfl
        · rw [h3, cond_true] at H
          refine Tr.cond (b := true) (by kernel_rfl) (fun _ => ?_) (fun h => nomatch h)
          refine Tr.rs ?_
          refine LAt.run tOk 1 ⟨31, 0, [(4, .val false [.lit (.bool false)]), (30, .val false [.lit (.bool true)])], []⟩ (by kernel_rfl) ?_
          refine LAt.done [4] [] ⟨31, 0, [(4, .val false [.lit (.bool false)])], []⟩ (by kernel_rfl) (by kernel_rfl) ?_
          refine Tr.ret ?_
          have H := Option.some.inj H
          subst H
          exact Fin.of _ [(false, [.lit (.bool false)])] (by kernel_rfl) rfl rfl
    · rw [h2, cond_true] at H
      refine Tr.cond (b := true) (by kernel_rfl) (fun _ => ?_) (fun h => nomatch h)
      refine Tr.rs ?_
      refine LAt.run tOk 1 ⟨31, 0, [(4, .val false [.lit (.bool false)]), (25, .val false [.lit (.bool true)]), (7, .adr (.box 7) [(0, 0)] 2 0), (2, .adr (.box 2) [(0, 0)] 2 0)], [(7, [.sl true 3 (r4.Rows.map Vrow.row), .sl true 1 (r4.Pvid.map intRow)]), (2, [.sl false 3 (CV.frzEs (x0.Rows.map Vrow.row)), .sl false 1 (CV.frzEs (x0.Pvid.map intRow))])]⟩ (by kernel_rfl) ?_
      refine LAt.done [4, 7, 2] [7, 2] ⟨31, 0, [(4, .val false [.lit (.bool false)]), (7, .adr (.box 7) [(0, 0)] 2 0), (2, .adr (.box 2) [(0, 0)] 2 0)], [(7, [.sl true 3 (r4.Rows.map Vrow.row), .sl true 1 (r4.Pvid.map intRow)]), (2, [.sl false 3 (CV.frzEs (x0.Rows.map Vrow.row)), .sl false 1 (CV.frzEs (x0.Pvid.map intRow))])]⟩ (by kernel_rfl) (by kernel_rfl) ?_
      refine Tr.ret ?_
      have H := Option.some.inj H
      subst H
      exact Fin.of _ [(false, [.lit (.bool false)])] (by kernel_rfl) rfl rfl
  · rw [h1, cond_true] at H
    refine Tr.cond (b := true) (by kernel_rfl) (fun _ => ?_) (fun h => nomatch h)
    refine Tr.rs ?_
    refine LAt.run tOk 1 ⟨31, 0, [(4, .val false [.lit (.bool true)]), (13, .val false [.lit (.bool true)]), (2, .adr (.box 2) [(0, 0)] 2 0), (1, .val false [.lit (.int .i64 x1)])], [(2, [.sl false 3 (CV.frzEs (x0.Rows.map Vrow.row)), .sl false 1 (CV.frzEs (x0.Pvid.map intRow))])]⟩ (by kernel_rfl) ?_
    refine LAt.done [4, 2, 1] [2] ⟨31, 0, [(4, .val false [.lit (.bool true)]), (2, .adr (.box 2) [(0, 0)] 2 0), (1, .val false [.lit (.int .i64 x1)])], [(2, [.sl false 3 (CV.frzEs (x0.Rows.map Vrow.row)), .sl false 1 (CV.frzEs (x0.Pvid.map intRow))])]⟩ (by kernel_rfl) (by kernel_rfl) ?_
    refine Tr.ret ?_
    have H := Option.some.inj H
    subst H
    exact Fin.of _ [(false, [.lit (.bool true)])] (by kernel_rfl) rfl rfl
end Go.Proofs.Ytnhmckiejhbmcaa.Tw
