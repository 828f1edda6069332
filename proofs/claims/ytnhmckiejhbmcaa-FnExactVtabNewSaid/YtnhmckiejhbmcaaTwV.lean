/- Functions of the program, over trees. -/
import Derived.Test.YtnhmckiejhbmcaaProg
import Derived.Test.YtnhmckiejhbmcaaTlRule
import Derived.Test.YtnhmckiejhbmcaaTlU3
import Derived.WalkKit
set_option linter.unusedVariables false
set_option linter.unusedSimpArgs false
set_option maxRecDepth 100000
namespace Go.Proofs.Ytnhmckiejhbmcaa.Tw
open Go Go.TL Go.Proofs
def tab : List (Nat × TI) := [(2, ⟨.int .i64, 1, 8, [.lit (.int .i64 0)]⟩),
  (3, ⟨.int .i64, 1, 8, [.lit (.int .i64 0)]⟩),
  (4, ⟨.bool, 1, 1, [.lit (.bool false)]⟩),
  (5, ⟨.int .u8, 1, 1, [.lit (.int .u8 0)]⟩),
  (6, ⟨.int .u8, 1, 1, [.lit (.int .u8 0)]⟩),
  (7, ⟨.st [(0, 1, 2), (1, 1, 3), (2, 1, 4), (3, 1, 6)], 4, 24, [.lit (.int .i64 0), .lit (.int .i64 0), .lit (.bool false), .lit (.int .u8 0)]⟩),
  (8, ⟨.st [(0, 1, 2), (1, 1, 3), (2, 1, 4), (3, 1, 6)], 4, 24, [.lit (.int .i64 0), .lit (.int .i64 0), .lit (.bool false), .lit (.int .u8 0)]⟩),
  (9, ⟨.str, 1, 16, [.lit (.string ⟨#[]⟩)]⟩),
  (10, ⟨.str, 1, 16, [.lit (.string ⟨#[]⟩)]⟩),
  (11, ⟨.str, 1, 16, [.lit (.string ⟨#[]⟩)]⟩),
  (12, ⟨.int .u64, 1, 8, [.lit (.int .u64 0)]⟩),
  (13, ⟨.st [(0, 1, 9), (1, 1, 12)], 2, 24, [.lit (.string ⟨#[]⟩), .lit (.int .u64 0)]⟩),
  (14, ⟨.st [(0, 1, 9), (1, 1, 12)], 2, 24, [.lit (.string ⟨#[]⟩), .lit (.int .u64 0)]⟩),
  (21, ⟨.int .i32, 1, 4, [.lit (.int .i32 0)]⟩),
  (22, ⟨.st [(0, 1, 3), (1, 1, 3), (2, 1, 3), (3, 1, 3), (4, 1, 3)], 5, 40, [.lit (.int .i64 0), .lit (.int .i64 0), .lit (.int .i64 0), .lit (.int .i64 0), .lit (.int .i64 0)]⟩),
  (23, ⟨.st [(0, 1, 3), (1, 1, 3), (2, 1, 3), (3, 1, 3), (4, 1, 3)], 5, 40, [.lit (.int .i64 0), .lit (.int .i64 0), .lit (.int .i64 0), .lit (.int .i64 0), .lit (.int .i64 0)]⟩),
  (24, ⟨.st [(0, 1, 4), (1, 1, 3), (2, 1, 4), (3, 5, 23)], 8, 64, [.lit (.bool false), .lit (.int .i64 0), .lit (.bool false), .lit (.int .i64 0), .lit (.int .i64 0), .lit (.int .i64 0), .lit (.int .i64 0), .lit (.int .i64 0)]⟩),
  (25, ⟨.st [(0, 1, 4), (1, 1, 3), (2, 1, 4), (3, 5, 23)], 8, 64, [.lit (.bool false), .lit (.int .i64 0), .lit (.bool false), .lit (.int .i64 0), .lit (.int .i64 0), .lit (.int .i64 0), .lit (.int .i64 0), .lit (.int .i64 0)]⟩),
  (27, ⟨.st [(0, 1, 3), (1, 1, 3), (2, 1, 3), (3, 1, 3), (4, 1, 3)], 5, 40, [.lit (.int .i64 0), .lit (.int .i64 0), .lit (.int .i64 0), .lit (.int .i64 0), .lit (.int .i64 0)]⟩),
  (28, ⟨.st [(0, 1, 4), (1, 1, 3), (2, 1, 4), (3, 5, 27)], 8, 64, [.lit (.bool false), .lit (.int .i64 0), .lit (.bool false), .lit (.int .i64 0), .lit (.int .i64 0), .lit (.int .i64 0), .lit (.int .i64 0), .lit (.int .i64 0)]⟩),
  (29, ⟨.st [(0, 1, 4), (1, 1, 3), (2, 1, 4), (3, 5, 27)], 8, 64, [.lit (.bool false), .lit (.int .i64 0), .lit (.bool false), .lit (.int .i64 0), .lit (.int .i64 0), .lit (.int .i64 0), .lit (.int .i64 0), .lit (.int .i64 0)]⟩),
  (32, ⟨.sl 97, 1, 24, [.sl true 3 []]⟩),
  (33, ⟨.sl 3, 1, 24, [.sl true 1 []]⟩),
  (34, ⟨.st [(0, 1, 32), (1, 1, 33)], 2, 48, [.sl true 3 [], .sl true 1 []]⟩),
  (35, ⟨.st [(0, 1, 32), (1, 1, 33)], 2, 48, [.sl true 3 [], .sl true 1 []]⟩),
  (38, ⟨.sl 81, 1, 24, [.sl true 3 []]⟩),
  (39, ⟨.st [(0, 1, 38), (1, 1, 33)], 2, 48, [.sl true 3 [], .sl true 1 []]⟩),
  (40, ⟨.st [(0, 1, 38), (1, 1, 33)], 2, 48, [.sl true 3 [], .sl true 1 []]⟩),
  (50, ⟨.sl 25, 1, 24, [.sl true 8 []]⟩),
  (54, ⟨.sl 29, 1, 24, [.sl true 8 []]⟩),
  (61, ⟨.sl 5, 1, 24, [.sl true 1 []]⟩),
  (80, ⟨.st [(0, 1, 3), (1, 1, 3), (2, 1, 3)], 3, 24, [.lit (.int .i64 0), .lit (.int .i64 0), .lit (.int .i64 0)]⟩),
  (81, ⟨.st [(0, 1, 3), (1, 1, 3), (2, 1, 3)], 3, 24, [.lit (.int .i64 0), .lit (.int .i64 0), .lit (.int .i64 0)]⟩),
  (86, ⟨.int .u64, 1, 8, [.lit (.int .u64 0)]⟩),
  (97, ⟨.st [(0, 1, 3), (1, 1, 3), (2, 1, 3)], 3, 24, [.lit (.int .i64 0), .lit (.int .i64 0), .lit (.int .i64 0)]⟩),
  (99, ⟨.st [(0, 1, 61), (1, 1, 3), (2, 1, 3)], 3, 40, [.sl true 1 [], .lit (.int .i64 0), .lit (.int .i64 0)]⟩),
  (100, ⟨.st [(0, 1, 61), (1, 1, 3), (2, 1, 3)], 3, 40, [.sl true 1 [], .lit (.int .i64 0), .lit (.int .i64 0)]⟩)]
theorem mixed : Try.prog.follows .mixedOrders = true := by kernel_rfl
theorem tOk : TOk Try.prog (lk tab) := tok_of (by kernel_rfl)

structure Vrow where
  Id : Int
  Members : Int
  Bare : Int
def Vrow.row (v : Vrow) : List CV := [.lit (.int .i64 v.Id), .lit (.int .i64 v.Members), .lit (.int .i64 v.Bare)]
def Vrow.wf (v : Vrow) : Prop := intWf v.Id ∧ intWf v.Members ∧ intWf v.Bare ∧ True
theorem Vrow.enc : Enc Vrow [.int .i64, .int .i64, .int .i64] Vrow.row Vrow.wf := fun cs h => by
  obtain ⟨c0, r0, rfl, k0, h⟩ := fitR_cons h
  obtain ⟨c1, r1, rfl, k1, h⟩ := fitR_cons h
  obtain ⟨c2, r2, rfl, k2, h⟩ := fitR_cons h
  obtain rfl := fitR_nil h
  obtain ⟨x0, rfl, w0⟩ := fitC_int k0
  obtain ⟨x1, rfl, w1⟩ := fitC_int k1
  obtain ⟨x2, rfl, w2⟩ := fitC_int k2
  exact ⟨⟨x0, x1, x2⟩, rfl, ⟨w0, w1, w2, trivial⟩⟩
theorem Vrow.row_mine (v : Vrow) : CV.mineRow (Vrow.row v) := mine_cons mine_lit (mine_cons mine_lit (mine_cons mine_lit (mine_nil)))

structure Vtab where
  Rows : (List Vrow)
  Pvid : (List Int)
def Vtab.row (v : Vtab) : List CV := [.sl true 3 (v.Rows.map Vrow.row), .sl true 1 (v.Pvid.map intRow)]
def Vtab.wf (v : Vtab) : Prop := listWf Vrow.wf v.Rows ∧ listWf intWf v.Pvid ∧ True
theorem Vtab.enc : Enc Vtab [.sl 3 [.int .i64, .int .i64, .int .i64], .sl 1 [.int .i64]] Vtab.row Vtab.wf := fun cs h => by
  obtain ⟨c0, r0, rfl, k0, h⟩ := fitR_cons h
  obtain ⟨c1, r1, rfl, k1, h⟩ := fitR_cons h
  obtain rfl := fitR_nil h
  obtain ⟨x0, rfl, w0⟩ := Enc.sl Vrow.enc k0
  obtain ⟨x1, rfl, w1⟩ := Enc.sl encInt k1
  exact ⟨⟨x0, x1⟩, rfl, ⟨w0, w1, trivial⟩⟩
theorem Vtab.row_mine (v : Vtab) : CV.mineRow (Vtab.row v) := mine_cons (mine_sl (mine_map Vrow.row_mine _)) (mine_cons (mine_sl (mine_map intRow_mine _)) (mine_nil))

def spec_l1InF (n : Nat) (x0 : Int) (x1 : Int) (x2 : Int) : Option (Bool) :=
  (bif (decide (x0 ≥ x1)) then (some (decide (x0 ≤ x2))) else (some false))
/-- loop.example/g00326/spec.l1In -/
theorem spec_l1In (n : Nat) (x0 : Int) (x1 : Int) (x2 : Int) (r : Bool) (H : spec_l1InF n x0 x1 x2 = some r) : LCall Try.prog 51 [.val false [.lit (.int .i64 x0)], .val false [.lit (.int .i64 x1)], .val false [.lit (.int .i64 x2)]] [.val false [.lit (.bool r)]] [] := by
  refine LCall.of_body tOk Try.func51 rfl (c := (.seq (.region 0 (rg Try.f51 0) false) (.seq (.region 1 (rg Try.f51 1) false) .ret))) (by kernel_rfl) (Nat.le_of_ble_eq_true (by kernel_rfl)) 0 (rs := [.tmp 6]) rfl [] .nil [(false, [.lit (.bool r)])] [] [] fun cx => ?_
  show Tr _ _ _ ⟨15, 0, [(0, .val false [.lit (.int .i64 x0)]), (1, .val false [.lit (.int .i64 x1)]), (2, .val false [.lit (.int .i64 x2)])], []⟩ _
  unfold spec_l1InF at H
  refine Tr.rs ?_
  refine LAt.runU tOk 1 (by kernel_rfl) ?_
  refine LAt.doneU [6, 0, 1, 2] [] (by kernel_rfl) ?_
  refine Tr.rs ?_
  refine LAt.runU tOk 4 (by kernel_rfl) ?_
  refine LAt.to ⟨15, 0, [(10, .val false [.lit (.bool (decide (x0 ≥ x1)))]), (9, .val false [.lit (.bool (decide (x0 ≥ x1)))]), (8, .val false [.lit (.int .i64 x1)]), (7, .val false [.lit (.int .i64 x0)]), (6, .val false [.lit (.bool false)]), (0, .val false [.lit (.int .i64 x0)]), (1, .val false [.lit (.int .i64 x1)]), (2, .val false [.lit (.int .i64 x2)])], []⟩ (by kernel_rfl) ?_
  cases h1 : (decide (x0 ≥ x1))
  · rw [h1, cond_false] at H
    refine LAt.runU tOk 5 (by kernel_rfl) ?_
    refine LAt.doneU [6] [] (by kernel_rfl) ?_
    refine Tr.ret ?_
    have H := Option.some.inj H
    subst H
    exact Fin.of _ [(false, [.lit (.bool false)])] (by kernel_rfl) rfl rfl
  · rw [h1, cond_true] at H
    refine LAt.runU tOk 5 (by kernel_rfl) ?_
    refine LAt.doneU [6] [] (by kernel_rfl) ?_
    refine Tr.ret ?_
    have H := Option.some.inj H
    subst H
    exact Fin.of _ [(false, [.lit (.bool (decide (x0 ≤ x2)))])] (by kernel_rfl) rfl rfl

def spec_VtabNew_J1 (n : Nat) (x0 : Int) (y5 : (List Int)) : Option (Vtab) :=
  (some (⟨[(⟨1, (IntKind.wrap .i64 ((IntKind.wrap .i64 (1 * 2 ^ min (((IntKind.wrap .u64 x0) : Int)).toNat (IntKind.bits .i64))) - 1)), (IntKind.wrap .i64 ((IntKind.wrap .i64 (1 * 2 ^ min (((IntKind.wrap .u64 x0) : Int)).toNat (IntKind.bits .i64))) - 1))⟩ : Vrow)], y5⟩ : Vtab))
def spec_VtabNew_L2 (n : Nat) : Nat → Int → Int → (List Int) → Option (((List Int)) ⊕ (Vtab))
  | 0, _, _, _ => none
  | mo6 + 1, x0, y3, y4 => (bif (decide (y3 < x0)) then (bif (decide (y4.length + [1].length ≤ 268435456)) then (spec_VtabNew_L2 n mo6 x0 (IntKind.wrap .i64 (y3 + 1)) (y4 ++ [1])) else none) else (some (Sum.inl y4)))
def spec_VtabNewF (n : Nat) (x0 : Int) : Option (Vtab) :=
  ((spec_l1InF n x0 1 6).bind fun r1 => (bif (!r1) then (some (⟨([] : List Vrow), ([] : List Int)⟩ : Vtab)) else (bif (decide ((0 : Int) ≤ (IntKind.wrap .u64 x0))) then ((spec_VtabNew_L2 n n x0 0 ([] : List Int)).bind fun o => match o with | .inl y5 => (spec_VtabNew_J1 n x0 y5) | .inr r => some r) else none)))
/-- loop.example/g00326/spec.VtabNew -/
theorem spec_VtabNew (n : Nat) (x0 : Int) (r : Vtab) (H : spec_VtabNewF n x0 = some r) : LCall Try.prog 22 [.val false [.lit (.int .i64 x0)]] [.val true (Vtab.row r)] [] := by
  refine LCall.of_body tOk Try.func22 rfl (c := (.seq (.region 0 (rg Try.f22 0) false) (.seq (.seq (.region 1 (rg Try.f22 1) false) (.cond (.tmp 8) (.seq (.region 2 (rg Try.f22 2) false) .ret) .skip)) (.seq (.region 3 (rg Try.f22 3) false) (.seq (.region 4 (rg Try.f22 4) false) (.seq (.seq (.region 5 (rg Try.f22 5) false) (.block 0 (.loop (.seq (.seq (.region 6 (rg Try.f22 6) false) (.cond (.tmp 21) .skip (.exit 0))) (.seq (.block 1 (.region 8 (rg Try.f22 8) false)) (.region 7 (rg Try.f22 7) false)))))) (.seq (.region 9 (rg Try.f22 9) false) .ret))))))) (by kernel_rfl) (Nat.le_of_ble_eq_true (by kernel_rfl)) 0 (rs := [.cell 2 40]) rfl [] .nil [(true, (Vtab.row r))] [] [] fun cx => ?_
  show Tr _ _ _ ⟨30, 0, [(0, .val false [.lit (.int .i64 x0)])], []⟩ _
  unfold spec_VtabNewF at H
  refine Tr.rs ?_
  refine LAt.runU tOk 1 (by kernel_rfl) ?_
  refine LAt.doneU [2, 0] [2] (by kernel_rfl) ?_
  refine Tr.seq ?_
  refine Tr.rs ?_
  refine LAt.runU tOk 1 (by kernel_rfl) ?_
  obtain ⟨r1, er1, H⟩ := bind_some H
  refine LAt.callU tOk [.rd, .rd, .rd] (f := 51) (av := #[.tmp 6, .const (.int .i64 1), .const (.int .i64 6)]) (ats := #[3, 3, 3]) (d := (some 7)) (ty := 4) (g := none) (by kernel_rfl) (by kernel_rfl) (by kernel_rfl) [] (spec_l1In n x0 1 6 r1 er1) (by kernel_rfl) (.inl rfl) ?_
  refine LAt.runU tOk 1 (by kernel_rfl) ?_
  refine LAt.doneU [8, 2, 0] [2] (by kernel_rfl) ?_
  refine Tr.to ⟨30, 0, [(8, .val false [.lit (.bool (!r1))]), (2, .adr (.box 2) [(0, 0)] 2 0), (0, .val false [.lit (.int .i64 x0)])], [(2, [.sl true 3 (([] : List Vrow).map Vrow.row), .sl true 1 (([] : List Int).map intRow)])]⟩ (by kernel_rfl) ?_
  cases h1 : (!r1)
  · rw [h1, cond_false] at H
    refine Tr.cond (b := false) (by kernel_rfl) (fun h => nomatch h) (fun _ => ?_)
    refine Tr.skip ?_
    show Tr _ _ _ _ _
    refine Tr.rs ?_
    refine LAt.runU tOk 2 (by kernel_rfl) ?_
    obtain ⟨hg2, H⟩ := guard_some H
    refine LAt.binC tOk (op := .shl) (t := 3) (ty := 86) (ty' := 3) (x := (.const (.int .i64 1))) (y := (.tmp 11)) (d := 12) (g := none) (.int .i64 1) (.int .u64 (IntKind.wrap .u64 x0)) (.int .i64 (IntKind.wrap .i64 (1 * 2 ^ min (((IntKind.wrap .u64 x0) : Int)).toNat (IntKind.bits .i64)))) _ (by kernel_rfl) (by kernel_rfl) (by kernel_rfl) (by kernel_rfl) (by kernel_rfl) (φ := (0 : Int) ≤ (IntKind.wrap .u64 x0)) (by kernel_rfl) (of_decide_eq_true hg2) rfl ?_
    refine LAt.runU tOk 2 (by kernel_rfl) ?_
    refine LAt.doneU [3, 2, 0] [2] (by kernel_rfl) ?_
    refine Tr.rs ?_
    refine LAt.runU tOk 7 (by kernel_rfl) ?_
    refine LAt.doneU [4, 2, 0] [4, 2] (by kernel_rfl) ?_
    refine Tr.seq ?_
    refine Tr.rs ?_
    refine LAt.runU tOk 1 (by kernel_rfl) ?_
    refine LAt.doneU [5, 4, 2, 0] [4, 2] (by kernel_rfl) ?_
    obtain ⟨o6, eo6, Ho6⟩ := bind_some H
    clear H
    refine Tr.mid (ι := (List Int)) (fun v => ⟨30, 0, [(4, .adr (.box 4) [(0, 0)] 2 0), (2, .adr (.box 2) [(0, 0)] 2 0)], [(4, [.sl true 3 ([(⟨1, (IntKind.wrap .i64 ((IntKind.wrap .i64 (1 * 2 ^ min (((IntKind.wrap .u64 x0) : Int)).toNat (IntKind.bits .i64))) - 1)), (IntKind.wrap .i64 ((IntKind.wrap .i64 (1 * 2 ^ min (((IntKind.wrap .u64 x0) : Int)).toNat (IntKind.bits .i64))) - 1))⟩ : Vrow)].map Vrow.row), .sl true 1 (v.map intRow)]), (2, [.sl true 3 (([] : List Vrow).map Vrow.row), .sl true 1 (([] : List Int).map intRow)])]⟩) (fun v => spec_VtabNew_J1 n x0 v = some r) ?_ ?_
    · refine Tr.block ?_
      refine Tr.loop (ι := Nat × (Int × (List Int))) (fun v => ⟨30, 0, [(5, .val false [.lit (.int .i64 v.2.1)]), (4, .adr (.box 4) [(0, 0)] 2 0), (2, .adr (.box 2) [(0, 0)] 2 0), (0, .val false [.lit (.int .i64 x0)])], [(4, [.sl true 3 ([(⟨1, (IntKind.wrap .i64 ((IntKind.wrap .i64 (1 * 2 ^ min (((IntKind.wrap .u64 x0) : Int)).toNat (IntKind.bits .i64))) - 1)), (IntKind.wrap .i64 ((IntKind.wrap .i64 (1 * 2 ^ min (((IntKind.wrap .u64 x0) : Int)).toNat (IntKind.bits .i64))) - 1))⟩ : Vrow)].map Vrow.row), .sl true 1 (v.2.2.map intRow)]), (2, [.sl true 3 (([] : List Vrow).map Vrow.row), .sl true 1 (([] : List Int).map intRow)])]⟩) (fun v => spec_VtabNew_L2 n v.1 x0 v.2.1 v.2.2 = some o6) (fun v => v.1) (n, (0, ([] : List Int))) eo6 (St.sub_of [5, 4, 2, 0] [4, 2] (by kernel_rfl)) ?_
      rintro ⟨mo6, y3, y4⟩ H
      have H : spec_VtabNew_L2 n mo6 x0 y3 y4 = some o6 := H
      obtain _ | mo6 := mo6
      · cases (show (none : Option _) = some o6 from H)
      · rw [spec_VtabNew_L2] at H
        refine Tr.seq ?_
        refine Tr.rs ?_
        refine LAt.runU tOk 3 (by kernel_rfl) ?_
        refine LAt.doneU [21, 20, 19, 5, 4, 2, 0] [4, 2] (by kernel_rfl) ?_
        refine Tr.to ⟨30, 0, [(21, .val false [.lit (.bool (decide (y3 < x0)))]), (20, .val false [.lit (.int .i64 x0)]), (19, .val false [.lit (.int .i64 y3)]), (5, .val false [.lit (.int .i64 y3)]), (4, .adr (.box 4) [(0, 0)] 2 0), (2, .adr (.box 2) [(0, 0)] 2 0), (0, .val false [.lit (.int .i64 x0)])], [(4, [.sl true 3 ([(⟨1, (IntKind.wrap .i64 ((IntKind.wrap .i64 (1 * 2 ^ min (((IntKind.wrap .u64 x0) : Int)).toNat (IntKind.bits .i64))) - 1)), (IntKind.wrap .i64 ((IntKind.wrap .i64 (1 * 2 ^ min (((IntKind.wrap .u64 x0) : Int)).toNat (IntKind.bits .i64))) - 1))⟩ : Vrow)].map Vrow.row), .sl true 1 (y4.map intRow)]), (2, [.sl true 3 (([] : List Vrow).map Vrow.row), .sl true 1 (([] : List Int).map intRow)])]⟩ (by kernel_rfl) ?_
        cases h2 : (decide (y3 < x0))
        · rw [h2, cond_false] at H
          refine Tr.cond (b := false) (by kernel_rfl) (fun h => nomatch h) (fun _ => ?_)
          refine Tr.exit ?_
          refine And.intro (fun _ => ?_) (fun h => absurd rfl h)
          have H := Option.some.inj H
          subst H
          have H := Ho6
          dsimp only at H
          exact Exists.intro y4 (And.intro H (St.sub_of [4, 2] [4, 2] (by kernel_rfl)))
        · rw [h2, cond_true] at H
          refine Tr.cond (b := true) (by kernel_rfl) (fun _ => ?_) (fun h => nomatch h)
          refine Tr.skip ?_
          show Tr _ _ _ _ _
          refine Tr.seq ?_
          refine Tr.block ?_
          refine Tr.at ?_
          refine LAt.runU tOk 3 (by kernel_rfl) ?_
          obtain ⟨hg7, H⟩ := guard_some H
          refine LAt.appMU tOk (t := 33) (ty := 33) (e := 3) (x := (.tmp 25)) (y := (.tmp 26)) (d := 27) (g := none) ⟨.int .i64, 1, 8, [.lit (.int .i64 0)]⟩ intRow y4 [1] (by kernel_rfl) (by kernel_rfl) (by kernel_rfl) (by kernel_rfl) (by kernel_rfl) (by kernel_rfl) (by kernel_rfl) (by kernel_rfl) (by kernel_rfl) (by kernel_rfl) hg7 ?_
          refine LAt.runU tOk 2 (by kernel_rfl) ?_
          refine LAt.doneU [28, 24, 21, 20, 19, 5, 4, 2, 0] [4, 2] (by kernel_rfl) ?_
          show Tr _ _ _ _ _
          refine Tr.at ?_
          refine LAt.runU tOk 3 (by kernel_rfl) ?_
          refine LAt.doneU [5, 23, 22, 28, 24, 21, 20, 19, 4, 2, 0] [4, 2] (by kernel_rfl) ?_
          exact Exists.intro (mo6, ((IntKind.wrap .i64 (y3 + 1)), (y4 ++ [1]))) (And.intro H (And.intro (Nat.lt_succ_self mo6) (St.sub_of [5, 4, 2, 0] [4, 2] (by kernel_rfl))))
    · rintro y5 H
      have H : (spec_VtabNew_J1 n x0 y5) = some r := H
      unfold spec_VtabNew_J1 at H
      show Tr _ _ _ _ _
      refine Tr.rs ?_
      refine LAt.runU tOk 2 (by kernel_rfl) ?_
      refine LAt.doneU [2] [2] (by kernel_rfl) ?_
      refine Tr.ret ?_
      have H := Option.some.inj H
      subst H
      exact Fin.of _ [(true, [.sl true 3 ([(⟨1, (IntKind.wrap .i64 ((IntKind.wrap .i64 (1 * 2 ^ min (((IntKind.wrap .u64 x0) : Int)).toNat (IntKind.bits .i64))) - 1)), (IntKind.wrap .i64 ((IntKind.wrap .i64 (1 * 2 ^ min (((IntKind.wrap .u64 x0) : Int)).toNat (IntKind.bits .i64))) - 1))⟩ : Vrow)].map Vrow.row), .sl true 1 (y5.map intRow)])] (by kernel_rfl) rfl rfl
  · rw [h1, cond_true] at H
    refine Tr.cond (b := true) (by kernel_rfl) (fun _ => ?_) (fun h => nomatch h)
    refine Tr.rs ?_
    refine LAt.runU tOk 2 (by kernel_rfl) ?_
    refine LAt.doneU [2, 0] [2] (by kernel_rfl) ?_
    refine Tr.ret ?_
    have H := Option.some.inj H
    subst H
    exact Fin.of _ [(true, [.sl true 3 (([] : List Vrow).map Vrow.row), .sl true 1 (([] : List Int).map intRow)])] (by kernel_rfl) rfl rfl

def impl_inF (n : Nat) (x0 : Int) (x1 : Int) (x2 : Int) : Option (Bool) :=
  (bif (decide (x0 ≥ x1)) then (some (decide (x0 ≤ x2))) else (some false))
/-- loop.example/g00326/impl.in -/
theorem impl_in (n : Nat) (x0 : Int) (x1 : Int) (x2 : Int) (r : Bool) (H : impl_inF n x0 x1 x2 = some r) : LCall Try.prog 54 [.val false [.lit (.int .i64 x0)], .val false [.lit (.int .i64 x1)], .val false [.lit (.int .i64 x2)]] [.val false [.lit (.bool r)]] [] := by
  refine LCall.of_body tOk Try.func54 rfl (c := (.seq (.region 0 (rg Try.f54 0) false) (.seq (.region 1 (rg Try.f54 1) false) .ret))) (by kernel_rfl) (Nat.le_of_ble_eq_true (by kernel_rfl)) 0 (rs := [.tmp 6]) rfl [] .nil [(false, [.lit (.bool r)])] [] [] fun cx => ?_
  show Tr _ _ _ ⟨15, 0, [(0, .val false [.lit (.int .i64 x0)]), (1, .val false [.lit (.int .i64 x1)]), (2, .val false [.lit (.int .i64 x2)])], []⟩ _
  unfold impl_inF at H
  refine Tr.rs ?_
  refine LAt.runU tOk 1 (by kernel_rfl) ?_
  refine LAt.doneU [6, 0, 1, 2] [] (by kernel_rfl) ?_
  refine Tr.rs ?_
  refine LAt.runU tOk 4 (by kernel_rfl) ?_
  refine LAt.to ⟨15, 0, [(10, .val false [.lit (.bool (decide (x0 ≥ x1)))]), (9, .val false [.lit (.bool (decide (x0 ≥ x1)))]), (8, .val false [.lit (.int .i64 x1)]), (7, .val false [.lit (.int .i64 x0)]), (6, .val false [.lit (.bool false)]), (0, .val false [.lit (.int .i64 x0)]), (1, .val false [.lit (.int .i64 x1)]), (2, .val false [.lit (.int .i64 x2)])], []⟩ (by kernel_rfl) ?_
  cases h1 : (decide (x0 ≥ x1))
  · rw [h1, cond_false] at H
    refine LAt.runU tOk 5 (by kernel_rfl) ?_
    refine LAt.doneU [6] [] (by kernel_rfl) ?_
    refine Tr.ret ?_
    have H := Option.some.inj H
    subst H
    exact Fin.of _ [(false, [.lit (.bool false)])] (by kernel_rfl) rfl rfl
  · rw [h1, cond_true] at H
    refine LAt.runU tOk 5 (by kernel_rfl) ?_
    refine LAt.doneU [6] [] (by kernel_rfl) ?_
    refine Tr.ret ?_
    have H := Option.some.inj H
    subst H
    exact Fin.of _ [(false, [.lit (.bool (decide (x0 ≤ x2)))])] (by kernel_rfl) rfl rfl

def impl_allPortsF (n : Nat) (x0 : Int) : Option (Int) :=
  (bif (decide ((0 : Int) ≤ x0)) then (some (IntKind.wrap .i64 ((IntKind.wrap .i64 (1 * 2 ^ min ((x0 : Int)).toNat (IntKind.bits .i64))) - 1))) else none)
/-- loop.example/g00326/impl.allPorts -/
theorem impl_allPorts (n : Nat) (x0 : Int) (r : Int) (H : impl_allPortsF n x0 = some r) : LCall Try.prog 64 [.val false [.lit (.int .i64 x0)]] [.val false [.lit (.int .i64 r)]] [] := by
  refine LCall.of_body tOk Try.func64 rfl (c := (.seq (.region 0 (rg Try.f64 0) false) (.seq (.region 1 (rg Try.f64 1) false) .ret))) (by kernel_rfl) (Nat.le_of_ble_eq_true (by kernel_rfl)) 0 (rs := [.tmp 2]) rfl [] .nil [(false, [.lit (.int .i64 r)])] [] [] fun cx => ?_
  show Tr _ _ _ ⟨6, 0, [(0, .val false [.lit (.int .i64 x0)])], []⟩ _
  unfold impl_allPortsF at H
  refine Tr.rs ?_
  refine LAt.runU tOk 1 (by kernel_rfl) ?_
  refine LAt.doneU [2, 0] [] (by kernel_rfl) ?_
  refine Tr.rs ?_
  refine LAt.runU tOk 1 (by kernel_rfl) ?_
  obtain ⟨hg1, H⟩ := guard_some H
  refine LAt.binC tOk (op := .shl) (t := 3) (ty := 3) (ty' := 3) (x := (.const (.int .i64 1))) (y := (.tmp 3)) (d := 4) (g := none) (.int .i64 1) (.int .i64 x0) (.int .i64 (IntKind.wrap .i64 (1 * 2 ^ min ((x0 : Int)).toNat (IntKind.bits .i64)))) _ (by kernel_rfl) (by kernel_rfl) (by kernel_rfl) (by kernel_rfl) (by kernel_rfl) (φ := (0 : Int) ≤ x0) (by kernel_rfl) (of_decide_eq_true hg1) rfl ?_
  refine LAt.runU tOk 2 (by kernel_rfl) ?_
  refine LAt.doneU [2] [] (by kernel_rfl) ?_
  refine Tr.ret ?_
  have H := Option.some.inj H
  subst H
  exact Fin.of _ [(false, [.lit (.int .i64 (IntKind.wrap .i64 ((IntKind.wrap .i64 (1 * 2 ^ min ((x0 : Int)).toNat (IntKind.bits .i64))) - 1)))])] (by kernel_rfl) rfl rfl

def impl_VtabNew_J1 (n : Nat) (r2 : Int) (r3 : Int) (y6 : (List Int)) : Option (Vtab) :=
  (some (⟨[(⟨1, r2, r3⟩ : Vrow)], y6⟩ : Vtab))
def impl_VtabNew_L2 (n : Nat) : Nat → Int → Int → (List Int) → Option (((List Int)) ⊕ (Vtab))
  | 0, _, _, _ => none
  | mo7 + 1, x0, y4, y5 => (bif (decide (y4 < x0)) then (bif (decide (y5.length + [1].length ≤ 268435456)) then (impl_VtabNew_L2 n mo7 x0 (IntKind.wrap .i64 (y4 + 1)) (y5 ++ [1])) else none) else (some (Sum.inl y5)))
def impl_VtabNewF (n : Nat) (x0 : Int) : Option (Vtab) :=
  ((impl_inF n x0 1 6).bind fun r1 => (bif (!r1) then (some (⟨([] : List Vrow), ([] : List Int)⟩ : Vtab)) else ((impl_allPortsF n x0).bind fun r2 => ((impl_allPortsF n x0).bind fun r3 => ((impl_VtabNew_L2 n n x0 0 ([] : List Int)).bind fun o => match o with | .inl y6 => (impl_VtabNew_J1 n r2 r3 y6) | .inr r => some r)))))
/-- loop.example/g00326/impl.VtabNew -/
theorem impl_VtabNew (n : Nat) (x0 : Int) (r : Vtab) (H : impl_VtabNewF n x0 = some r) : LCall Try.prog 23 [.val false [.lit (.int .i64 x0)]] [.val true (Vtab.row r)] [] := by
  refine LCall.of_body tOk Try.func23 rfl (c := (.seq (.region 0 (rg Try.f23 0) false) (.seq (.seq (.region 1 (rg Try.f23 1) false) (.cond (.tmp 6) (.seq (.region 2 (rg Try.f23 2) false) .ret) .skip)) (.seq (.region 3 (rg Try.f23 3) false) (.seq (.seq (.region 4 (rg Try.f23 4) false) (.block 0 (.loop (.seq (.region 5 (rg Try.f23 5) false) (.seq (.cond (.tmp 17) .skip (.exit 0)) (.seq (.block 1 (.region 6 (rg Try.f23 6) false)) (.region 7 (rg Try.f23 7) false))))))) (.seq (.region 8 (rg Try.f23 8) false) .ret)))))) (by kernel_rfl) (Nat.le_of_ble_eq_true (by kernel_rfl)) 0 (rs := [.cell 2 40]) rfl [] .nil [(true, (Vtab.row r))] [] [] fun cx => ?_
  show Tr _ _ _ ⟨25, 0, [(0, .val false [.lit (.int .i64 x0)])], []⟩ _
  unfold impl_VtabNewF at H
  refine Tr.rs ?_
  refine LAt.runU tOk 1 (by kernel_rfl) ?_
  refine LAt.doneU [2, 0] [2] (by kernel_rfl) ?_
  refine Tr.seq ?_
  refine Tr.rs ?_
  refine LAt.runU tOk 1 (by kernel_rfl) ?_
  obtain ⟨r1, er1, H⟩ := bind_some H
  refine LAt.callU tOk [.rd, .rd, .rd] (f := 54) (av := #[.tmp 4, .const (.int .i64 1), .const (.int .i64 6)]) (ats := #[3, 3, 3]) (d := (some 5)) (ty := 4) (g := none) (by kernel_rfl) (by kernel_rfl) (by kernel_rfl) [] (impl_in n x0 1 6 r1 er1) (by kernel_rfl) (.inl rfl) ?_
  refine LAt.runU tOk 1 (by kernel_rfl) ?_
  refine LAt.doneU [6, 2, 0] [2] (by kernel_rfl) ?_
  refine Tr.to ⟨25, 0, [(6, .val false [.lit (.bool (!r1))]), (2, .adr (.box 2) [(0, 0)] 2 0), (0, .val false [.lit (.int .i64 x0)])], [(2, [.sl true 3 (([] : List Vrow).map Vrow.row), .sl true 1 (([] : List Int).map intRow)])]⟩ (by kernel_rfl) ?_
  cases h1 : (!r1)
  · rw [h1, cond_false] at H
    refine Tr.cond (b := false) (by kernel_rfl) (fun h => nomatch h) (fun _ => ?_)
    refine Tr.skip ?_
    show Tr _ _ _ _ _
    refine Tr.rs ?_
    refine LAt.runU tOk 1 (by kernel_rfl) ?_
    obtain ⟨r2, er2, H⟩ := bind_some H
    refine LAt.callU tOk [.rd] (f := 64) (av := #[.tmp 8]) (ats := #[3]) (d := (some 9)) (ty := 3) (g := none) (by kernel_rfl) (by kernel_rfl) (by kernel_rfl) [] (impl_allPorts n x0 r2 er2) (by kernel_rfl) (.inl rfl) ?_
    refine LAt.runU tOk 1 (by kernel_rfl) ?_
    obtain ⟨r3, er3, H⟩ := bind_some H
    refine LAt.callU tOk [.rd] (f := 64) (av := #[.tmp 10]) (ats := #[3]) (d := (some 11)) (ty := 3) (g := none) (by kernel_rfl) (by kernel_rfl) (by kernel_rfl) [] (impl_allPorts n x0 r3 er3) (by kernel_rfl) (.inl rfl) ?_
    refine LAt.runU tOk 5 (by kernel_rfl) ?_
    refine LAt.doneU [3, 2, 0] [3, 2] (by kernel_rfl) ?_
    refine Tr.seq ?_
    refine Tr.rs ?_
    refine LAt.runU tOk 2 (by kernel_rfl) ?_
    refine LAt.doneU [16, 15, 3, 2] [3, 2] (by kernel_rfl) ?_
    obtain ⟨o7, eo7, Ho7⟩ := bind_some H
    clear H
    refine Tr.mid (ι := (List Int)) (fun v => ⟨25, 0, [(3, .adr (.box 3) [(0, 0)] 2 0), (2, .adr (.box 2) [(0, 0)] 2 0)], [(3, [.sl true 3 ([(⟨1, r2, r3⟩ : Vrow)].map Vrow.row), .sl true 1 (v.map intRow)]), (2, [.sl true 3 (([] : List Vrow).map Vrow.row), .sl true 1 (([] : List Int).map intRow)])]⟩) (fun v => impl_VtabNew_J1 n r2 r3 v = some r) ?_ ?_
    · refine Tr.block ?_
      refine Tr.loop (ι := Nat × (Int × (List Int))) (fun v => ⟨25, 0, [(16, .val false [.lit (.int .i64 v.2.1)]), (15, .val false [.lit (.int .i64 x0)]), (3, .adr (.box 3) [(0, 0)] 2 0), (2, .adr (.box 2) [(0, 0)] 2 0)], [(3, [.sl true 3 ([(⟨1, r2, r3⟩ : Vrow)].map Vrow.row), .sl true 1 (v.2.2.map intRow)]), (2, [.sl true 3 (([] : List Vrow).map Vrow.row), .sl true 1 (([] : List Int).map intRow)])]⟩) (fun v => impl_VtabNew_L2 n v.1 x0 v.2.1 v.2.2 = some o7) (fun v => v.1) (n, (0, ([] : List Int))) eo7 (St.sub_of [16, 15, 3, 2] [3, 2] (by kernel_rfl)) ?_
      rintro ⟨mo7, y4, y5⟩ H
      have H : impl_VtabNew_L2 n mo7 x0 y4 y5 = some o7 := H
      obtain _ | mo7 := mo7
      · cases (show (none : Option _) = some o7 from H)
      · rw [impl_VtabNew_L2] at H
        refine Tr.rs ?_
        refine LAt.runU tOk 1 (by kernel_rfl) ?_
        refine LAt.doneU [17, 16, 15, 3, 2] [3, 2] (by kernel_rfl) ?_
        refine Tr.seq ?_
        refine Tr.to ⟨25, 0, [(17, .val false [.lit (.bool (decide (y4 < x0)))]), (16, .val false [.lit (.int .i64 y4)]), (15, .val false [.lit (.int .i64 x0)]), (3, .adr (.box 3) [(0, 0)] 2 0), (2, .adr (.box 2) [(0, 0)] 2 0)], [(3, [.sl true 3 ([(⟨1, r2, r3⟩ : Vrow)].map Vrow.row), .sl true 1 (y5.map intRow)]), (2, [.sl true 3 (([] : List Vrow).map Vrow.row), .sl true 1 (([] : List Int).map intRow)])]⟩ (by kernel_rfl) ?_
        cases h2 : (decide (y4 < x0))
        · rw [h2, cond_false] at H
          refine Tr.cond (b := false) (by kernel_rfl) (fun h => nomatch h) (fun _ => ?_)
          refine Tr.exit ?_
          refine And.intro (fun _ => ?_) (fun h => absurd rfl h)
          have H := Option.some.inj H
          subst H
          have H := Ho7
          dsimp only at H
          exact Exists.intro y5 (And.intro H (St.sub_of [3, 2] [3, 2] (by kernel_rfl)))
        · rw [h2, cond_true] at H
          refine Tr.cond (b := true) (by kernel_rfl) (fun _ => ?_) (fun h => nomatch h)
          refine Tr.skip ?_
          show Tr _ _ _ _ _
          refine Tr.seq ?_
          refine Tr.block ?_
          refine Tr.at ?_
          refine LAt.runU tOk 3 (by kernel_rfl) ?_
          obtain ⟨hg8, H⟩ := guard_some H
          refine LAt.appMU tOk (t := 33) (ty := 33) (e := 3) (x := (.tmp 19)) (y := (.tmp 20)) (d := 21) (g := none) ⟨.int .i64, 1, 8, [.lit (.int .i64 0)]⟩ intRow y5 [1] (by kernel_rfl) (by kernel_rfl) (by kernel_rfl) (by kernel_rfl) (by kernel_rfl) (by kernel_rfl) (by kernel_rfl) (by kernel_rfl) (by kernel_rfl) (by kernel_rfl) hg8 ?_
          refine LAt.runU tOk 2 (by kernel_rfl) ?_
          refine LAt.doneU [22, 18, 17, 16, 15, 3, 2] [3, 2] (by kernel_rfl) ?_
          show Tr _ _ _ _ _
          refine Tr.at ?_
          refine LAt.runU tOk 2 (by kernel_rfl) ?_
          refine LAt.doneU [16, 23, 22, 18, 17, 15, 3, 2] [3, 2] (by kernel_rfl) ?_
          exact Exists.intro (mo7, ((IntKind.wrap .i64 (y4 + 1)), (y5 ++ [1]))) (And.intro H (And.intro (Nat.lt_succ_self mo7) (St.sub_of [16, 15, 3, 2] [3, 2] (by kernel_rfl))))
    · rintro y6 H
      have H : (impl_VtabNew_J1 n r2 r3 y6) = some r := H
      unfold impl_VtabNew_J1 at H
      show Tr _ _ _ _ _
      refine Tr.rs ?_
      refine LAt.runU tOk 2 (by kernel_rfl) ?_
      refine LAt.doneU [2] [2] (by kernel_rfl) ?_
      refine Tr.ret ?_
      have H := Option.some.inj H
      subst H
      exact Fin.of _ [(true, [.sl true 3 ([(⟨1, r2, r3⟩ : Vrow)].map Vrow.row), .sl true 1 (y6.map intRow)])] (by kernel_rfl) rfl rfl
  · rw [h1, cond_true] at H
    refine Tr.cond (b := true) (by kernel_rfl) (fun _ => ?_) (fun h => nomatch h)
    refine Tr.rs ?_
    refine LAt.runU tOk 2 (by kernel_rfl) ?_
    refine LAt.doneU [2, 0] [2] (by kernel_rfl) ?_
    refine Tr.ret ?_
    have H := Option.some.inj H
    subst H
    exact Fin.of _ [(true, [.sl true 3 (([] : List Vrow).map Vrow.row), .sl true 1 (([] : List Int).map intRow)])] (by kernel_rfl) rfl rfl

def laws_eqVrowF (n : Nat) (x0 : Vrow) (x1 : Vrow) : Option (Bool) :=
  (bif (x0.Id != x1.Id) then (some false) else (bif (x0.Members != x1.Members) then (some false) else (bif (x0.Bare != x1.Bare) then (some false) else (some true))))
/-- loop.example/g00326/laws.eqVrow -/
theorem laws_eqVrow (n : Nat) (x0 : Vrow) (x1 : Vrow) (r : Bool) (H : laws_eqVrowF n x0 x1 = some r) : LCall Try.prog 82 [.val true (CV.frzRow (Vrow.row x0)), .val true (CV.frzRow (Vrow.row x1))] [.val false [.lit (.bool r)]] [] := by
  refine LCall.of_body tOk Try.func82 rfl (c := (.seq (.region 0 (rg Try.f82 0) false) (.seq (.seq (.region 1 (rg Try.f82 1) false) (.cond (.tmp 9) (.seq (.region 2 (rg Try.f82 2) false) .ret) .skip)) (.seq (.seq (.region 3 (rg Try.f82 3) false) (.cond (.tmp 14) (.seq (.region 4 (rg Try.f82 4) false) .ret) .skip)) (.seq (.seq (.region 5 (rg Try.f82 5) false) (.cond (.tmp 19) (.seq (.region 6 (rg Try.f82 6) false) .ret) .skip)) (.seq (.region 7 (rg Try.f82 7) false) .ret)))))) (by kernel_rfl) (Nat.le_of_ble_eq_true (by kernel_rfl)) 0 (rs := [.tmp 4]) rfl [] .nil [(false, [.lit (.bool r)])] [] [] fun cx => ?_
  show Tr _ _ _ ⟨20, 0, [(0, .val true (Vrow.row x0)), (1, .val true (Vrow.row x1))], []⟩ _
  unfold laws_eqVrowF at H
  refine Tr.rs ?_
  refine LAt.runU tOk 3 (by kernel_rfl) ?_
  refine LAt.doneU [4, 3, 2] [3, 2] (by kernel_rfl) ?_
  refine Tr.seq ?_
  refine Tr.rs ?_
  refine LAt.runU tOk 5 (by kernel_rfl) ?_
  refine LAt.doneU [9, 4, 3, 2] [3, 2] (by kernel_rfl) ?_
  refine Tr.to ⟨20, 0, [(9, .val false [.lit (.bool (x0.Id != x1.Id))]), (4, .val false [.lit (.bool false)]), (3, .adr (.box 3) [(0, 0)] 3 0), (2, .adr (.box 2) [(0, 0)] 3 0)], [(3, (Vrow.row x1)), (2, (Vrow.row x0))]⟩ (by kernel_rfl) ?_
  cases h1 : (x0.Id != x1.Id)
  · rw [h1, cond_false] at H
    refine Tr.cond (b := false) (by kernel_rfl) (fun h => nomatch h) (fun _ => ?_)
    refine Tr.skip ?_
    show Tr _ _ _ _ _
    refine Tr.seq ?_
    refine Tr.rs ?_
    refine LAt.runU tOk 5 (by kernel_rfl) ?_
    refine LAt.doneU [14, 4, 3, 2] [3, 2] (by kernel_rfl) ?_
    refine Tr.to ⟨20, 0, [(14, .val false [.lit (.bool (x0.Members != x1.Members))]), (4, .val false [.lit (.bool false)]), (3, .adr (.box 3) [(0, 0)] 3 0), (2, .adr (.box 2) [(0, 0)] 3 0)], [(3, (Vrow.row x1)), (2, (Vrow.row x0))]⟩ (by kernel_rfl) ?_
    cases h2 : (x0.Members != x1.Members)
    · rw [h2, cond_false] at H
      refine Tr.cond (b := false) (by kernel_rfl) (fun h => nomatch h) (fun _ => ?_)
      refine Tr.skip ?_
      show Tr _ _ _ _ _
      refine Tr.seq ?_
      refine Tr.rs ?_
      refine LAt.runU tOk 5 (by kernel_rfl) ?_
      refine LAt.doneU [19, 4] [] (by kernel_rfl) ?_
      refine Tr.to ⟨20, 0, [(19, .val false [.lit (.bool (x0.Bare != x1.Bare))]), (4, .val false [.lit (.bool false)])], []⟩ (by kernel_rfl) ?_
      cases h3 : (x0.Bare != x1.Bare)
      · rw [h3, cond_false] at H
        refine Tr.cond (b := false) (by kernel_rfl) (fun h => nomatch h) (fun _ => ?_)
        refine Tr.skip ?_
        show Tr _ _ _ _ _
        refine Tr.rs ?_
        refine LAt.runU tOk 1 (by kernel_rfl) ?_
        refine LAt.doneU [4] [] (by kernel_rfl) ?_
        refine Tr.ret ?_
        have H := Option.some.inj H
        subst H
        exact Fin.of _ [(false, [.lit (.bool true)])] (by kernel_rfl) rfl rfl
      · rw [h3, cond_true] at H
        refine Tr.cond (b := true) (by kernel_rfl) (fun _ => ?_) (fun h => nomatch h)
        refine Tr.rs ?_
        refine LAt.runU tOk 1 (by kernel_rfl) ?_
        refine LAt.doneU [4] [] (by kernel_rfl) ?_
        refine Tr.ret ?_
        have H := Option.some.inj H
        subst H
        exact Fin.of _ [(false, [.lit (.bool false)])] (by kernel_rfl) rfl rfl
    · rw [h2, cond_true] at H
      refine Tr.cond (b := true) (by kernel_rfl) (fun _ => ?_) (fun h => nomatch h)
      refine Tr.rs ?_
      refine LAt.runU tOk 1 (by kernel_rfl) ?_
      refine LAt.doneU [4, 3, 2] [3, 2] (by kernel_rfl) ?_
      refine Tr.ret ?_
      have H := Option.some.inj H
      subst H
      exact Fin.of _ [(false, [.lit (.bool false)])] (by kernel_rfl) rfl rfl
  · rw [h1, cond_true] at H
    refine Tr.cond (b := true) (by kernel_rfl) (fun _ => ?_) (fun h => nomatch h)
    refine Tr.rs ?_
    refine LAt.runU tOk 1 (by kernel_rfl) ?_
    refine LAt.doneU [4, 3, 2] [3, 2] (by kernel_rfl) ?_
    refine Tr.ret ?_
    have H := Option.some.inj H
    subst H
    exact Fin.of _ [(false, [.lit (.bool false)])] (by kernel_rfl) rfl rfl

def laws_eqVrowS_J1 (n : Nat) : Option (Bool) :=
  (some true)
def laws_eqVrowS_L2 (n : Nat) : Nat → (List Vrow) → (List Vrow) → Int → Option ((Unit) ⊕ (Bool))
  | 0, _, _, _ => none
  | mo2 + 1, x0, x1, y1 => (bif (decide (y1 < (x0.length : Int))) then ((idx x0 y1).bind fun v3 => ((idx x1 y1).bind fun v4 => ((laws_eqVrowF n v3 v4).bind fun r5 => (bif (!r5) then (some (Sum.inr false)) else (laws_eqVrowS_L2 n mo2 x0 x1 (IntKind.wrap .i64 (y1 + 1))))))) else (some (Sum.inl ())))
def laws_eqVrowSF (n : Nat) (x0 : (List Vrow)) (x1 : (List Vrow)) : Option (Bool) :=
  (bif ((x0.length : Int) != (x1.length : Int)) then (some false) else ((laws_eqVrowS_L2 n n x0 x1 0).bind fun o => match o with | .inl _ => (laws_eqVrowS_J1 n) | .inr r => some r))
/-- loop.example/g00326/laws.eqVrowS -/
theorem laws_eqVrowS (n : Nat) (x0 : (List Vrow)) (x1 : (List Vrow)) (r : Bool) (H : laws_eqVrowSF n x0 x1 = some r) : LCall Try.prog 62 [.val false [.sl false 3 (CV.frzEs (x0.map Vrow.row))], .val false [.sl false 3 (CV.frzEs (x1.map Vrow.row))]] [.val false [.lit (.bool r)]] [] := by
  refine LCall.of_body tOk Try.func62 rfl (c := (.seq (.region 0 (rg Try.f62 0) false) (.seq (.seq (.region 1 (rg Try.f62 1) false) (.cond (.tmp 10) (.seq (.region 2 (rg Try.f62 2) false) .ret) .skip)) (.seq (.seq (.region 3 (rg Try.f62 3) false) (.block 0 (.loop (.seq (.seq (.region 4 (rg Try.f62 4) false) (.cond (.tmp 14) .skip (.exit 0))) (.seq (.block 1 (.seq (.region 6 (rg Try.f62 6) true) (.cond (.tmp 26) (.seq (.region 7 (rg Try.f62 7) false) .ret) .skip))) (.region 5 (rg Try.f62 5) false)))))) (.seq (.region 8 (rg Try.f62 8) false) .ret))))) (by kernel_rfl) (Nat.le_of_ble_eq_true (by kernel_rfl)) 0 (rs := [.tmp 4]) rfl [] .nil [(false, [.lit (.bool r)])] [] [] fun cx => ?_
  show Tr _ _ _ ⟨27, 0, [(0, .val false [.sl false 3 (CV.frzEs (x0.map Vrow.row))]), (1, .val false [.sl false 3 (CV.frzEs (x1.map Vrow.row))])], []⟩ _
  unfold laws_eqVrowSF at H
  refine Tr.rs ?_
  refine LAt.runU tOk 1 (by kernel_rfl) ?_
  refine LAt.doneU [4, 0, 1] [] (by kernel_rfl) ?_
  refine Tr.seq ?_
  refine Tr.rs ?_
  refine LAt.runU tOk 1 (by kernel_rfl) ?_
  refine LAt.lenE tOk (t := 38) (ty := 3) (e := 81) (x := (.tmp 6)) (d := 7) (g := none) ⟨(.slot 6), [], 0, false, 3, (CV.frzEs (x0.map Vrow.row))⟩ (x0).length _ (by kernel_rfl) (by kernel_rfl) (by kernel_rfl) (by kernel_rfl) (by kernel_rfl) (frz_len _ _) rfl ?_
  refine LAt.runU tOk 1 (by kernel_rfl) ?_
  refine LAt.lenE tOk (t := 38) (ty := 3) (e := 81) (x := (.tmp 8)) (d := 9) (g := none) ⟨(.slot 8), [], 0, false, 3, (CV.frzEs (x1.map Vrow.row))⟩ (x1).length _ (by kernel_rfl) (by kernel_rfl) (by kernel_rfl) (by kernel_rfl) (by kernel_rfl) (frz_len _ _) rfl ?_
  refine LAt.runU tOk 1 (by kernel_rfl) ?_
  refine LAt.doneU [10, 4, 0, 1] [] (by kernel_rfl) ?_
  refine Tr.to ⟨27, 0, [(10, .val false [.lit (.bool ((x0.length : Int) != (x1.length : Int)))]), (4, .val false [.lit (.bool false)]), (0, .val false [.sl false 3 (CV.frzEs (x0.map Vrow.row))]), (1, .val false [.sl false 3 (CV.frzEs (x1.map Vrow.row))])], []⟩ (by kernel_rfl) ?_
  cases h1 : ((x0.length : Int) != (x1.length : Int))
  · rw [h1, cond_false] at H
    refine Tr.cond (b := false) (by kernel_rfl) (fun h => nomatch h) (fun _ => ?_)
    refine Tr.skip ?_
    show Tr _ _ _ _ _
    refine Tr.seq ?_
    refine Tr.rs ?_
    refine LAt.runU tOk 1 (by kernel_rfl) ?_
    refine LAt.doneU [5, 4, 0, 1] [] (by kernel_rfl) ?_
    obtain ⟨o2, eo2, Ho2⟩ := bind_some H
    clear H
    refine Tr.mid (ι := Unit) (fun v => ⟨27, 0, [(4, .val false [.lit (.bool false)])], []⟩) (fun v => laws_eqVrowS_J1 n = some r) ?_ ?_
    · refine Tr.block ?_
      refine Tr.loop (ι := Nat × (Int)) (fun v => ⟨27, 0, [(5, .val false [.lit (.int .i64 v.2)]), (4, .val false [.lit (.bool false)]), (0, .val false [.sl false 3 (CV.frzEs (x0.map Vrow.row))]), (1, .val false [.sl false 3 (CV.frzEs (x1.map Vrow.row))])], []⟩) (fun v => laws_eqVrowS_L2 n v.1 x0 x1 v.2 = some o2) (fun v => v.1) (n, 0) eo2 (St.sub_of [5, 4, 0, 1] [] (by kernel_rfl)) ?_
      rintro ⟨mo2, y1⟩ H
      have H : laws_eqVrowS_L2 n mo2 x0 x1 y1 = some o2 := H
      obtain _ | mo2 := mo2
      · cases (show (none : Option _) = some o2 from H)
      · rw [laws_eqVrowS_L2] at H
        refine Tr.seq ?_
        refine Tr.rs ?_
        refine LAt.runU tOk 2 (by kernel_rfl) ?_
        refine LAt.lenE tOk (t := 38) (ty := 3) (e := 81) (x := (.tmp 12)) (d := 13) (g := none) ⟨(.slot 12), [], 0, false, 3, (CV.frzEs (x0.map Vrow.row))⟩ (x0).length _ (by kernel_rfl) (by kernel_rfl) (by kernel_rfl) (by kernel_rfl) (by kernel_rfl) (frz_len _ _) rfl ?_
        refine LAt.runU tOk 1 (by kernel_rfl) ?_
        refine LAt.doneU [14, 13, 12, 11, 5, 4, 0, 1] [] (by kernel_rfl) ?_
        refine Tr.to ⟨27, 0, [(14, .val false [.lit (.bool (decide (y1 < (x0.length : Int))))]), (13, .val false [.lit (.int .i64 (x0.length : Int))]), (12, .val false [.sl false 3 (CV.frzEs (x0.map Vrow.row))]), (11, .val false [.lit (.int .i64 y1)]), (5, .val false [.lit (.int .i64 y1)]), (4, .val false [.lit (.bool false)]), (0, .val false [.sl false 3 (CV.frzEs (x0.map Vrow.row))]), (1, .val false [.sl false 3 (CV.frzEs (x1.map Vrow.row))])], []⟩ (by kernel_rfl) ?_
        cases h2 : (decide (y1 < (x0.length : Int)))
        · rw [h2, cond_false] at H
          refine Tr.cond (b := false) (by kernel_rfl) (fun h => nomatch h) (fun _ => ?_)
          refine Tr.exit ?_
          refine And.intro (fun _ => ?_) (fun h => absurd rfl h)
          have H := Option.some.inj H
          subst H
          have H := Ho2
          dsimp only at H
          exact Exists.intro () (And.intro H (St.sub_of [4] [] (by kernel_rfl)))
        · rw [h2, cond_true] at H
          refine Tr.cond (b := true) (by kernel_rfl) (fun _ => ?_) (fun h => nomatch h)
          refine Tr.skip ?_
          show Tr _ _ _ _ _
          refine Tr.seq ?_
          refine Tr.block ?_
          obtain ⟨v3, ev3, H⟩ := bind_some H
          obtain ⟨v4, ev4, H⟩ := bind_some H
          obtain ⟨r5, er5, H⟩ := bind_some H
          refine Tr.draws mixed 10 (by kernel_rfl) ⟨27, 0, [(26, .val false [.lit (.bool (!r5))]), (25, .val false [.lit (.bool r5)]), (24, .val true (Vrow.row v4)), (23, .fad ((Vrow.row v4))), (22, .val false [.lit (.int .i64 y1)]), (21, .val false [.sl false 3 (CV.frzEs (x1.map Vrow.row))]), (20, .val true (Vrow.row v3)), (19, .fad ((Vrow.row v3))), (18, .val false [.lit (.int .i64 y1)]), (17, .val false [.sl false 3 (CV.frzEs (x0.map Vrow.row))]), (14, .val false [.lit (.bool true)]), (13, .val false [.lit (.int .i64 (x0.length : Int))]), (12, .val false [.sl false 3 (CV.frzEs (x0.map Vrow.row))]), (11, .val false [.lit (.int .i64 y1)]), (5, .val false [.lit (.int .i64 y1)]), (4, .val false [.lit (.bool false)]), (0, .val false [.sl false 3 (CV.frzEs (x0.map Vrow.row))]), (1, .val false [.sl false 3 (CV.frzEs (x1.map Vrow.row))])], []⟩ (fun cx => ?_) ?_
          · refine AT.runU tOk [(0, []), (1, [])] 8 [] [1, 0] rfl (by kernel_rfl) (fun cx => ?_)
            refine AT.indexF tOk 2 (t := 38) (ty := 0) (x := (.tmp 17)) (y := (.tmp 18)) (d := 19) (g := none) ⟨(.slot 17), [], 0, false, 3, (CV.frzEs (x0.map Vrow.row))⟩ y1 (Vrow.row v3) _ (by kernel_rfl) (by kernel_rfl) (by kernel_rfl) (by kernel_rfl) (by kernel_rfl) (by kernel_rfl) rfl (idx_isF ev3) rfl (fun cx => ?_)
            refine AT.runU tOk [(3, []), (4, []), (5, [])] 4 [] [5, 4, 3, 2, 1, 0] rfl (by kernel_rfl) (fun cx => ?_)
            refine AT.indexF tOk 6 (t := 38) (ty := 0) (x := (.tmp 21)) (y := (.tmp 22)) (d := 23) (g := none) ⟨(.slot 21), [], 0, false, 3, (CV.frzEs (x1.map Vrow.row))⟩ y1 (Vrow.row v4) _ (by kernel_rfl) (by kernel_rfl) (by kernel_rfl) (by kernel_rfl) (by kernel_rfl) (by kernel_rfl) rfl (idx_isF ev4) rfl (fun cx => ?_)
            refine AT.runU tOk [(7, [])] 2 [] [7, 6, 5, 4, 3, 2, 1, 0] rfl (by kernel_rfl) (fun cx => ?_)
            refine AT.big1 tOk 8 (by kernel_rfl) (by kernel_rfl) ?_
            refine LAt.callU tOk [.rd, .rd] (f := 82) (av := #[.tmp 20, .tmp 24]) (ats := #[81, 81]) (d := (some 25)) (ty := 4) (g := none) (by kernel_rfl) (by kernel_rfl) (by kernel_rfl) [] (laws_eqVrow n v3 v4 r5 er5) (by kernel_rfl) (.inl rfl) ?_
            refine LAt.fin (by kernel_rfl) (And.intro (And.intro (by kernel_rfl) (by kernel_rfl)) ?_)
            refine AT.runU tOk [(9, [])] 0 [] [9, 8, 7, 6, 5, 4, 3, 2, 1, 0] rfl (by kernel_rfl) (fun cx => ?_)
            exact AT.done [26, 25, 24, 23, 22, 21, 20, 19, 18, 17, 14, 13, 12, 11, 5, 4, 0, 1] [] _ (by kernel_rfl) (by kernel_rfl) rfl
          · refine Tr.to ⟨27, 0, [(26, .val false [.lit (.bool (!r5))]), (25, .val false [.lit (.bool r5)]), (24, .val true (Vrow.row v4)), (23, .fad ((Vrow.row v4))), (22, .val false [.lit (.int .i64 y1)]), (21, .val false [.sl false 3 (CV.frzEs (x1.map Vrow.row))]), (20, .val true (Vrow.row v3)), (19, .fad ((Vrow.row v3))), (18, .val false [.lit (.int .i64 y1)]), (17, .val false [.sl false 3 (CV.frzEs (x0.map Vrow.row))]), (14, .val false [.lit (.bool true)]), (13, .val false [.lit (.int .i64 (x0.length : Int))]), (12, .val false [.sl false 3 (CV.frzEs (x0.map Vrow.row))]), (11, .val false [.lit (.int .i64 y1)]), (5, .val false [.lit (.int .i64 y1)]), (4, .val false [.lit (.bool false)]), (0, .val false [.sl false 3 (CV.frzEs (x0.map Vrow.row))]), (1, .val false [.sl false 3 (CV.frzEs (x1.map Vrow.row))])], []⟩ (by kernel_rfl) ?_
            cases h3 : (!r5)
            · rw [h3, cond_false] at H
              refine Tr.cond (b := false) (by kernel_rfl) (fun h => nomatch h) (fun _ => ?_)
              refine Tr.skip ?_
              show Tr _ _ _ _ _
              refine Tr.at ?_
              refine LAt.runU tOk 3 (by kernel_rfl) ?_
              refine LAt.doneU [5, 16, 15, 26, 25, 24, 23, 22, 21, 20, 19, 18, 17, 14, 13, 12, 11, 4, 0, 1] [] (by kernel_rfl) ?_
              exact Exists.intro (mo2, (IntKind.wrap .i64 (y1 + 1))) (And.intro H (And.intro (Nat.lt_succ_self mo2) (St.sub_of [5, 4, 0, 1] [] (by kernel_rfl))))
            · rw [h3, cond_true] at H
              refine Tr.cond (b := true) (by kernel_rfl) (fun _ => ?_) (fun h => nomatch h)
              refine Tr.rs ?_
              refine LAt.runU tOk 1 (by kernel_rfl) ?_
              refine LAt.doneU [4, 26, 25, 24, 23, 22, 21, 20, 19, 18, 17, 14, 13, 12, 11, 5, 0, 1] [] (by kernel_rfl) ?_
              refine Tr.ret ?_
              have H := Option.some.inj H
              subst H
              have H := Ho2
              dsimp only at H
              have H := Option.some.inj H
              subst H
              exact Fin.of _ [(false, [.lit (.bool false)])] (by kernel_rfl) rfl rfl
    · rintro _ H
      have H : (laws_eqVrowS_J1 n) = some r := H
      unfold laws_eqVrowS_J1 at H
      show Tr _ _ _ _ _
      refine Tr.rs ?_
      refine LAt.runU tOk 1 (by kernel_rfl) ?_
      refine LAt.doneU [4] [] (by kernel_rfl) ?_
      refine Tr.ret ?_
      have H := Option.some.inj H
      subst H
      exact Fin.of _ [(false, [.lit (.bool true)])] (by kernel_rfl) rfl rfl
  · rw [h1, cond_true] at H
    refine Tr.cond (b := true) (by kernel_rfl) (fun _ => ?_) (fun h => nomatch h)
    refine Tr.rs ?_
    refine LAt.runU tOk 1 (by kernel_rfl) ?_
    refine LAt.doneU [4, 0, 1] [] (by kernel_rfl) ?_
    refine Tr.ret ?_
    have H := Option.some.inj H
    subst H
    exact Fin.of _ [(false, [.lit (.bool false)])] (by kernel_rfl) rfl rfl

def laws_eqIntS_J1 (n : Nat) : Option (Bool) :=
  (some true)
def laws_eqIntS_L2 (n : Nat) : Nat → (List Int) → (List Int) → Int → Option ((Unit) ⊕ (Bool))
  | 0, _, _, _ => none
  | mo2 + 1, x0, x1, y1 => (bif (decide (y1 < (x0.length : Int))) then ((idx x0 y1).bind fun v3 => ((idx x1 y1).bind fun v4 => (bif (v3 != v4) then (some (Sum.inr false)) else (laws_eqIntS_L2 n mo2 x0 x1 (IntKind.wrap .i64 (y1 + 1)))))) else (some (Sum.inl ())))
def laws_eqIntSF (n : Nat) (x0 : (List Int)) (x1 : (List Int)) : Option (Bool) :=
  (bif ((x0.length : Int) != (x1.length : Int)) then (some false) else ((laws_eqIntS_L2 n n x0 x1 0).bind fun o => match o with | .inl _ => (laws_eqIntS_J1 n) | .inr r => some r))
/-- loop.example/g00326/laws.eqIntS -/
theorem laws_eqIntS (n : Nat) (x0 : (List Int)) (x1 : (List Int)) (r : Bool) (H : laws_eqIntSF n x0 x1 = some r) : LCall Try.prog 63 [.val false [.sl false 1 (CV.frzEs (x0.map intRow))], .val false [.sl false 1 (CV.frzEs (x1.map intRow))]] [.val false [.lit (.bool r)]] [] := by
  refine LCall.of_body tOk Try.func63 rfl (c := (.seq (.region 0 (rg Try.f63 0) false) (.seq (.seq (.region 1 (rg Try.f63 1) false) (.cond (.tmp 10) (.seq (.region 2 (rg Try.f63 2) false) .ret) .skip)) (.seq (.seq (.region 3 (rg Try.f63 3) false) (.block 0 (.loop (.seq (.seq (.region 4 (rg Try.f63 4) false) (.cond (.tmp 14) .skip (.exit 0))) (.seq (.block 1 (.seq (.region 6 (rg Try.f63 6) true) (.cond (.tmp 25) (.seq (.region 7 (rg Try.f63 7) false) .ret) .skip))) (.region 5 (rg Try.f63 5) false)))))) (.seq (.region 8 (rg Try.f63 8) false) .ret))))) (by kernel_rfl) (Nat.le_of_ble_eq_true (by kernel_rfl)) 0 (rs := [.tmp 4]) rfl [] .nil [(false, [.lit (.bool r)])] [] [] fun cx => ?_
  show Tr _ _ _ ⟨26, 0, [(0, .val false [.sl false 1 (CV.frzEs (x0.map intRow))]), (1, .val false [.sl false 1 (CV.frzEs (x1.map intRow))])], []⟩ _
  unfold laws_eqIntSF at H
  refine Tr.rs ?_
  refine LAt.runU tOk 1 (by kernel_rfl) ?_
  refine LAt.doneU [4, 0, 1] [] (by kernel_rfl) ?_
  refine Tr.seq ?_
  refine Tr.rs ?_
  refine LAt.runU tOk 1 (by kernel_rfl) ?_
  refine LAt.lenE tOk (t := 33) (ty := 3) (e := 3) (x := (.tmp 6)) (d := 7) (g := none) ⟨(.slot 6), [], 0, false, 1, (CV.frzEs (x0.map intRow))⟩ (x0).length _ (by kernel_rfl) (by kernel_rfl) (by kernel_rfl) (by kernel_rfl) (by kernel_rfl) (frz_len _ _) rfl ?_
  refine LAt.runU tOk 1 (by kernel_rfl) ?_
  refine LAt.lenE tOk (t := 33) (ty := 3) (e := 3) (x := (.tmp 8)) (d := 9) (g := none) ⟨(.slot 8), [], 0, false, 1, (CV.frzEs (x1.map intRow))⟩ (x1).length _ (by kernel_rfl) (by kernel_rfl) (by kernel_rfl) (by kernel_rfl) (by kernel_rfl) (frz_len _ _) rfl ?_
  refine LAt.runU tOk 1 (by kernel_rfl) ?_
  refine LAt.doneU [10, 4, 0, 1] [] (by kernel_rfl) ?_
  refine Tr.to ⟨26, 0, [(10, .val false [.lit (.bool ((x0.length : Int) != (x1.length : Int)))]), (4, .val false [.lit (.bool false)]), (0, .val false [.sl false 1 (CV.frzEs (x0.map intRow))]), (1, .val false [.sl false 1 (CV.frzEs (x1.map intRow))])], []⟩ (by kernel_rfl) ?_
  cases h1 : ((x0.length : Int) != (x1.length : Int))
  · rw [h1, cond_false] at H
    refine Tr.cond (b := false) (by kernel_rfl) (fun h => nomatch h) (fun _ => ?_)
    refine Tr.skip ?_
    show Tr _ _ _ _ _
    refine Tr.seq ?_
    refine Tr.rs ?_
    refine LAt.runU tOk 1 (by kernel_rfl) ?_
    refine LAt.doneU [5, 4, 0, 1] [] (by kernel_rfl) ?_
    obtain ⟨o2, eo2, Ho2⟩ := bind_some H
    clear H
    refine Tr.mid (ι := Unit) (fun v => ⟨26, 0, [(4, .val false [.lit (.bool false)])], []⟩) (fun v => laws_eqIntS_J1 n = some r) ?_ ?_
    · refine Tr.block ?_
      refine Tr.loop (ι := Nat × (Int)) (fun v => ⟨26, 0, [(5, .val false [.lit (.int .i64 v.2)]), (4, .val false [.lit (.bool false)]), (0, .val false [.sl false 1 (CV.frzEs (x0.map intRow))]), (1, .val false [.sl false 1 (CV.frzEs (x1.map intRow))])], []⟩) (fun v => laws_eqIntS_L2 n v.1 x0 x1 v.2 = some o2) (fun v => v.1) (n, 0) eo2 (St.sub_of [5, 4, 0, 1] [] (by kernel_rfl)) ?_
      rintro ⟨mo2, y1⟩ H
      have H : laws_eqIntS_L2 n mo2 x0 x1 y1 = some o2 := H
      obtain _ | mo2 := mo2
      · cases (show (none : Option _) = some o2 from H)
      · rw [laws_eqIntS_L2] at H
        refine Tr.seq ?_
        refine Tr.rs ?_
        refine LAt.runU tOk 2 (by kernel_rfl) ?_
        refine LAt.lenE tOk (t := 33) (ty := 3) (e := 3) (x := (.tmp 12)) (d := 13) (g := none) ⟨(.slot 12), [], 0, false, 1, (CV.frzEs (x0.map intRow))⟩ (x0).length _ (by kernel_rfl) (by kernel_rfl) (by kernel_rfl) (by kernel_rfl) (by kernel_rfl) (frz_len _ _) rfl ?_
        refine LAt.runU tOk 1 (by kernel_rfl) ?_
        refine LAt.doneU [14, 13, 12, 11, 5, 4, 0, 1] [] (by kernel_rfl) ?_
        refine Tr.to ⟨26, 0, [(14, .val false [.lit (.bool (decide (y1 < (x0.length : Int))))]), (13, .val false [.lit (.int .i64 (x0.length : Int))]), (12, .val false [.sl false 1 (CV.frzEs (x0.map intRow))]), (11, .val false [.lit (.int .i64 y1)]), (5, .val false [.lit (.int .i64 y1)]), (4, .val false [.lit (.bool false)]), (0, .val false [.sl false 1 (CV.frzEs (x0.map intRow))]), (1, .val false [.sl false 1 (CV.frzEs (x1.map intRow))])], []⟩ (by kernel_rfl) ?_
        cases h2 : (decide (y1 < (x0.length : Int)))
        · rw [h2, cond_false] at H
          refine Tr.cond (b := false) (by kernel_rfl) (fun h => nomatch h) (fun _ => ?_)
          refine Tr.exit ?_
          refine And.intro (fun _ => ?_) (fun h => absurd rfl h)
          have H := Option.some.inj H
          subst H
          have H := Ho2
          dsimp only at H
          exact Exists.intro () (And.intro H (St.sub_of [4] [] (by kernel_rfl)))
        · rw [h2, cond_true] at H
          refine Tr.cond (b := true) (by kernel_rfl) (fun _ => ?_) (fun h => nomatch h)
          refine Tr.skip ?_
          show Tr _ _ _ _ _
          refine Tr.seq ?_
          refine Tr.block ?_
          obtain ⟨v3, ev3, H⟩ := bind_some H
          obtain ⟨v4, ev4, H⟩ := bind_some H
          refine Tr.draws mixed 9 (by kernel_rfl) ⟨26, 0, [(25, .val false [.lit (.bool (v3 != v4))]), (24, .val false [.lit (.int .i64 v4)]), (23, .fad ([.lit (.int .i64 v4)])), (22, .val false [.lit (.int .i64 y1)]), (21, .val false [.sl false 1 (CV.frzEs (x1.map intRow))]), (20, .val false [.lit (.int .i64 v3)]), (19, .fad ([.lit (.int .i64 v3)])), (18, .val false [.lit (.int .i64 y1)]), (17, .val false [.sl false 1 (CV.frzEs (x0.map intRow))]), (14, .val false [.lit (.bool true)]), (13, .val false [.lit (.int .i64 (x0.length : Int))]), (12, .val false [.sl false 1 (CV.frzEs (x0.map intRow))]), (11, .val false [.lit (.int .i64 y1)]), (5, .val false [.lit (.int .i64 y1)]), (4, .val false [.lit (.bool false)]), (0, .val false [.sl false 1 (CV.frzEs (x0.map intRow))]), (1, .val false [.sl false 1 (CV.frzEs (x1.map intRow))])], []⟩ (fun cx => ?_) ?_
          · refine AT.runU tOk [(0, []), (1, [])] 7 [] [1, 0] rfl (by kernel_rfl) (fun cx => ?_)
            refine AT.indexF tOk 2 (t := 33) (ty := 0) (x := (.tmp 17)) (y := (.tmp 18)) (d := 19) (g := none) ⟨(.slot 17), [], 0, false, 1, (CV.frzEs (x0.map intRow))⟩ y1 [.lit (.int .i64 v3)] _ (by kernel_rfl) (by kernel_rfl) (by kernel_rfl) (by kernel_rfl) (by kernel_rfl) (by kernel_rfl) rfl (idx_isF ev3) rfl (fun cx => ?_)
            refine AT.runU tOk [(3, []), (4, []), (5, [])] 3 [] [5, 4, 3, 2, 1, 0] rfl (by kernel_rfl) (fun cx => ?_)
            refine AT.indexF tOk 6 (t := 33) (ty := 0) (x := (.tmp 21)) (y := (.tmp 22)) (d := 23) (g := none) ⟨(.slot 21), [], 0, false, 1, (CV.frzEs (x1.map intRow))⟩ y1 [.lit (.int .i64 v4)] _ (by kernel_rfl) (by kernel_rfl) (by kernel_rfl) (by kernel_rfl) (by kernel_rfl) (by kernel_rfl) rfl (idx_isF ev4) rfl (fun cx => ?_)
            refine AT.runU tOk [(7, []), (8, [])] 0 [] [8, 7, 6, 5, 4, 3, 2, 1, 0] rfl (by kernel_rfl) (fun cx => ?_)
            exact AT.done [25, 24, 23, 22, 21, 20, 19, 18, 17, 14, 13, 12, 11, 5, 4, 0, 1] [] _ (by kernel_rfl) (by kernel_rfl) rfl
          · refine Tr.to ⟨26, 0, [(25, .val false [.lit (.bool (v3 != v4))]), (24, .val false [.lit (.int .i64 v4)]), (23, .fad ([.lit (.int .i64 v4)])), (22, .val false [.lit (.int .i64 y1)]), (21, .val false [.sl false 1 (CV.frzEs (x1.map intRow))]), (20, .val false [.lit (.int .i64 v3)]), (19, .fad ([.lit (.int .i64 v3)])), (18, .val false [.lit (.int .i64 y1)]), (17, .val false [.sl false 1 (CV.frzEs (x0.map intRow))]), (14, .val false [.lit (.bool true)]), (13, .val false [.lit (.int .i64 (x0.length : Int))]), (12, .val false [.sl false 1 (CV.frzEs (x0.map intRow))]), (11, .val false [.lit (.int .i64 y1)]), (5, .val false [.lit (.int .i64 y1)]), (4, .val false [.lit (.bool false)]), (0, .val false [.sl false 1 (CV.frzEs (x0.map intRow))]), (1, .val false [.sl false 1 (CV.frzEs (x1.map intRow))])], []⟩ (by kernel_rfl) ?_
            cases h3 : (v3 != v4)
            · rw [h3, cond_false] at H
              refine Tr.cond (b := false) (by kernel_rfl) (fun h => nomatch h) (fun _ => ?_)
              refine Tr.skip ?_
              show Tr _ _ _ _ _
              refine Tr.at ?_
              refine LAt.runU tOk 3 (by kernel_rfl) ?_
              refine LAt.doneU [5, 16, 15, 25, 24, 23, 22, 21, 20, 19, 18, 17, 14, 13, 12, 11, 4, 0, 1] [] (by kernel_rfl) ?_
              exact Exists.intro (mo2, (IntKind.wrap .i64 (y1 + 1))) (And.intro H (And.intro (Nat.lt_succ_self mo2) (St.sub_of [5, 4, 0, 1] [] (by kernel_rfl))))
            · rw [h3, cond_true] at H
              refine Tr.cond (b := true) (by kernel_rfl) (fun _ => ?_) (fun h => nomatch h)
              refine Tr.rs ?_
              refine LAt.runU tOk 1 (by kernel_rfl) ?_
              refine LAt.doneU [4, 25, 24, 23, 22, 21, 20, 19, 18, 17, 14, 13, 12, 11, 5, 0, 1] [] (by kernel_rfl) ?_
              refine Tr.ret ?_
              have H := Option.some.inj H
              subst H
              have H := Ho2
              dsimp only at H
              have H := Option.some.inj H
              subst H
              exact Fin.of _ [(false, [.lit (.bool false)])] (by kernel_rfl) rfl rfl
    · rintro _ H
      have H : (laws_eqIntS_J1 n) = some r := H
      unfold laws_eqIntS_J1 at H
      show Tr _ _ _ _ _
      refine Tr.rs ?_
      refine LAt.runU tOk 1 (by kernel_rfl) ?_
      refine LAt.doneU [4] [] (by kernel_rfl) ?_
      refine Tr.ret ?_
      have H := Option.some.inj H
      subst H
      exact Fin.of _ [(false, [.lit (.bool true)])] (by kernel_rfl) rfl rfl
  · rw [h1, cond_true] at H
    refine Tr.cond (b := true) (by kernel_rfl) (fun _ => ?_) (fun h => nomatch h)
    refine Tr.rs ?_
    refine LAt.runU tOk 1 (by kernel_rfl) ?_
    refine LAt.doneU [4, 0, 1] [] (by kernel_rfl) ?_
    refine Tr.ret ?_
    have H := Option.some.inj H
    subst H
    exact Fin.of _ [(false, [.lit (.bool false)])] (by kernel_rfl) rfl rfl

def laws_eqVtabF (n : Nat) (x0 : Vtab) (x1 : Vtab) : Option (Bool) :=
  ((laws_eqVrowSF n x0.Rows x1.Rows).bind fun r1 => (bif (!r1) then (some false) else ((laws_eqIntSF n x0.Pvid x1.Pvid).bind fun r2 => (bif (!r2) then (some false) else (some true)))))
/-- loop.example/g00326/laws.eqVtab -/
theorem laws_eqVtab (n : Nat) (x0 : Vtab) (x1 : Vtab) (r : Bool) (H : laws_eqVtabF n x0 x1 = some r) : LCall Try.prog 21 [.val true (CV.frzRow (Vtab.row x0)), .val true (CV.frzRow (Vtab.row x1))] [.val false [.lit (.bool r)]] [] := by
  refine LCall.of_body tOk Try.func21 rfl (c := (.seq (.region 0 (rg Try.f21 0) false) (.seq (.seq (.region 1 (rg Try.f21 1) false) (.cond (.tmp 10) (.seq (.region 2 (rg Try.f21 2) false) .ret) .skip)) (.seq (.seq (.region 3 (rg Try.f21 3) false) (.cond (.tmp 16) (.seq (.region 4 (rg Try.f21 4) false) .ret) .skip)) (.seq (.region 5 (rg Try.f21 5) false) .ret))))) (by kernel_rfl) (Nat.le_of_ble_eq_true (by kernel_rfl)) 0 (rs := [.tmp 4]) rfl [] .nil [(false, [.lit (.bool r)])] [] [] fun cx => ?_
  show Tr _ _ _ ⟨17, 0, [(0, .val true (CV.frzRow (Vtab.row x0))), (1, .val true (CV.frzRow (Vtab.row x1)))], []⟩ _
  unfold laws_eqVtabF at H
  refine Tr.rs ?_
  refine LAt.runU tOk 3 (by kernel_rfl) ?_
  refine LAt.doneU [4, 3, 2] [3, 2] (by kernel_rfl) ?_
  refine Tr.seq ?_
  refine Tr.rs ?_
  refine LAt.runU tOk 4 (by kernel_rfl) ?_
  obtain ⟨r1, er1, H⟩ := bind_some H
  refine LAt.callU tOk [.rd, .rd] (f := 62) (av := #[.tmp 6, .tmp 8]) (ats := #[38, 38]) (d := (some 9)) (ty := 4) (g := none) (by kernel_rfl) (by kernel_rfl) (by kernel_rfl) [] (laws_eqVrowS n x0.Rows x1.Rows r1 er1) (by kernel_rfl) (.inl rfl) ?_
  refine LAt.runU tOk 1 (by kernel_rfl) ?_
  refine LAt.doneU [10, 4, 3, 2] [3, 2] (by kernel_rfl) ?_
  refine Tr.to ⟨17, 0, [(10, .val false [.lit (.bool (!r1))]), (4, .val false [.lit (.bool false)]), (3, .adr (.box 3) [(0, 0)] 2 0), (2, .adr (.box 2) [(0, 0)] 2 0)], [(3, (CV.frzRow (Vtab.row x1))), (2, (CV.frzRow (Vtab.row x0)))]⟩ (by kernel_rfl) ?_
  cases h1 : (!r1)
  · rw [h1, cond_false] at H
    refine Tr.cond (b := false) (by kernel_rfl) (fun h => nomatch h) (fun _ => ?_)
    refine Tr.skip ?_
    show Tr _ _ _ _ _
    refine Tr.seq ?_
    refine Tr.rs ?_
    refine LAt.runU tOk 4 (by kernel_rfl) ?_
    obtain ⟨r2, er2, H⟩ := bind_some H
    refine LAt.callU tOk [.rd, .rd] (f := 63) (av := #[.tmp 12, .tmp 14]) (ats := #[33, 33]) (d := (some 15)) (ty := 4) (g := none) (by kernel_rfl) (by kernel_rfl) (by kernel_rfl) [] (laws_eqIntS n x0.Pvid x1.Pvid r2 er2) (by kernel_rfl) (.inl rfl) ?_
    refine LAt.runU tOk 1 (by kernel_rfl) ?_
    refine LAt.doneU [16, 4] [] (by kernel_rfl) ?_
    refine Tr.to ⟨17, 0, [(16, .val false [.lit (.bool (!r2))]), (4, .val false [.lit (.bool false)])], []⟩ (by kernel_rfl) ?_
    cases h2 : (!r2)
    · rw [h2, cond_false] at H
      refine Tr.cond (b := false) (by kernel_rfl) (fun h => nomatch h) (fun _ => ?_)
      refine Tr.skip ?_
      show Tr _ _ _ _ _
      refine Tr.rs ?_
      refine LAt.runU tOk 1 (by kernel_rfl) ?_
      refine LAt.doneU [4] [] (by kernel_rfl) ?_
      refine Tr.ret ?_
      have H := Option.some.inj H
      subst H
      exact Fin.of _ [(false, [.lit (.bool true)])] (by kernel_rfl) rfl rfl
    · rw [h2, cond_true] at H
      refine Tr.cond (b := true) (by kernel_rfl) (fun _ => ?_) (fun h => nomatch h)
      refine Tr.rs ?_
      refine LAt.runU tOk 1 (by kernel_rfl) ?_
      refine LAt.doneU [4] [] (by kernel_rfl) ?_
      refine Tr.ret ?_
      have H := Option.some.inj H
      subst H
      exact Fin.of _ [(false, [.lit (.bool false)])] (by kernel_rfl) rfl rfl
  · rw [h1, cond_true] at H
    refine Tr.cond (b := true) (by kernel_rfl) (fun _ => ?_) (fun h => nomatch h)
    refine Tr.rs ?_
    refine LAt.runU tOk 1 (by kernel_rfl) ?_
    refine LAt.doneU [4, 3, 2] [3, 2] (by kernel_rfl) ?_
    refine Tr.ret ?_
    have H := Option.some.inj H
    subst H
    exact Fin.of _ [(false, [.lit (.bool false)])] (by kernel_rfl) rfl rfl

def laws_markVrowS_J1 (n : Nat) (y4 : (List Vrow)) (y5 : Int) : Option (Int × (List Vrow)) :=
  (some (y5, y4))
def laws_markVrowS_L2 (n : Nat) : Nat → Int → (List Vrow) → Int → Option (((List Vrow) × Int) ⊕ (Int × (List Vrow)))
  | 0, _, _, _ => none
  | mo6 + 1, y1, y2, y3 => (bif (decide (y1 < (y2.length : Int))) then ((idx y2 y1).bind fun v7 => ((idx (y2.set (y1.toNat) (⟨y3, v7.Members, v7.Bare⟩ : Vrow)) y1).bind fun v8 => ((idx ((y2.set (y1.toNat) (⟨y3, v7.Members, v7.Bare⟩ : Vrow)).set (y1.toNat) (⟨v8.Id, (IntKind.wrap .i64 (y3 + 1)), v8.Bare⟩ : Vrow)) y1).bind fun v9 => (laws_markVrowS_L2 n mo6 (IntKind.wrap .i64 (y1 + 1)) (((y2.set (y1.toNat) (⟨y3, v7.Members, v7.Bare⟩ : Vrow)).set (y1.toNat) (⟨v8.Id, (IntKind.wrap .i64 (y3 + 1)), v8.Bare⟩ : Vrow)).set (y1.toNat) (⟨v9.Id, v9.Members, (IntKind.wrap .i64 ((IntKind.wrap .i64 (y3 + 1)) + 1))⟩ : Vrow)) (IntKind.wrap .i64 ((IntKind.wrap .i64 ((IntKind.wrap .i64 (y3 + 1)) + 1)) + 1)))))) else (some (Sum.inl (y2, y3))))
def laws_markVrowSF (n : Nat) (x0 : (List Vrow)) (x1 : Int) : Option (Int × (List Vrow)) :=
  ((laws_markVrowS_L2 n n 0 x0 x1).bind fun o => match o with | .inl (y4, y5) => (laws_markVrowS_J1 n y4 y5) | .inr r => some r)
/-- loop.example/g00326/laws.markVrowS -/
theorem laws_markVrowS (n : Nat) (x0 : (List Vrow)) (x1 : Int) (r : Int × (List Vrow)) (H : laws_markVrowSF n x0 x1 = some r) : LCall Try.prog 65 [.io false [.sl true 3 (x0.map Vrow.row)], .val false [.lit (.int .i64 x1)]] [.val false [.lit (.int .i64 r.1)]] [(0, [.sl true 3 (r.2.map Vrow.row)])] := by
  refine LCall.of_body tOk Try.func65 rfl (c := (.seq (.region 0 (rg Try.f65 0) false) (.seq (.seq (.region 1 (rg Try.f65 1) false) (.block 0 (.loop (.seq (.seq (.region 2 (rg Try.f65 2) false) (.cond (.tmp 9) .skip (.exit 0))) (.seq (.block 1 (.seq (.region 4 (rg Try.f65 4) false) (.seq (.region 5 (rg Try.f65 5) false) (.seq (.region 6 (rg Try.f65 6) false) (.seq (.region 7 (rg Try.f65 7) false) (.seq (.region 8 (rg Try.f65 8) false) (.region 9 (rg Try.f65 9) false))))))) (.region 3 (rg Try.f65 3) false)))))) (.seq (.region 10 (rg Try.f65 10) false) .ret)))) (by kernel_rfl) (Nat.le_of_ble_eq_true (by kernel_rfl)) 1 (rs := [.tmp 4]) rfl [0] (by decide) [(false, [.lit (.int .i64 r.1)])] [[.sl true 3 (r.2.map Vrow.row)]] [] fun cx => ?_
  show Tr _ _ _ ⟨34, 1, [(0, .val false [.sl true 3 (x0.map Vrow.row)]), (1, .val false [.lit (.int .i64 x1)])], []⟩ _
  unfold laws_markVrowSF at H
  refine Tr.rs ?_
  refine LAt.runU tOk 1 (by kernel_rfl) ?_
  refine LAt.doneU [4, 0, 1] [] (by kernel_rfl) ?_
  refine Tr.seq ?_
  refine Tr.rs ?_
  refine LAt.runU tOk 1 (by kernel_rfl) ?_
  refine LAt.doneU [5, 4, 0, 1] [] (by kernel_rfl) ?_
  obtain ⟨o6, eo6, Ho6⟩ := bind_some H
  clear H
  refine Tr.mid (ι := (List Vrow) × Int) (fun v => ⟨34, 1, [(4, .val false [.lit (.int .i64 0)]), (0, .val false [.sl true 3 (v.1.map Vrow.row)]), (1, .val false [.lit (.int .i64 v.2)])], []⟩) (fun v => laws_markVrowS_J1 n v.1 v.2 = some r) ?_ ?_
  · refine Tr.block ?_
    refine Tr.loop (ι := Nat × (Int × (List Vrow) × Int)) (fun v => ⟨34, 1, [(5, .val false [.lit (.int .i64 v.2.1)]), (4, .val false [.lit (.int .i64 0)]), (0, .val false [.sl true 3 (v.2.2.1.map Vrow.row)]), (1, .val false [.lit (.int .i64 v.2.2.2)])], []⟩) (fun v => laws_markVrowS_L2 n v.1 v.2.1 v.2.2.1 v.2.2.2 = some o6) (fun v => v.1) (n, (0, x0, x1)) eo6 (St.sub_of [5, 4, 0, 1] [] (by kernel_rfl)) ?_
    rintro ⟨mo6, y1, y2, y3⟩ H
    have H : laws_markVrowS_L2 n mo6 y1 y2 y3 = some o6 := H
    obtain _ | mo6 := mo6
    · cases (show (none : Option _) = some o6 from H)
    · rw [laws_markVrowS_L2] at H
      refine Tr.seq ?_
      refine Tr.rs ?_
      refine LAt.runU tOk 2 (by kernel_rfl) ?_
      refine LAt.lenE tOk (t := 38) (ty := 3) (e := 81) (x := (.tmp 7)) (d := 8) (g := none) ⟨(.slot 0), [], 0, true, 3, (y2.map Vrow.row)⟩ (y2).length _ (by kernel_rfl) (by kernel_rfl) (by kernel_rfl) (by kernel_rfl) (by kernel_rfl) (map_len _ _) rfl ?_
      refine LAt.runU tOk 1 (by kernel_rfl) ?_
      refine LAt.doneU [9, 8, 7, 6, 5, 4, 0, 1] [] (by kernel_rfl) ?_
      refine Tr.to ⟨34, 1, [(9, .val false [.lit (.bool (decide (y1 < (y2.length : Int))))]), (8, .val false [.lit (.int .i64 (y2.length : Int))]), (7, .ref (.slot 0) [] 0 0 1 false), (6, .val false [.lit (.int .i64 y1)]), (5, .val false [.lit (.int .i64 y1)]), (4, .val false [.lit (.int .i64 0)]), (0, .val false [.sl true 3 (y2.map Vrow.row)]), (1, .val false [.lit (.int .i64 y3)])], []⟩ (by kernel_rfl) ?_
      cases h1 : (decide (y1 < (y2.length : Int)))
      · rw [h1, cond_false] at H
        refine Tr.cond (b := false) (by kernel_rfl) (fun h => nomatch h) (fun _ => ?_)
        refine Tr.exit ?_
        refine And.intro (fun _ => ?_) (fun h => absurd rfl h)
        have H := Option.some.inj H
        subst H
        have H := Ho6
        dsimp only at H
        exact Exists.intro (y2, y3) (And.intro H (St.sub_of [4, 0, 1] [] (by kernel_rfl)))
      · rw [h1, cond_true] at H
        refine Tr.cond (b := true) (by kernel_rfl) (fun _ => ?_) (fun h => nomatch h)
        refine Tr.skip ?_
        show Tr _ _ _ _ _
        refine Tr.seq ?_
        refine Tr.block ?_
        refine Tr.rs ?_
        refine LAt.runU tOk 3 (by kernel_rfl) ?_
        obtain ⟨v7, ev7, H⟩ := bind_some H
        refine LAt.indexO tOk (t := 38) (ty := 0) (x := (.tmp 12)) (y := (.tmp 13)) (d := 15) (g := none) ⟨(.slot 0), [], 0, true, 3, (y2.map Vrow.row)⟩ y1 (y1.toNat) (Vrow.row v7) _ (by kernel_rfl) (by kernel_rfl) (by kernel_rfl) (by kernel_rfl) rfl (by kernel_rfl) (idx_isE ev7) rfl rfl ?_
        refine LAt.runU tOk 1 (by kernel_rfl) ?_
        refine LAt.storeU tOk (t := 3) (ty := 0) (ad := (.tmp 16)) (x := (.tmp 14)) (g := none) ⟨.int .i64, 1, 8, [.lit (.int .i64 0)]⟩ false [.lit (.int .i64 y3)] (.slot 0) [(0, (y1.toNat))] [(0, (y1.toNat))] 3 0 [.sl true 3 (y2.map Vrow.row)] (Vrow.row v7) [.sl true 3 (y2.map Vrow.row)] [.sl true 3 ((y2.set (y1.toNat) (⟨y3, v7.Members, v7.Bare⟩ : Vrow)).map Vrow.row)] (by kernel_rfl) (by kernel_rfl) (by kernel_rfl) (by kernel_rfl) (by kernel_rfl) (by kernel_rfl) (getQ_elem rfl (idx_get ev7).2) rfl (by intro h; cases h) (by kernel_rfl) (by kernel_rfl) (by kernel_rfl) (modQ_elem (new := (⟨y3, v7.Members, v7.Bare⟩ : Vrow)) rfl (idx_get ev7).2 rfl) (by kernel_rfl) ?_
        refine LAt.doneU [0, 16, 15, 14, 13, 9, 8, 6, 5, 4, 1] [] (by kernel_rfl) ?_
        refine Tr.rs ?_
        refine LAt.runU tOk 3 (by kernel_rfl) ?_
        refine LAt.doneU [1, 18, 17, 0, 16, 15, 14, 13, 9, 8, 6, 5, 4] [] (by kernel_rfl) ?_
        refine Tr.rs ?_
        refine LAt.runU tOk 3 (by kernel_rfl) ?_
        obtain ⟨v8, ev8, H⟩ := bind_some H
        refine LAt.indexO tOk (t := 38) (ty := 0) (x := (.tmp 19)) (y := (.tmp 20)) (d := 22) (g := none) ⟨(.slot 0), [], 0, true, 3, ((y2.set (y1.toNat) (⟨y3, v7.Members, v7.Bare⟩ : Vrow)).map Vrow.row)⟩ y1 (y1.toNat) (Vrow.row v8) _ (by kernel_rfl) (by kernel_rfl) (by kernel_rfl) (by kernel_rfl) rfl (by kernel_rfl) (idx_isE ev8) rfl rfl ?_
        refine LAt.runU tOk 1 (by kernel_rfl) ?_
        refine LAt.storeU tOk (t := 3) (ty := 0) (ad := (.tmp 23)) (x := (.tmp 21)) (g := none) ⟨.int .i64, 1, 8, [.lit (.int .i64 0)]⟩ false [.lit (.int .i64 (IntKind.wrap .i64 (y3 + 1)))] (.slot 0) [(0, (y1.toNat))] [(0, (y1.toNat))] 3 1 [.sl true 3 ((y2.set (y1.toNat) (⟨y3, v7.Members, v7.Bare⟩ : Vrow)).map Vrow.row)] (Vrow.row v8) [.sl true 3 ((y2.set (y1.toNat) (⟨y3, v7.Members, v7.Bare⟩ : Vrow)).map Vrow.row)] [.sl true 3 (((y2.set (y1.toNat) (⟨y3, v7.Members, v7.Bare⟩ : Vrow)).set (y1.toNat) (⟨v8.Id, (IntKind.wrap .i64 (y3 + 1)), v8.Bare⟩ : Vrow)).map Vrow.row)] (by kernel_rfl) (by kernel_rfl) (by kernel_rfl) (by kernel_rfl) (by kernel_rfl) (by kernel_rfl) (getQ_elem rfl (idx_get ev8).2) rfl (by intro h; cases h) (by kernel_rfl) (by kernel_rfl) (by kernel_rfl) (modQ_elem (new := (⟨v8.Id, (IntKind.wrap .i64 (y3 + 1)), v8.Bare⟩ : Vrow)) rfl (idx_get ev8).2 rfl) (by kernel_rfl) ?_
        refine LAt.doneU [0, 23, 22, 21, 20, 1, 18, 17, 16, 15, 14, 13, 9, 8, 6, 5, 4] [] (by kernel_rfl) ?_
        refine Tr.rs ?_
        refine LAt.runU tOk 3 (by kernel_rfl) ?_
        refine LAt.doneU [1, 25, 24, 0, 23, 22, 21, 20, 18, 17, 16, 15, 14, 13, 9, 8, 6, 5, 4] [] (by kernel_rfl) ?_
        refine Tr.rs ?_
        refine LAt.runU tOk 3 (by kernel_rfl) ?_
        obtain ⟨v9, ev9, H⟩ := bind_some H
        refine LAt.indexO tOk (t := 38) (ty := 0) (x := (.tmp 26)) (y := (.tmp 27)) (d := 29) (g := none) ⟨(.slot 0), [], 0, true, 3, (((y2.set (y1.toNat) (⟨y3, v7.Members, v7.Bare⟩ : Vrow)).set (y1.toNat) (⟨v8.Id, (IntKind.wrap .i64 (y3 + 1)), v8.Bare⟩ : Vrow)).map Vrow.row)⟩ y1 (y1.toNat) (Vrow.row v9) _ (by kernel_rfl) (by kernel_rfl) (by kernel_rfl) (by kernel_rfl) rfl (by kernel_rfl) (idx_isE ev9) rfl rfl ?_
        refine LAt.runU tOk 1 (by kernel_rfl) ?_
        refine LAt.storeU tOk (t := 3) (ty := 0) (ad := (.tmp 30)) (x := (.tmp 28)) (g := none) ⟨.int .i64, 1, 8, [.lit (.int .i64 0)]⟩ false [.lit (.int .i64 (IntKind.wrap .i64 ((IntKind.wrap .i64 (y3 + 1)) + 1)))] (.slot 0) [(0, (y1.toNat))] [(0, (y1.toNat))] 3 2 [.sl true 3 (((y2.set (y1.toNat) (⟨y3, v7.Members, v7.Bare⟩ : Vrow)).set (y1.toNat) (⟨v8.Id, (IntKind.wrap .i64 (y3 + 1)), v8.Bare⟩ : Vrow)).map Vrow.row)] (Vrow.row v9) [.sl true 3 (((y2.set (y1.toNat) (⟨y3, v7.Members, v7.Bare⟩ : Vrow)).set (y1.toNat) (⟨v8.Id, (IntKind.wrap .i64 (y3 + 1)), v8.Bare⟩ : Vrow)).map Vrow.row)] [.sl true 3 ((((y2.set (y1.toNat) (⟨y3, v7.Members, v7.Bare⟩ : Vrow)).set (y1.toNat) (⟨v8.Id, (IntKind.wrap .i64 (y3 + 1)), v8.Bare⟩ : Vrow)).set (y1.toNat) (⟨v9.Id, v9.Members, (IntKind.wrap .i64 ((IntKind.wrap .i64 (y3 + 1)) + 1))⟩ : Vrow)).map Vrow.row)] (by kernel_rfl) (by kernel_rfl) (by kernel_rfl) (by kernel_rfl) (by kernel_rfl) (by kernel_rfl) (getQ_elem rfl (idx_get ev9).2) rfl (by intro h; cases h) (by kernel_rfl) (by kernel_rfl) (by kernel_rfl) (modQ_elem (new := (⟨v9.Id, v9.Members, (IntKind.wrap .i64 ((IntKind.wrap .i64 (y3 + 1)) + 1))⟩ : Vrow)) rfl (idx_get ev9).2 rfl) (by kernel_rfl) ?_
        refine LAt.doneU [0, 30, 29, 28, 27, 1, 25, 24, 23, 22, 21, 20, 18, 17, 16, 15, 14, 13, 9, 8, 6, 5, 4] [] (by kernel_rfl) ?_
        refine Tr.at ?_
        refine LAt.runU tOk 3 (by kernel_rfl) ?_
        refine LAt.doneU [1, 32, 31, 0, 30, 29, 28, 27, 25, 24, 23, 22, 21, 20, 18, 17, 16, 15, 14, 13, 9, 8, 6, 5, 4] [] (by kernel_rfl) ?_
        show Tr _ _ _ _ _
        refine Tr.at ?_
        refine LAt.runU tOk 3 (by kernel_rfl) ?_
        refine LAt.doneU [5, 11, 10, 1, 32, 31, 0, 30, 29, 28, 27, 25, 24, 23, 22, 21, 20, 18, 17, 16, 15, 14, 13, 9, 8, 6, 4] [] (by kernel_rfl) ?_
        exact Exists.intro (mo6, ((IntKind.wrap .i64 (y1 + 1)), (((y2.set (y1.toNat) (⟨y3, v7.Members, v7.Bare⟩ : Vrow)).set (y1.toNat) (⟨v8.Id, (IntKind.wrap .i64 (y3 + 1)), v8.Bare⟩ : Vrow)).set (y1.toNat) (⟨v9.Id, v9.Members, (IntKind.wrap .i64 ((IntKind.wrap .i64 (y3 + 1)) + 1))⟩ : Vrow)), (IntKind.wrap .i64 ((IntKind.wrap .i64 ((IntKind.wrap .i64 (y3 + 1)) + 1)) + 1)))) (And.intro H (And.intro (Nat.lt_succ_self mo6) (St.sub_of [5, 4, 0, 1] [] (by kernel_rfl))))
  · rintro ⟨y4, y5⟩ H
    have H : (laws_markVrowS_J1 n y4 y5) = some r := H
    unfold laws_markVrowS_J1 at H
    show Tr _ _ _ _ _
    refine Tr.rs ?_
    refine LAt.runU tOk 2 (by kernel_rfl) ?_
    refine LAt.doneU [4, 0] [] (by kernel_rfl) ?_
    refine Tr.ret ?_
    have H := Option.some.inj H
    subst H
    exact Fin.ofY _ [(false, [.lit (.int .i64 y5)])] [false] _ [[.sl true 3 (y4.map Vrow.row)]] _ [] (by kernel_rfl) rfl rfl rfl (by kernel_rfl) (by kernel_rfl) (by kernel_rfl) (by kernel_rfl) rfl rfl rfl

def laws_markIntS_J1 (n : Nat) (y4 : (List Int)) (y5 : Int) : Option (Int × (List Int)) :=
  (some (y5, y4))
def laws_markIntS_L2 (n : Nat) : Nat → Int → (List Int) → Int → Option (((List Int) × Int) ⊕ (Int × (List Int)))
  | 0, _, _, _ => none
  | mo6 + 1, y1, y2, y3 => (bif (decide (y1 < (y2.length : Int))) then ((idx y2 y1).bind fun v7 => (laws_markIntS_L2 n mo6 (IntKind.wrap .i64 (y1 + 1)) (y2.set (y1.toNat) y3) (IntKind.wrap .i64 (y3 + 1)))) else (some (Sum.inl (y2, y3))))
def laws_markIntSF (n : Nat) (x0 : (List Int)) (x1 : Int) : Option (Int × (List Int)) :=
  ((laws_markIntS_L2 n n 0 x0 x1).bind fun o => match o with | .inl (y4, y5) => (laws_markIntS_J1 n y4 y5) | .inr r => some r)
/-- loop.example/g00326/laws.markIntS -/
theorem laws_markIntS (n : Nat) (x0 : (List Int)) (x1 : Int) (r : Int × (List Int)) (H : laws_markIntSF n x0 x1 = some r) : LCall Try.prog 66 [.io false [.sl true 1 (x0.map intRow)], .val false [.lit (.int .i64 x1)]] [.val false [.lit (.int .i64 r.1)]] [(0, [.sl true 1 (r.2.map intRow)])] := by
  refine LCall.of_body tOk Try.func66 rfl (c := (.seq (.region 0 (rg Try.f66 0) false) (.seq (.seq (.region 1 (rg Try.f66 1) false) (.block 0 (.loop (.seq (.seq (.region 2 (rg Try.f66 2) false) (.cond (.tmp 9) .skip (.exit 0))) (.seq (.block 1 (.seq (.region 4 (rg Try.f66 4) false) (.region 5 (rg Try.f66 5) false))) (.region 3 (rg Try.f66 3) false)))))) (.seq (.region 6 (rg Try.f66 6) false) .ret)))) (by kernel_rfl) (Nat.le_of_ble_eq_true (by kernel_rfl)) 1 (rs := [.tmp 4]) rfl [0] (by decide) [(false, [.lit (.int .i64 r.1)])] [[.sl true 1 (r.2.map intRow)]] [] fun cx => ?_
  show Tr _ _ _ ⟨19, 1, [(0, .val false [.sl true 1 (x0.map intRow)]), (1, .val false [.lit (.int .i64 x1)])], []⟩ _
  unfold laws_markIntSF at H
  refine Tr.rs ?_
  refine LAt.runU tOk 1 (by kernel_rfl) ?_
  refine LAt.doneU [4, 0, 1] [] (by kernel_rfl) ?_
  refine Tr.seq ?_
  refine Tr.rs ?_
  refine LAt.runU tOk 1 (by kernel_rfl) ?_
  refine LAt.doneU [5, 4, 0, 1] [] (by kernel_rfl) ?_
  obtain ⟨o6, eo6, Ho6⟩ := bind_some H
  clear H
  refine Tr.mid (ι := (List Int) × Int) (fun v => ⟨19, 1, [(4, .val false [.lit (.int .i64 0)]), (0, .val false [.sl true 1 (v.1.map intRow)]), (1, .val false [.lit (.int .i64 v.2)])], []⟩) (fun v => laws_markIntS_J1 n v.1 v.2 = some r) ?_ ?_
  · refine Tr.block ?_
    refine Tr.loop (ι := Nat × (Int × (List Int) × Int)) (fun v => ⟨19, 1, [(5, .val false [.lit (.int .i64 v.2.1)]), (4, .val false [.lit (.int .i64 0)]), (0, .val false [.sl true 1 (v.2.2.1.map intRow)]), (1, .val false [.lit (.int .i64 v.2.2.2)])], []⟩) (fun v => laws_markIntS_L2 n v.1 v.2.1 v.2.2.1 v.2.2.2 = some o6) (fun v => v.1) (n, (0, x0, x1)) eo6 (St.sub_of [5, 4, 0, 1] [] (by kernel_rfl)) ?_
    rintro ⟨mo6, y1, y2, y3⟩ H
    have H : laws_markIntS_L2 n mo6 y1 y2 y3 = some o6 := H
    obtain _ | mo6 := mo6
    · cases (show (none : Option _) = some o6 from H)
    · rw [laws_markIntS_L2] at H
      refine Tr.seq ?_
      refine Tr.rs ?_
      refine LAt.runU tOk 2 (by kernel_rfl) ?_
      refine LAt.lenE tOk (t := 33) (ty := 3) (e := 3) (x := (.tmp 7)) (d := 8) (g := none) ⟨(.slot 0), [], 0, true, 1, (y2.map intRow)⟩ (y2).length _ (by kernel_rfl) (by kernel_rfl) (by kernel_rfl) (by kernel_rfl) (by kernel_rfl) (map_len _ _) rfl ?_
      refine LAt.runU tOk 1 (by kernel_rfl) ?_
      refine LAt.doneU [9, 8, 7, 6, 5, 4, 0, 1] [] (by kernel_rfl) ?_
      refine Tr.to ⟨19, 1, [(9, .val false [.lit (.bool (decide (y1 < (y2.length : Int))))]), (8, .val false [.lit (.int .i64 (y2.length : Int))]), (7, .ref (.slot 0) [] 0 0 1 false), (6, .val false [.lit (.int .i64 y1)]), (5, .val false [.lit (.int .i64 y1)]), (4, .val false [.lit (.int .i64 0)]), (0, .val false [.sl true 1 (y2.map intRow)]), (1, .val false [.lit (.int .i64 y3)])], []⟩ (by kernel_rfl) ?_
      cases h1 : (decide (y1 < (y2.length : Int)))
      · rw [h1, cond_false] at H
        refine Tr.cond (b := false) (by kernel_rfl) (fun h => nomatch h) (fun _ => ?_)
        refine Tr.exit ?_
        refine And.intro (fun _ => ?_) (fun h => absurd rfl h)
        have H := Option.some.inj H
        subst H
        have H := Ho6
        dsimp only at H
        exact Exists.intro (y2, y3) (And.intro H (St.sub_of [4, 0, 1] [] (by kernel_rfl)))
      · rw [h1, cond_true] at H
        refine Tr.cond (b := true) (by kernel_rfl) (fun _ => ?_) (fun h => nomatch h)
        refine Tr.skip ?_
        show Tr _ _ _ _ _
        refine Tr.seq ?_
        refine Tr.block ?_
        refine Tr.rs ?_
        refine LAt.runU tOk 3 (by kernel_rfl) ?_
        obtain ⟨v7, ev7, H⟩ := bind_some H
        refine LAt.indexO tOk (t := 33) (ty := 0) (x := (.tmp 12)) (y := (.tmp 13)) (d := 15) (g := none) ⟨(.slot 0), [], 0, true, 1, (y2.map intRow)⟩ y1 (y1.toNat) (intRow v7) _ (by kernel_rfl) (by kernel_rfl) (by kernel_rfl) (by kernel_rfl) rfl (by kernel_rfl) (idx_isE ev7) rfl rfl ?_
        refine LAt.storeU tOk (t := 3) (ty := 0) (ad := (.tmp 15)) (x := (.tmp 14)) (g := none) ⟨.int .i64, 1, 8, [.lit (.int .i64 0)]⟩ false [.lit (.int .i64 y3)] (.slot 0) [(0, (y1.toNat))] [(0, (y1.toNat))] 1 0 [.sl true 1 (y2.map intRow)] (intRow v7) [.sl true 1 (y2.map intRow)] [.sl true 1 ((y2.set (y1.toNat) y3).map intRow)] (by kernel_rfl) (by kernel_rfl) (by kernel_rfl) (by kernel_rfl) (by kernel_rfl) (by kernel_rfl) (getQ_elem rfl (idx_get ev7).2) rfl (by intro h; cases h) (by kernel_rfl) (by kernel_rfl) (by kernel_rfl) (modQ_elem (new := y3) rfl (idx_get ev7).2 rfl) (by kernel_rfl) ?_
        refine LAt.doneU [0, 15, 14, 13, 9, 8, 6, 5, 4, 1] [] (by kernel_rfl) ?_
        refine Tr.at ?_
        refine LAt.runU tOk 3 (by kernel_rfl) ?_
        refine LAt.doneU [1, 17, 16, 0, 15, 14, 13, 9, 8, 6, 5, 4] [] (by kernel_rfl) ?_
        show Tr _ _ _ _ _
        refine Tr.at ?_
        refine LAt.runU tOk 3 (by kernel_rfl) ?_
        refine LAt.doneU [5, 11, 10, 1, 17, 16, 0, 15, 14, 13, 9, 8, 6, 4] [] (by kernel_rfl) ?_
        exact Exists.intro (mo6, ((IntKind.wrap .i64 (y1 + 1)), (y2.set (y1.toNat) y3), (IntKind.wrap .i64 (y3 + 1)))) (And.intro H (And.intro (Nat.lt_succ_self mo6) (St.sub_of [5, 4, 0, 1] [] (by kernel_rfl))))
  · rintro ⟨y4, y5⟩ H
    have H : (laws_markIntS_J1 n y4 y5) = some r := H
    unfold laws_markIntS_J1 at H
    show Tr _ _ _ _ _
    refine Tr.rs ?_
    refine LAt.runU tOk 2 (by kernel_rfl) ?_
    refine LAt.doneU [4, 0] [] (by kernel_rfl) ?_
    refine Tr.ret ?_
    have H := Option.some.inj H
    subst H
    exact Fin.ofY _ [(false, [.lit (.int .i64 y5)])] [false] _ [[.sl true 1 (y4.map intRow)]] _ [] (by kernel_rfl) rfl rfl rfl (by kernel_rfl) (by kernel_rfl) (by kernel_rfl) (by kernel_rfl) rfl rfl rfl

def laws_markVtabF (n : Nat) (x0 : Vtab) (x1 : Int) : Option (Int × Vtab) :=
  ((laws_markVrowSF n x0.Rows x1).bind fun r1 => ((laws_markIntSF n x0.Pvid r1.1).bind fun r2 => (some (r2.1, (⟨r1.2, r2.2⟩ : Vtab)))))
/-- loop.example/g00326/laws.markVtab -/
theorem laws_markVtab (n : Nat) (x0 : Vtab) (x1 : Int) (r : Int × Vtab) (H : laws_markVtabF n x0 x1 = some r) : LCall Try.prog 24 [.io true (Vtab.row x0), .val false [.lit (.int .i64 x1)]] [.val false [.lit (.int .i64 r.1)]] [(0, (Vtab.row r.2))] := by
  refine LCall.of_body tOk Try.func24 rfl (c := (.seq (.region 0 (rg Try.f24 0) false) (.seq (.region 1 (rg Try.f24 1) false) (.seq (.region 2 (rg Try.f24 2) false) (.seq (.region 3 (rg Try.f24 3) false) .ret))))) (by kernel_rfl) (Nat.le_of_ble_eq_true (by kernel_rfl)) 1 (rs := [.tmp 4]) rfl [0] (by decide) [(false, [.lit (.int .i64 r.1)])] [(Vtab.row r.2)] [] fun cx => ?_
  show Tr _ _ _ ⟨14, 1, [(0, .val true (Vtab.row x0)), (1, .val false [.lit (.int .i64 x1)])], []⟩ _
  unfold laws_markVtabF at H
  refine Tr.rs ?_
  refine LAt.boxK (T := lk tab) (t := 40) (ty := 0) (x := 0) (d := 2) (g := none) true (Vtab.row x0) (by kernel_rfl) (by kernel_rfl) (by kernel_rfl) (by kernel_rfl) (by kernel_rfl) (by kernel_rfl) ?_
  refine LAt.runU tOk 1 (by kernel_rfl) ?_
  refine LAt.doneU [4, 0, 2, 1] [2] (by kernel_rfl) ?_
  refine Tr.rs ?_
  refine LAt.runU tOk 3 (by kernel_rfl) ?_
  obtain ⟨r1, er1, H⟩ := bind_some H
  refine LAt.callL tOk [.lend, .rd] (f := 65) (av := #[.tmp 6, .tmp 7]) (ats := #[38, 3]) (d := (some 8)) (ty := 3) (g := none) (by kernel_rfl) (by kernel_rfl) (by kernel_rfl) [] (laws_markVrowS n x0.Rows x1 r1 er1) (by kernel_rfl) (.inl rfl) ?_
  refine LAt.runU tOk 1 (by kernel_rfl) ?_
  refine LAt.doneU [1, 4, 2, 0] [2] (by kernel_rfl) ?_
  refine Tr.rs ?_
  refine LAt.runU tOk 3 (by kernel_rfl) ?_
  obtain ⟨r2, er2, H⟩ := bind_some H
  refine LAt.callL tOk [.lend, .rd] (f := 66) (av := #[.tmp 10, .tmp 11]) (ats := #[33, 3]) (d := (some 12)) (ty := 3) (g := none) (by kernel_rfl) (by kernel_rfl) (by kernel_rfl) [] (laws_markIntS n x0.Pvid r1.1 r2 er2) (by kernel_rfl) (.inl rfl) ?_
  refine LAt.runU tOk 1 (by kernel_rfl) ?_
  refine LAt.doneU [1, 4, 0] [2] (by kernel_rfl) ?_
  refine Tr.rs ?_
  refine LAt.runU tOk 2 (by kernel_rfl) ?_
  refine LAt.doneU [4, 0] [2] (by kernel_rfl) ?_
  refine Tr.ret ?_
  have H := Option.some.inj H
  subst H
  exact Fin.ofY _ [(false, [.lit (.int .i64 r2.1)])] [true] _ [[.sl true 3 (r1.2.map Vrow.row), .sl true 1 (r2.2.map intRow)]] _ [] (by kernel_rfl) rfl rfl rfl (by kernel_rfl) (by kernel_rfl) (by kernel_rfl) (by kernel_rfl) rfl rfl rfl

def laws_heldVrowS_J1 (n : Nat) (y3 : Int) : Option (Int) :=
  (some y3)
def laws_heldVrowS_L2 (n : Nat) : Nat → (List Vrow) → Int → Int → Option ((Int) ⊕ (Int))
  | 0, _, _, _ => none
  | mo4 + 1, x0, y1, y2 => (bif (decide (y1 < (x0.length : Int))) then ((idx x0 y1).bind fun v5 => (bif (v5.Id != y2) then (some (Sum.inr (-1))) else ((idx x0 y1).bind fun v6 => (bif (v6.Members != (IntKind.wrap .i64 (y2 + 1))) then (some (Sum.inr (-1))) else ((idx x0 y1).bind fun v7 => (bif (v7.Bare != (IntKind.wrap .i64 ((IntKind.wrap .i64 (y2 + 1)) + 1))) then (some (Sum.inr (-1))) else (laws_heldVrowS_L2 n mo4 x0 (IntKind.wrap .i64 (y1 + 1)) (IntKind.wrap .i64 ((IntKind.wrap .i64 ((IntKind.wrap .i64 (y2 + 1)) + 1)) + 1))))))))) else (some (Sum.inl y2)))
def laws_heldVrowSF (n : Nat) (x0 : (List Vrow)) (x1 : Int) : Option (Int) :=
  ((laws_heldVrowS_L2 n n x0 0 x1).bind fun o => match o with | .inl y3 => (laws_heldVrowS_J1 n y3) | .inr r => some r)
/-- loop.example/g00326/laws.heldVrowS -/
theorem laws_heldVrowS (n : Nat) (x0 : (List Vrow)) (x1 : Int) (r : Int) (H : laws_heldVrowSF n x0 x1 = some r) : LCall Try.prog 67 [.val false [.sl false 3 (CV.frzEs (x0.map Vrow.row))], .val false [.lit (.int .i64 x1)]] [.val false [.lit (.int .i64 r)]] [] := by
  refine LCall.of_body tOk Try.func67 rfl (c := (.seq (.region 0 (rg Try.f67 0) false) (.seq (.seq (.region 1 (rg Try.f67 1) false) (.block 0 (.loop (.seq (.seq (.region 2 (rg Try.f67 2) false) (.cond (.tmp 9) .skip (.exit 0))) (.seq (.block 1 (.seq (.seq (.region 4 (rg Try.f67 4) false) (.cond (.tmp 18) (.seq (.region 5 (rg Try.f67 5) false) .ret) .skip)) (.seq (.region 6 (rg Try.f67 6) false) (.seq (.seq (.region 7 (rg Try.f67 7) false) (.cond (.tmp 27) (.seq (.region 8 (rg Try.f67 8) false) .ret) .skip)) (.seq (.region 9 (rg Try.f67 9) false) (.seq (.seq (.region 10 (rg Try.f67 10) false) (.cond (.tmp 36) (.seq (.region 11 (rg Try.f67 11) false) .ret) .skip)) (.region 12 (rg Try.f67 12) false))))))) (.region 3 (rg Try.f67 3) false)))))) (.seq (.region 13 (rg Try.f67 13) false) .ret)))) (by kernel_rfl) (Nat.le_of_ble_eq_true (by kernel_rfl)) 0 (rs := [.tmp 4]) rfl [] .nil [(false, [.lit (.int .i64 r)])] [] [] fun cx => ?_
  show Tr _ _ _ ⟨40, 0, [(0, .val false [.sl false 3 (CV.frzEs (x0.map Vrow.row))]), (1, .val false [.lit (.int .i64 x1)])], []⟩ _
  unfold laws_heldVrowSF at H
  refine Tr.rs ?_
  refine LAt.runU tOk 1 (by kernel_rfl) ?_
  refine LAt.doneU [4, 0, 1] [] (by kernel_rfl) ?_
  refine Tr.seq ?_
  refine Tr.rs ?_
  refine LAt.runU tOk 1 (by kernel_rfl) ?_
  refine LAt.doneU [5, 4, 0, 1] [] (by kernel_rfl) ?_
  obtain ⟨o4, eo4, Ho4⟩ := bind_some H
  clear H
  refine Tr.mid (ι := Int) (fun v => ⟨40, 0, [(4, .val false [.lit (.int .i64 0)]), (1, .val false [.lit (.int .i64 v)])], []⟩) (fun v => laws_heldVrowS_J1 n v = some r) ?_ ?_
  · refine Tr.block ?_
    refine Tr.loop (ι := Nat × (Int × Int)) (fun v => ⟨40, 0, [(5, .val false [.lit (.int .i64 v.2.1)]), (4, .val false [.lit (.int .i64 0)]), (0, .val false [.sl false 3 (CV.frzEs (x0.map Vrow.row))]), (1, .val false [.lit (.int .i64 v.2.2)])], []⟩) (fun v => laws_heldVrowS_L2 n v.1 x0 v.2.1 v.2.2 = some o4) (fun v => v.1) (n, (0, x1)) eo4 (St.sub_of [5, 4, 0, 1] [] (by kernel_rfl)) ?_
    rintro ⟨mo4, y1, y2⟩ H
    have H : laws_heldVrowS_L2 n mo4 x0 y1 y2 = some o4 := H
    obtain _ | mo4 := mo4
    · cases (show (none : Option _) = some o4 from H)
    · rw [laws_heldVrowS_L2] at H
      refine Tr.seq ?_
      refine Tr.rs ?_
      refine LAt.runU tOk 2 (by kernel_rfl) ?_
      refine LAt.lenE tOk (t := 38) (ty := 3) (e := 81) (x := (.tmp 7)) (d := 8) (g := none) ⟨(.slot 7), [], 0, false, 3, (CV.frzEs (x0.map Vrow.row))⟩ (x0).length _ (by kernel_rfl) (by kernel_rfl) (by kernel_rfl) (by kernel_rfl) (by kernel_rfl) (frz_len _ _) rfl ?_
      refine LAt.runU tOk 1 (by kernel_rfl) ?_
      refine LAt.doneU [9, 8, 7, 6, 5, 4, 0, 1] [] (by kernel_rfl) ?_
      refine Tr.to ⟨40, 0, [(9, .val false [.lit (.bool (decide (y1 < (x0.length : Int))))]), (8, .val false [.lit (.int .i64 (x0.length : Int))]), (7, .val false [.sl false 3 (CV.frzEs (x0.map Vrow.row))]), (6, .val false [.lit (.int .i64 y1)]), (5, .val false [.lit (.int .i64 y1)]), (4, .val false [.lit (.int .i64 0)]), (0, .val false [.sl false 3 (CV.frzEs (x0.map Vrow.row))]), (1, .val false [.lit (.int .i64 y2)])], []⟩ (by kernel_rfl) ?_
      cases h1 : (decide (y1 < (x0.length : Int)))
      · rw [h1, cond_false] at H
        refine Tr.cond (b := false) (by kernel_rfl) (fun h => nomatch h) (fun _ => ?_)
        refine Tr.exit ?_
        refine And.intro (fun _ => ?_) (fun h => absurd rfl h)
        have H := Option.some.inj H
        subst H
        have H := Ho4
        dsimp only at H
        exact Exists.intro y2 (And.intro H (St.sub_of [4, 1] [] (by kernel_rfl)))
      · rw [h1, cond_true] at H
        refine Tr.cond (b := true) (by kernel_rfl) (fun _ => ?_) (fun h => nomatch h)
        refine Tr.skip ?_
        show Tr _ _ _ _ _
        refine Tr.seq ?_
        refine Tr.block ?_
        refine Tr.seq ?_
        refine Tr.rs ?_
        refine LAt.runU tOk 2 (by kernel_rfl) ?_
        obtain ⟨v5, ev5, H⟩ := bind_some H
        refine LAt.indexF tOk (t := 38) (ty := 0) (x := (.tmp 12)) (y := (.tmp 13)) (d := 14) (g := none) ⟨(.slot 12), [], 0, false, 3, (CV.frzEs (x0.map Vrow.row))⟩ y1 (Vrow.row v5) _ (by kernel_rfl) (by kernel_rfl) (by kernel_rfl) (by kernel_rfl) rfl (idx_isF ev5) rfl ?_
        refine LAt.runU tOk 4 (by kernel_rfl) ?_
        refine LAt.doneU [18, 17, 16, 15, 14, 13, 12, 9, 8, 7, 6, 5, 4, 0, 1] [] (by kernel_rfl) ?_
        refine Tr.to ⟨40, 0, [(18, .val false [.lit (.bool (v5.Id != y2))]), (17, .val false [.lit (.int .i64 y2)]), (16, .val false [.lit (.int .i64 v5.Id)]), (15, .fad ((Vrow.row v5))), (14, .fad ((Vrow.row v5))), (13, .val false [.lit (.int .i64 y1)]), (12, .val false [.sl false 3 (CV.frzEs (x0.map Vrow.row))]), (9, .val false [.lit (.bool true)]), (8, .val false [.lit (.int .i64 (x0.length : Int))]), (7, .val false [.sl false 3 (CV.frzEs (x0.map Vrow.row))]), (6, .val false [.lit (.int .i64 y1)]), (5, .val false [.lit (.int .i64 y1)]), (4, .val false [.lit (.int .i64 0)]), (0, .val false [.sl false 3 (CV.frzEs (x0.map Vrow.row))]), (1, .val false [.lit (.int .i64 y2)])], []⟩ (by kernel_rfl) ?_
        cases h2 : (v5.Id != y2)
        · rw [h2, cond_false] at H
          refine Tr.cond (b := false) (by kernel_rfl) (fun h => nomatch h) (fun _ => ?_)
          refine Tr.skip ?_
          show Tr _ _ _ _ _
          refine Tr.rs ?_
          refine LAt.runU tOk 3 (by kernel_rfl) ?_
          refine LAt.doneU [1, 20, 19, 18, 17, 16, 15, 14, 13, 12, 9, 8, 7, 6, 5, 4, 0] [] (by kernel_rfl) ?_
          refine Tr.seq ?_
          refine Tr.rs ?_
          refine LAt.runU tOk 2 (by kernel_rfl) ?_
          obtain ⟨v6, ev6, H⟩ := bind_some H
          refine LAt.indexF tOk (t := 38) (ty := 0) (x := (.tmp 21)) (y := (.tmp 22)) (d := 23) (g := none) ⟨(.slot 21), [], 0, false, 3, (CV.frzEs (x0.map Vrow.row))⟩ y1 (Vrow.row v6) _ (by kernel_rfl) (by kernel_rfl) (by kernel_rfl) (by kernel_rfl) rfl (idx_isF ev6) rfl ?_
          refine LAt.runU tOk 4 (by kernel_rfl) ?_
          refine LAt.doneU [27, 26, 25, 24, 23, 22, 21, 1, 20, 19, 18, 17, 16, 15, 14, 13, 12, 9, 8, 7, 6, 5, 4, 0] [] (by kernel_rfl) ?_
          refine Tr.to ⟨40, 0, [(27, .val false [.lit (.bool (v6.Members != (IntKind.wrap .i64 (y2 + 1))))]), (26, .val false [.lit (.int .i64 (IntKind.wrap .i64 (y2 + 1)))]), (25, .val false [.lit (.int .i64 v6.Members)]), (24, .fad (((Vrow.row v6).drop 1))), (23, .fad ((Vrow.row v6))), (22, .val false [.lit (.int .i64 y1)]), (21, .val false [.sl false 3 (CV.frzEs (x0.map Vrow.row))]), (1, .val false [.lit (.int .i64 (IntKind.wrap .i64 (y2 + 1)))]), (20, .val false [.lit (.int .i64 (IntKind.wrap .i64 (y2 + 1)))]), (19, .val false [.lit (.int .i64 y2)]), (18, .val false [.lit (.bool false)]), (17, .val false [.lit (.int .i64 y2)]), (16, .val false [.lit (.int .i64 v5.Id)]), (15, .fad ((Vrow.row v5))), (14, .fad ((Vrow.row v5))), (13, .val false [.lit (.int .i64 y1)]), (12, .val false [.sl false 3 (CV.frzEs (x0.map Vrow.row))]), (9, .val false [.lit (.bool true)]), (8, .val false [.lit (.int .i64 (x0.length : Int))]), (7, .val false [.sl false 3 (CV.frzEs (x0.map Vrow.row))]), (6, .val false [.lit (.int .i64 y1)]), (5, .val false [.lit (.int .i64 y1)]), (4, .val false [.lit (.int .i64 0)]), (0, .val false [.sl false 3 (CV.frzEs (x0.map Vrow.row))])], []⟩ (by kernel_rfl) ?_
          cases h3 : (v6.Members != (IntKind.wrap .i64 (y2 + 1)))
          · rw [h3, cond_false] at H
            refine Tr.cond (b := false) (by kernel_rfl) (fun h => nomatch h) (fun _ => ?_)
            refine Tr.skip ?_
            show Tr _ _ _ _ _
            refine Tr.rs ?_
            refine LAt.runU tOk 3 (by kernel_rfl) ?_
            refine LAt.doneU [1, 29, 28, 27, 26, 25, 24, 23, 22, 21, 20, 19, 18, 17, 16, 15, 14, 13, 12, 9, 8, 7, 6, 5, 4, 0] [] (by kernel_rfl) ?_
            refine Tr.seq ?_
            refine Tr.rs ?_
            refine LAt.runU tOk 2 (by kernel_rfl) ?_
            obtain ⟨v7, ev7, H⟩ := bind_some H
            refine LAt.indexF tOk (t := 38) (ty := 0) (x := (.tmp 30)) (y := (.tmp 31)) (d := 32) (g := none) ⟨(.slot 30), [], 0, false, 3, (CV.frzEs (x0.map Vrow.row))⟩ y1 (Vrow.row v7) _ (by kernel_rfl) (by kernel_rfl) (by kernel_rfl) (by kernel_rfl) rfl (idx_isF ev7) rfl ?_
            refine LAt.runU tOk 4 (by kernel_rfl) ?_
            refine LAt.doneU [36, 35, 34, 33, 32, 31, 30, 1, 29, 28, 27, 26, 25, 24, 23, 22, 21, 20, 19, 18, 17, 16, 15, 14, 13, 12, 9, 8, 7, 6, 5, 4, 0] [] (by kernel_rfl) ?_
            refine Tr.to ⟨40, 0, [(36, .val false [.lit (.bool (v7.Bare != (IntKind.wrap .i64 ((IntKind.wrap .i64 (y2 + 1)) + 1))))]), (35, .val false [.lit (.int .i64 (IntKind.wrap .i64 ((IntKind.wrap .i64 (y2 + 1)) + 1)))]), (34, .val false [.lit (.int .i64 v7.Bare)]), (33, .fad ([.lit (.int .i64 v7.Bare)])), (32, .fad ((Vrow.row v7))), (31, .val false [.lit (.int .i64 y1)]), (30, .val false [.sl false 3 (CV.frzEs (x0.map Vrow.row))]), (1, .val false [.lit (.int .i64 (IntKind.wrap .i64 ((IntKind.wrap .i64 (y2 + 1)) + 1)))]), (29, .val false [.lit (.int .i64 (IntKind.wrap .i64 ((IntKind.wrap .i64 (y2 + 1)) + 1)))]), (28, .val false [.lit (.int .i64 (IntKind.wrap .i64 (y2 + 1)))]), (27, .val false [.lit (.bool false)]), (26, .val false [.lit (.int .i64 (IntKind.wrap .i64 (y2 + 1)))]), (25, .val false [.lit (.int .i64 v6.Members)]), (24, .fad (((Vrow.row v6).drop 1))), (23, .fad ((Vrow.row v6))), (22, .val false [.lit (.int .i64 y1)]), (21, .val false [.sl false 3 (CV.frzEs (x0.map Vrow.row))]), (20, .val false [.lit (.int .i64 (IntKind.wrap .i64 (y2 + 1)))]), (19, .val false [.lit (.int .i64 y2)]), (18, .val false [.lit (.bool false)]), (17, .val false [.lit (.int .i64 y2)]), (16, .val false [.lit (.int .i64 v5.Id)]), (15, .fad ((Vrow.row v5))), (14, .fad ((Vrow.row v5))), (13, .val false [.lit (.int .i64 y1)]), (12, .val false [.sl false 3 (CV.frzEs (x0.map Vrow.row))]), (9, .val false [.lit (.bool true)]), (8, .val false [.lit (.int .i64 (x0.length : Int))]), (7, .val false [.sl false 3 (CV.frzEs (x0.map Vrow.row))]), (6, .val false [.lit (.int .i64 y1)]), (5, .val false [.lit (.int .i64 y1)]), (4, .val false [.lit (.int .i64 0)]), (0, .val false [.sl false 3 (CV.frzEs (x0.map Vrow.row))])], []⟩ (by kernel_rfl) ?_
            cases h4 : (v7.Bare != (IntKind.wrap .i64 ((IntKind.wrap .i64 (y2 + 1)) + 1)))
            · rw [h4, cond_false] at H
              refine Tr.cond (b := false) (by kernel_rfl) (fun h => nomatch h) (fun _ => ?_)
              refine Tr.skip ?_
              show Tr _ _ _ _ _
              refine Tr.at ?_
              refine LAt.runU tOk 3 (by kernel_rfl) ?_
              refine LAt.doneU [1, 38, 37, 36, 35, 34, 33, 32, 31, 30, 29, 28, 27, 26, 25, 24, 23, 22, 21, 20, 19, 18, 17, 16, 15, 14, 13, 12, 9, 8, 7, 6, 5, 4, 0] [] (by kernel_rfl) ?_
              show Tr _ _ _ _ _
              refine Tr.at ?_
              refine LAt.runU tOk 3 (by kernel_rfl) ?_
              refine LAt.doneU [5, 11, 10, 1, 38, 37, 36, 35, 34, 33, 32, 31, 30, 29, 28, 27, 26, 25, 24, 23, 22, 21, 20, 19, 18, 17, 16, 15, 14, 13, 12, 9, 8, 7, 6, 4, 0] [] (by kernel_rfl) ?_
              exact Exists.intro (mo4, ((IntKind.wrap .i64 (y1 + 1)), (IntKind.wrap .i64 ((IntKind.wrap .i64 ((IntKind.wrap .i64 (y2 + 1)) + 1)) + 1)))) (And.intro H (And.intro (Nat.lt_succ_self mo4) (St.sub_of [5, 4, 0, 1] [] (by kernel_rfl))))
            · rw [h4, cond_true] at H
              refine Tr.cond (b := true) (by kernel_rfl) (fun _ => ?_) (fun h => nomatch h)
              refine Tr.rs ?_
              refine LAt.runU tOk 1 (by kernel_rfl) ?_
              refine LAt.doneU [4, 36, 35, 34, 33, 32, 31, 30, 1, 29, 28, 27, 26, 25, 24, 23, 22, 21, 20, 19, 18, 17, 16, 15, 14, 13, 12, 9, 8, 7, 6, 5, 0] [] (by kernel_rfl) ?_
              refine Tr.ret ?_
              have H := Option.some.inj H
              subst H
              have H := Ho4
              dsimp only at H
              have H := Option.some.inj H
              subst H
              exact Fin.of _ [(false, [.lit (.int .i64 (-1))])] (by kernel_rfl) rfl rfl
          · rw [h3, cond_true] at H
            refine Tr.cond (b := true) (by kernel_rfl) (fun _ => ?_) (fun h => nomatch h)
            refine Tr.rs ?_
            refine LAt.runU tOk 1 (by kernel_rfl) ?_
            refine LAt.doneU [4, 27, 26, 25, 24, 23, 22, 21, 1, 20, 19, 18, 17, 16, 15, 14, 13, 12, 9, 8, 7, 6, 5, 0] [] (by kernel_rfl) ?_
            refine Tr.ret ?_
            have H := Option.some.inj H
            subst H
            have H := Ho4
            dsimp only at H
            have H := Option.some.inj H
            subst H
            exact Fin.of _ [(false, [.lit (.int .i64 (-1))])] (by kernel_rfl) rfl rfl
        · rw [h2, cond_true] at H
          refine Tr.cond (b := true) (by kernel_rfl) (fun _ => ?_) (fun h => nomatch h)
          refine Tr.rs ?_
          refine LAt.runU tOk 1 (by kernel_rfl) ?_
          refine LAt.doneU [4, 18, 17, 16, 15, 14, 13, 12, 9, 8, 7, 6, 5, 0, 1] [] (by kernel_rfl) ?_
          refine Tr.ret ?_
          have H := Option.some.inj H
          subst H
          have H := Ho4
          dsimp only at H
          have H := Option.some.inj H
          subst H
          exact Fin.of _ [(false, [.lit (.int .i64 (-1))])] (by kernel_rfl) rfl rfl
  · rintro y3 H
    have H : (laws_heldVrowS_J1 n y3) = some r := H
    unfold laws_heldVrowS_J1 at H
    show Tr _ _ _ _ _
    refine Tr.rs ?_
    refine LAt.runU tOk 2 (by kernel_rfl) ?_
    refine LAt.doneU [4] [] (by kernel_rfl) ?_
    refine Tr.ret ?_
    have H := Option.some.inj H
    subst H
    exact Fin.of _ [(false, [.lit (.int .i64 y3)])] (by kernel_rfl) rfl rfl

def laws_heldIntS_J1 (n : Nat) (y3 : Int) : Option (Int) :=
  (some y3)
def laws_heldIntS_L2 (n : Nat) : Nat → (List Int) → Int → Int → Option ((Int) ⊕ (Int))
  | 0, _, _, _ => none
  | mo4 + 1, x0, y1, y2 => (bif (decide (y1 < (x0.length : Int))) then ((idx x0 y1).bind fun v5 => (bif (v5 != y2) then (some (Sum.inr (-1))) else (laws_heldIntS_L2 n mo4 x0 (IntKind.wrap .i64 (y1 + 1)) (IntKind.wrap .i64 (y2 + 1))))) else (some (Sum.inl y2)))
def laws_heldIntSF (n : Nat) (x0 : (List Int)) (x1 : Int) : Option (Int) :=
  ((laws_heldIntS_L2 n n x0 0 x1).bind fun o => match o with | .inl y3 => (laws_heldIntS_J1 n y3) | .inr r => some r)
/-- loop.example/g00326/laws.heldIntS -/
theorem laws_heldIntS (n : Nat) (x0 : (List Int)) (x1 : Int) (r : Int) (H : laws_heldIntSF n x0 x1 = some r) : LCall Try.prog 68 [.val false [.sl false 1 (CV.frzEs (x0.map intRow))], .val false [.lit (.int .i64 x1)]] [.val false [.lit (.int .i64 r)]] [] := by
  refine LCall.of_body tOk Try.func68 rfl (c := (.seq (.region 0 (rg Try.f68 0) false) (.seq (.seq (.region 1 (rg Try.f68 1) false) (.block 0 (.loop (.seq (.seq (.region 2 (rg Try.f68 2) false) (.cond (.tmp 9) .skip (.exit 0))) (.seq (.block 1 (.seq (.seq (.region 4 (rg Try.f68 4) false) (.cond (.tmp 17) (.seq (.region 5 (rg Try.f68 5) false) .ret) .skip)) (.region 6 (rg Try.f68 6) false))) (.region 3 (rg Try.f68 3) false)))))) (.seq (.region 7 (rg Try.f68 7) false) .ret)))) (by kernel_rfl) (Nat.le_of_ble_eq_true (by kernel_rfl)) 0 (rs := [.tmp 4]) rfl [] .nil [(false, [.lit (.int .i64 r)])] [] [] fun cx => ?_
  show Tr _ _ _ ⟨21, 0, [(0, .val false [.sl false 1 (CV.frzEs (x0.map intRow))]), (1, .val false [.lit (.int .i64 x1)])], []⟩ _
  unfold laws_heldIntSF at H
  refine Tr.rs ?_
  refine LAt.runU tOk 1 (by kernel_rfl) ?_
  refine LAt.doneU [4, 0, 1] [] (by kernel_rfl) ?_
  refine Tr.seq ?_
  refine Tr.rs ?_
  refine LAt.runU tOk 1 (by kernel_rfl) ?_
  refine LAt.doneU [5, 4, 0, 1] [] (by kernel_rfl) ?_
  obtain ⟨o4, eo4, Ho4⟩ := bind_some H
  clear H
  refine Tr.mid (ι := Int) (fun v => ⟨21, 0, [(4, .val false [.lit (.int .i64 0)]), (1, .val false [.lit (.int .i64 v)])], []⟩) (fun v => laws_heldIntS_J1 n v = some r) ?_ ?_
  · refine Tr.block ?_
    refine Tr.loop (ι := Nat × (Int × Int)) (fun v => ⟨21, 0, [(5, .val false [.lit (.int .i64 v.2.1)]), (4, .val false [.lit (.int .i64 0)]), (0, .val false [.sl false 1 (CV.frzEs (x0.map intRow))]), (1, .val false [.lit (.int .i64 v.2.2)])], []⟩) (fun v => laws_heldIntS_L2 n v.1 x0 v.2.1 v.2.2 = some o4) (fun v => v.1) (n, (0, x1)) eo4 (St.sub_of [5, 4, 0, 1] [] (by kernel_rfl)) ?_
    rintro ⟨mo4, y1, y2⟩ H
    have H : laws_heldIntS_L2 n mo4 x0 y1 y2 = some o4 := H
    obtain _ | mo4 := mo4
    · cases (show (none : Option _) = some o4 from H)
    · rw [laws_heldIntS_L2] at H
      refine Tr.seq ?_
      refine Tr.rs ?_
      refine LAt.runU tOk 2 (by kernel_rfl) ?_
      refine LAt.lenE tOk (t := 33) (ty := 3) (e := 3) (x := (.tmp 7)) (d := 8) (g := none) ⟨(.slot 7), [], 0, false, 1, (CV.frzEs (x0.map intRow))⟩ (x0).length _ (by kernel_rfl) (by kernel_rfl) (by kernel_rfl) (by kernel_rfl) (by kernel_rfl) (frz_len _ _) rfl ?_
      refine LAt.runU tOk 1 (by kernel_rfl) ?_
      refine LAt.doneU [9, 8, 7, 6, 5, 4, 0, 1] [] (by kernel_rfl) ?_
      refine Tr.to ⟨21, 0, [(9, .val false [.lit (.bool (decide (y1 < (x0.length : Int))))]), (8, .val false [.lit (.int .i64 (x0.length : Int))]), (7, .val false [.sl false 1 (CV.frzEs (x0.map intRow))]), (6, .val false [.lit (.int .i64 y1)]), (5, .val false [.lit (.int .i64 y1)]), (4, .val false [.lit (.int .i64 0)]), (0, .val false [.sl false 1 (CV.frzEs (x0.map intRow))]), (1, .val false [.lit (.int .i64 y2)])], []⟩ (by kernel_rfl) ?_
      cases h1 : (decide (y1 < (x0.length : Int)))
      · rw [h1, cond_false] at H
        refine Tr.cond (b := false) (by kernel_rfl) (fun h => nomatch h) (fun _ => ?_)
        refine Tr.exit ?_
        refine And.intro (fun _ => ?_) (fun h => absurd rfl h)
        have H := Option.some.inj H
        subst H
        have H := Ho4
        dsimp only at H
        exact Exists.intro y2 (And.intro H (St.sub_of [4, 1] [] (by kernel_rfl)))
      · rw [h1, cond_true] at H
        refine Tr.cond (b := true) (by kernel_rfl) (fun _ => ?_) (fun h => nomatch h)
        refine Tr.skip ?_
        show Tr _ _ _ _ _
        refine Tr.seq ?_
        refine Tr.block ?_
        refine Tr.seq ?_
        refine Tr.rs ?_
        refine LAt.runU tOk 2 (by kernel_rfl) ?_
        obtain ⟨v5, ev5, H⟩ := bind_some H
        refine LAt.indexF tOk (t := 33) (ty := 0) (x := (.tmp 12)) (y := (.tmp 13)) (d := 14) (g := none) ⟨(.slot 12), [], 0, false, 1, (CV.frzEs (x0.map intRow))⟩ y1 [.lit (.int .i64 v5)] _ (by kernel_rfl) (by kernel_rfl) (by kernel_rfl) (by kernel_rfl) rfl (idx_isF ev5) rfl ?_
        refine LAt.runU tOk 3 (by kernel_rfl) ?_
        refine LAt.doneU [17, 16, 15, 14, 13, 12, 9, 8, 7, 6, 5, 4, 0, 1] [] (by kernel_rfl) ?_
        refine Tr.to ⟨21, 0, [(17, .val false [.lit (.bool (v5 != y2))]), (16, .val false [.lit (.int .i64 y2)]), (15, .val false [.lit (.int .i64 v5)]), (14, .fad ([.lit (.int .i64 v5)])), (13, .val false [.lit (.int .i64 y1)]), (12, .val false [.sl false 1 (CV.frzEs (x0.map intRow))]), (9, .val false [.lit (.bool true)]), (8, .val false [.lit (.int .i64 (x0.length : Int))]), (7, .val false [.sl false 1 (CV.frzEs (x0.map intRow))]), (6, .val false [.lit (.int .i64 y1)]), (5, .val false [.lit (.int .i64 y1)]), (4, .val false [.lit (.int .i64 0)]), (0, .val false [.sl false 1 (CV.frzEs (x0.map intRow))]), (1, .val false [.lit (.int .i64 y2)])], []⟩ (by kernel_rfl) ?_
        cases h2 : (v5 != y2)
        · rw [h2, cond_false] at H
          refine Tr.cond (b := false) (by kernel_rfl) (fun h => nomatch h) (fun _ => ?_)
          refine Tr.skip ?_
          show Tr _ _ _ _ _
          refine Tr.at ?_
          refine LAt.runU tOk 3 (by kernel_rfl) ?_
          refine LAt.doneU [1, 19, 18, 17, 16, 15, 14, 13, 12, 9, 8, 7, 6, 5, 4, 0] [] (by kernel_rfl) ?_
          show Tr _ _ _ _ _
          refine Tr.at ?_
          refine LAt.runU tOk 3 (by kernel_rfl) ?_
          refine LAt.doneU [5, 11, 10, 1, 19, 18, 17, 16, 15, 14, 13, 12, 9, 8, 7, 6, 4, 0] [] (by kernel_rfl) ?_
          exact Exists.intro (mo4, ((IntKind.wrap .i64 (y1 + 1)), (IntKind.wrap .i64 (y2 + 1)))) (And.intro H (And.intro (Nat.lt_succ_self mo4) (St.sub_of [5, 4, 0, 1] [] (by kernel_rfl))))
        · rw [h2, cond_true] at H
          refine Tr.cond (b := true) (by kernel_rfl) (fun _ => ?_) (fun h => nomatch h)
          refine Tr.rs ?_
          refine LAt.runU tOk 1 (by kernel_rfl) ?_
          refine LAt.doneU [4, 17, 16, 15, 14, 13, 12, 9, 8, 7, 6, 5, 0, 1] [] (by kernel_rfl) ?_
          refine Tr.ret ?_
          have H := Option.some.inj H
          subst H
          have H := Ho4
          dsimp only at H
          have H := Option.some.inj H
          subst H
          exact Fin.of _ [(false, [.lit (.int .i64 (-1))])] (by kernel_rfl) rfl rfl
  · rintro y3 H
    have H : (laws_heldIntS_J1 n y3) = some r := H
    unfold laws_heldIntS_J1 at H
    show Tr _ _ _ _ _
    refine Tr.rs ?_
    refine LAt.runU tOk 2 (by kernel_rfl) ?_
    refine LAt.doneU [4] [] (by kernel_rfl) ?_
    refine Tr.ret ?_
    have H := Option.some.inj H
    subst H
    exact Fin.of _ [(false, [.lit (.int .i64 y3)])] (by kernel_rfl) rfl rfl

def laws_heldVtabF (n : Nat) (x0 : Vtab) (x1 : Int) : Option (Int) :=
  ((laws_heldVrowSF n x0.Rows x1).bind fun r1 => (bif (decide (r1 < 0)) then (some (-1)) else ((laws_heldIntSF n x0.Pvid r1).bind fun r2 => (bif (decide (r2 < 0)) then (some (-1)) else (some r2)))))
/-- loop.example/g00326/laws.heldVtab -/
theorem laws_heldVtab (n : Nat) (x0 : Vtab) (x1 : Int) (r : Int) (H : laws_heldVtabF n x0 x1 = some r) : LCall Try.prog 25 [.val true (CV.frzRow (Vtab.row x0)), .val false [.lit (.int .i64 x1)]] [.val false [.lit (.int .i64 r)]] [] := by
  refine LCall.of_body tOk Try.func25 rfl (c := (.seq (.region 0 (rg Try.f25 0) false) (.seq (.region 1 (rg Try.f25 1) false) (.seq (.seq (.region 2 (rg Try.f25 2) false) (.cond (.tmp 10) (.seq (.region 3 (rg Try.f25 3) false) .ret) .skip)) (.seq (.region 4 (rg Try.f25 4) false) (.seq (.seq (.region 5 (rg Try.f25 5) false) (.cond (.tmp 16) (.seq (.region 6 (rg Try.f25 6) false) .ret) .skip)) (.seq (.region 7 (rg Try.f25 7) false) .ret))))))) (by kernel_rfl) (Nat.le_of_ble_eq_true (by kernel_rfl)) 0 (rs := [.tmp 4]) rfl [] .nil [(false, [.lit (.int .i64 r)])] [] [] fun cx => ?_
  show Tr _ _ _ ⟨18, 0, [(0, .val true (CV.frzRow (Vtab.row x0))), (1, .val false [.lit (.int .i64 x1)])], []⟩ _
  unfold laws_heldVtabF at H
  refine Tr.rs ?_
  refine LAt.runU tOk 2 (by kernel_rfl) ?_
  refine LAt.doneU [4, 2, 1] [2] (by kernel_rfl) ?_
  refine Tr.rs ?_
  refine LAt.runU tOk 3 (by kernel_rfl) ?_
  obtain ⟨r1, er1, H⟩ := bind_some H
  refine LAt.callU tOk [.rd, .rd] (f := 67) (av := #[.tmp 6, .tmp 7]) (ats := #[38, 3]) (d := (some 8)) (ty := 3) (g := none) (by kernel_rfl) (by kernel_rfl) (by kernel_rfl) [] (laws_heldVrowS n x0.Rows x1 r1 er1) (by kernel_rfl) (.inl rfl) ?_
  refine LAt.runU tOk 1 (by kernel_rfl) ?_
  refine LAt.doneU [1, 4, 2] [2] (by kernel_rfl) ?_
  refine Tr.seq ?_
  refine Tr.rs ?_
  refine LAt.runU tOk 2 (by kernel_rfl) ?_
  refine LAt.doneU [10, 1, 4, 2] [2] (by kernel_rfl) ?_
  refine Tr.to ⟨18, 0, [(10, .val false [.lit (.bool (decide (r1 < 0)))]), (1, .val false [.lit (.int .i64 r1)]), (4, .val false [.lit (.int .i64 0)]), (2, .adr (.box 2) [(0, 0)] 2 0)], [(2, (CV.frzRow (Vtab.row x0)))]⟩ (by kernel_rfl) ?_
  cases h1 : (decide (r1 < 0))
  · rw [h1, cond_false] at H
    refine Tr.cond (b := false) (by kernel_rfl) (fun h => nomatch h) (fun _ => ?_)
    refine Tr.skip ?_
    show Tr _ _ _ _ _
    refine Tr.rs ?_
    refine LAt.runU tOk 3 (by kernel_rfl) ?_
    obtain ⟨r2, er2, H⟩ := bind_some H
    refine LAt.callU tOk [.rd, .rd] (f := 68) (av := #[.tmp 12, .tmp 13]) (ats := #[33, 3]) (d := (some 14)) (ty := 3) (g := none) (by kernel_rfl) (by kernel_rfl) (by kernel_rfl) [] (laws_heldIntS n x0.Pvid r1 r2 er2) (by kernel_rfl) (.inl rfl) ?_
    refine LAt.runU tOk 1 (by kernel_rfl) ?_
    refine LAt.doneU [1, 4] [] (by kernel_rfl) ?_
    refine Tr.seq ?_
    refine Tr.rs ?_
    refine LAt.runU tOk 2 (by kernel_rfl) ?_
    refine LAt.doneU [16, 1, 4] [] (by kernel_rfl) ?_
    refine Tr.to ⟨18, 0, [(16, .val false [.lit (.bool (decide (r2 < 0)))]), (1, .val false [.lit (.int .i64 r2)]), (4, .val false [.lit (.int .i64 0)])], []⟩ (by kernel_rfl) ?_
    cases h2 : (decide (r2 < 0))
    · rw [h2, cond_false] at H
      refine Tr.cond (b := false) (by kernel_rfl) (fun h => nomatch h) (fun _ => ?_)
      refine Tr.skip ?_
      show Tr _ _ _ _ _
      refine Tr.rs ?_
      refine LAt.runU tOk 2 (by kernel_rfl) ?_
      refine LAt.doneU [4] [] (by kernel_rfl) ?_
      refine Tr.ret ?_
      have H := Option.some.inj H
      subst H
      exact Fin.of _ [(false, [.lit (.int .i64 r2)])] (by kernel_rfl) rfl rfl
    · rw [h2, cond_true] at H
      refine Tr.cond (b := true) (by kernel_rfl) (fun _ => ?_) (fun h => nomatch h)
      refine Tr.rs ?_
      refine LAt.runU tOk 1 (by kernel_rfl) ?_
      refine LAt.doneU [4, 1] [] (by kernel_rfl) ?_
      refine Tr.ret ?_
      have H := Option.some.inj H
      subst H
      exact Fin.of _ [(false, [.lit (.int .i64 (-1))])] (by kernel_rfl) rfl rfl
  · rw [h1, cond_true] at H
    refine Tr.cond (b := true) (by kernel_rfl) (fun _ => ?_) (fun h => nomatch h)
    refine Tr.rs ?_
    refine LAt.runU tOk 1 (by kernel_rfl) ?_
    refine LAt.doneU [4, 1, 2] [2] (by kernel_rfl) ?_
    refine Tr.ret ?_
    have H := Option.some.inj H
    subst H
    exact Fin.of _ [(false, [.lit (.int .i64 (-1))])] (by kernel_rfl) rfl rfl

def laws_FnExactVtabNewF (n : Nat) (x0 : Int) : Option (Bool) :=
  ((spec_VtabNewF n x0).bind fun r1 => ((impl_VtabNewF n x0).bind fun r2 => ((laws_eqVtabF n r2 r1).bind fun r3 => (bif (!r3) then (some false) else ((laws_markVtabF n r2 1).bind fun r4 => ((laws_heldVtabF n r4.2 1).bind fun r5 => (bif (decide (r5 < 0)) then (some false) else (bif (r5 != r4.1) then (some false) else ((impl_VtabNewF n x0).bind fun r6 => ((laws_eqVtabF n r6 r1).bind fun r7 => (bif (!r7) then (some false) else ((laws_heldVtabF n r4.2 1).bind fun r8 => (bif (decide (r8 < 0)) then (some false) else (bif (r8 != r4.1) then (some false) else (some true)))))))))))))))
/-- loop.example/g00326/laws.FnExactVtabNew -/
theorem laws_FnExactVtabNew (n : Nat) (x0 : Int) (r : Bool) (H : laws_FnExactVtabNewF n x0 = some r) : LCall Try.prog 5 [.val false [.lit (.int .i64 x0)]] [.val false [.lit (.bool r)]] [] := by
  refine LCall.of_body tOk Try.func5 rfl (c := (.seq (.region 0 (rg Try.f5 0) false) (.seq (.region 1 (rg Try.f5 1) false) (.seq (.region 2 (rg Try.f5 2) false) (.seq (.seq (.region 3 (rg Try.f5 3) false) (.cond (.tmp 15) (.seq (.region 4 (rg Try.f5 4) false) .ret) .skip)) (.seq (.region 5 (rg Try.f5 5) false) (.seq (.region 6 (rg Try.f5 6) false) (.seq (.region 7 (rg Try.f5 7) false) (.seq (.region 8 (rg Try.f5 8) false) (.seq (.seq (.region 9 (rg Try.f5 9) false) (.cond (.tmp 23) (.seq (.region 10 (rg Try.f5 10) false) .ret) .skip)) (.seq (.seq (.region 11 (rg Try.f5 11) false) (.cond (.tmp 26) (.seq (.region 12 (rg Try.f5 12) false) .ret) .skip)) (.seq (.region 13 (rg Try.f5 13) false) (.seq (.seq (.region 14 (rg Try.f5 14) false) (.cond (.tmp 32) (.seq (.region 15 (rg Try.f5 15) false) .ret) .skip)) (.seq (.region 16 (rg Try.f5 16) false) (.seq (.region 17 (rg Try.f5 17) false) (.seq (.seq (.region 18 (rg Try.f5 18) false) (.cond (.tmp 37) (.seq (.region 19 (rg Try.f5 19) false) .ret) .skip)) (.seq (.seq (.region 20 (rg Try.f5 20) false) (.cond (.tmp 40) (.seq (.region 21 (rg Try.f5 21) false) .ret) .skip)) (.seq (.region 22 (rg Try.f5 22) false) .ret)))))))))))))))))) (by kernel_rfl) (Nat.le_of_ble_eq_true (by kernel_rfl)) 0 (rs := [.tmp 2]) rfl [] .nil [(false, [.lit (.bool r)])] [] [] fun cx => ?_
  show Tr _ _ _ ⟨41, 0, [(0, .val false [.lit (.int .i64 x0)])], []⟩ _
  unfold laws_FnExactVtabNewF at H
  refine Tr.rs ?_
  refine LAt.runU tOk 1 (by kernel_rfl) ?_
  refine LAt.doneU [2, 0] [] (by kernel_rfl) ?_
  refine Tr.rs ?_
  refine LAt.runU tOk 1 (by kernel_rfl) ?_
  obtain ⟨r1, er1, H⟩ := bind_some H
  refine LAt.callU tOk [.rd] (f := 22) (av := #[.tmp 8]) (ats := #[3]) (d := (some 9)) (ty := 40) (g := none) (by kernel_rfl) (by kernel_rfl) (by kernel_rfl) [] (spec_VtabNew n x0 r1 er1) (by kernel_rfl) (.inl rfl) ?_
  refine LAt.runU tOk 2 (by kernel_rfl) ?_
  refine LAt.doneU [3, 2, 0] [3] (by kernel_rfl) ?_
  refine Tr.rs ?_
  refine LAt.runU tOk 1 (by kernel_rfl) ?_
  obtain ⟨r2, er2, H⟩ := bind_some H
  refine LAt.callU tOk [.rd] (f := 23) (av := #[.tmp 10]) (ats := #[3]) (d := (some 11)) (ty := 40) (g := none) (by kernel_rfl) (by kernel_rfl) (by kernel_rfl) [] (impl_VtabNew n x0 r2 er2) (by kernel_rfl) (.inl rfl) ?_
  refine LAt.runU tOk 2 (by kernel_rfl) ?_
  refine LAt.doneU [4, 3, 2, 0] [4, 3] (by kernel_rfl) ?_
  refine Tr.seq ?_
  refine Tr.rs ?_
  refine LAt.runU tOk 2 (by kernel_rfl) ?_
  obtain ⟨r3, er3, H⟩ := bind_some H
  refine LAt.callU tOk [.rd, .rd] (f := 21) (av := #[.tmp 12, .tmp 13]) (ats := #[40, 40]) (d := (some 14)) (ty := 4) (g := none) (by kernel_rfl) (by kernel_rfl) (by kernel_rfl) [.box 4, .box 3] (laws_eqVtab n r2 r1 r3 er3) (by kernel_rfl) (.inr (rets_cons (mine_cons mine_lit mine_nil) rets_nil)) ?_
  refine LAt.runU tOk 1 (by kernel_rfl) ?_
  refine LAt.doneU [15, 4, 3, 2, 0] [4, 3] (by kernel_rfl) ?_
  refine Tr.to ⟨41, 0, [(15, .val false [.lit (.bool (!r3))]), (4, .adr (.box 4) [(0, 0)] 2 0), (3, .adr (.box 3) [(0, 0)] 2 0), (2, .val false [.lit (.bool false)]), (0, .val false [.lit (.int .i64 x0)])], [(4, (Vtab.row r2)), (3, (Vtab.row r1))]⟩ (by kernel_rfl) ?_
  cases h1 : (!r3)
  · rw [h1, cond_false] at H
    refine Tr.cond (b := false) (by kernel_rfl) (fun h => nomatch h) (fun _ => ?_)
    refine Tr.skip ?_
    show Tr _ _ _ _ _
    refine Tr.rs ?_
    refine LAt.runU tOk 1 (by kernel_rfl) ?_
    refine LAt.doneU [5, 4, 3, 2, 0] [4, 3] (by kernel_rfl) ?_
    refine Tr.rs ?_
    refine LAt.runU tOk 2 (by kernel_rfl) ?_
    obtain ⟨r4, er4, H⟩ := bind_some H
    refine LAt.callL tOk [.lend, .rd] (f := 24) (av := #[.tmp 16, .tmp 17]) (ats := #[40, 3]) (d := (some 18)) (ty := 3) (g := none) (by kernel_rfl) (by kernel_rfl) (by kernel_rfl) [] (laws_markVtab n r2 1 r4 er4) (by kernel_rfl) (.inl rfl) ?_
    refine LAt.runU tOk 1 (by kernel_rfl) ?_
    refine LAt.doneU [5, 4, 3, 2, 0] [4, 3] (by kernel_rfl) ?_
    refine Tr.rs ?_
    refine LAt.runU tOk 1 (by kernel_rfl) ?_
    refine LAt.doneU [6, 5, 4, 3, 2, 0] [4, 3] (by kernel_rfl) ?_
    refine Tr.rs ?_
    refine LAt.runU tOk 2 (by kernel_rfl) ?_
    obtain ⟨r5, er5, H⟩ := bind_some H
    refine LAt.callU tOk [.rd, .rd] (f := 25) (av := #[.tmp 19, .tmp 20]) (ats := #[40, 3]) (d := (some 21)) (ty := 3) (g := none) (by kernel_rfl) (by kernel_rfl) (by kernel_rfl) [.box 4] (laws_heldVtab n r4.2 1 r5 er5) (by kernel_rfl) (.inr (rets_cons (mine_cons mine_lit mine_nil) rets_nil)) ?_
    refine LAt.runU tOk 1 (by kernel_rfl) ?_
    refine LAt.doneU [6, 5, 4, 3, 2, 0] [4, 3] (by kernel_rfl) ?_
    refine Tr.seq ?_
    refine Tr.rs ?_
    refine LAt.runU tOk 2 (by kernel_rfl) ?_
    refine LAt.doneU [23, 6, 5, 4, 3, 2, 0] [4, 3] (by kernel_rfl) ?_
    refine Tr.to ⟨41, 0, [(23, .val false [.lit (.bool (decide (r5 < 0)))]), (6, .val false [.lit (.int .i64 r5)]), (5, .val false [.lit (.int .i64 r4.1)]), (4, .adr (.box 4) [(0, 0)] 2 0), (3, .adr (.box 3) [(0, 0)] 2 0), (2, .val false [.lit (.bool false)]), (0, .val false [.lit (.int .i64 x0)])], [(4, (Vtab.row r4.2)), (3, (Vtab.row r1))]⟩ (by kernel_rfl) ?_
    cases h2 : (decide (r5 < 0))
    · rw [h2, cond_false] at H
      refine Tr.cond (b := false) (by kernel_rfl) (fun h => nomatch h) (fun _ => ?_)
      refine Tr.skip ?_
      show Tr _ _ _ _ _
      refine Tr.seq ?_
      refine Tr.rs ?_
      refine LAt.runU tOk 3 (by kernel_rfl) ?_
      refine LAt.doneU [26, 6, 5, 4, 3, 2, 0] [4, 3] (by kernel_rfl) ?_
      refine Tr.to ⟨41, 0, [(26, .val false [.lit (.bool (r5 != r4.1))]), (6, .val false [.lit (.int .i64 r5)]), (5, .val false [.lit (.int .i64 r4.1)]), (4, .adr (.box 4) [(0, 0)] 2 0), (3, .adr (.box 3) [(0, 0)] 2 0), (2, .val false [.lit (.bool false)]), (0, .val false [.lit (.int .i64 x0)])], [(4, (Vtab.row r4.2)), (3, (Vtab.row r1))]⟩ (by kernel_rfl) ?_
      cases h3 : (r5 != r4.1)
      · rw [h3, cond_false] at H
        refine Tr.cond (b := false) (by kernel_rfl) (fun h => nomatch h) (fun _ => ?_)
        refine Tr.skip ?_
        show Tr _ _ _ _ _
        refine Tr.rs ?_
        refine LAt.runU tOk 1 (by kernel_rfl) ?_
        obtain ⟨r6, er6, H⟩ := bind_some H
        refine LAt.callU tOk [.rd] (f := 23) (av := #[.tmp 27]) (ats := #[3]) (d := (some 28)) (ty := 40) (g := none) (by kernel_rfl) (by kernel_rfl) (by kernel_rfl) [] (impl_VtabNew n x0 r6 er6) (by kernel_rfl) (.inl rfl) ?_
        refine LAt.runU tOk 2 (by kernel_rfl) ?_
        refine LAt.doneU [7, 6, 5, 4, 3, 2] [7, 4, 3] (by kernel_rfl) ?_
        refine Tr.seq ?_
        refine Tr.rs ?_
        refine LAt.runU tOk 2 (by kernel_rfl) ?_
        obtain ⟨r7, er7, H⟩ := bind_some H
        refine LAt.callU tOk [.rd, .rd] (f := 21) (av := #[.tmp 29, .tmp 30]) (ats := #[40, 40]) (d := (some 31)) (ty := 4) (g := none) (by kernel_rfl) (by kernel_rfl) (by kernel_rfl) [.box 7, .box 3] (laws_eqVtab n r6 r1 r7 er7) (by kernel_rfl) (.inr (rets_cons (mine_cons mine_lit mine_nil) rets_nil)) ?_
        refine LAt.runU tOk 1 (by kernel_rfl) ?_
        refine LAt.doneU [32, 6, 5, 4, 2] [4] (by kernel_rfl) ?_
        refine Tr.to ⟨41, 0, [(32, .val false [.lit (.bool (!r7))]), (6, .val false [.lit (.int .i64 r5)]), (5, .val false [.lit (.int .i64 r4.1)]), (4, .adr (.box 4) [(0, 0)] 2 0), (2, .val false [.lit (.bool false)])], [(4, (Vtab.row r4.2))]⟩ (by kernel_rfl) ?_
        cases h4 : (!r7)
        · rw [h4, cond_false] at H
          refine Tr.cond (b := false) (by kernel_rfl) (fun h => nomatch h) (fun _ => ?_)
          refine Tr.skip ?_
          show Tr _ _ _ _ _
          refine Tr.rs ?_
          refine LAt.runU tOk 1 (by kernel_rfl) ?_
          refine LAt.doneU [6, 5, 4, 2] [4] (by kernel_rfl) ?_
          refine Tr.rs ?_
          refine LAt.runU tOk 2 (by kernel_rfl) ?_
          obtain ⟨r8, er8, H⟩ := bind_some H
          refine LAt.callU tOk [.rd, .rd] (f := 25) (av := #[.tmp 33, .tmp 34]) (ats := #[40, 3]) (d := (some 35)) (ty := 3) (g := none) (by kernel_rfl) (by kernel_rfl) (by kernel_rfl) [.box 4] (laws_heldVtab n r4.2 1 r8 er8) (by kernel_rfl) (.inr (rets_cons (mine_cons mine_lit mine_nil) rets_nil)) ?_
          refine LAt.runU tOk 1 (by kernel_rfl) ?_
          refine LAt.doneU [6, 5, 2] [] (by kernel_rfl) ?_
          refine Tr.seq ?_
          refine Tr.rs ?_
          refine LAt.runU tOk 2 (by kernel_rfl) ?_
          refine LAt.doneU [37, 6, 5, 2] [] (by kernel_rfl) ?_
          refine Tr.to ⟨41, 0, [(37, .val false [.lit (.bool (decide (r8 < 0)))]), (6, .val false [.lit (.int .i64 r8)]), (5, .val false [.lit (.int .i64 r4.1)]), (2, .val false [.lit (.bool false)])], []⟩ (by kernel_rfl) ?_
          cases h5 : (decide (r8 < 0))
          · rw [h5, cond_false] at H
            refine Tr.cond (b := false) (by kernel_rfl) (fun h => nomatch h) (fun _ => ?_)
            refine Tr.skip ?_
            show Tr _ _ _ _ _
            refine Tr.seq ?_
            refine Tr.rs ?_
            refine LAt.runU tOk 3 (by kernel_rfl) ?_
            refine LAt.doneU [40, 2] [] (by kernel_rfl) ?_
            refine Tr.to ⟨41, 0, [(40, .val false [.lit (.bool (r8 != r4.1))]), (2, .val false [.lit (.bool false)])], []⟩ (by kernel_rfl) ?_
            cases h6 : (r8 != r4.1)
            · rw [h6, cond_false] at H
              refine Tr.cond (b := false) (by kernel_rfl) (fun h => nomatch h) (fun _ => ?_)
              refine Tr.skip ?_
              show Tr _ _ _ _ _
              refine Tr.rs ?_
              refine LAt.runU tOk 1 (by kernel_rfl) ?_
              refine LAt.doneU [2] [] (by kernel_rfl) ?_
              refine Tr.ret ?_
              have H := Option.some.inj H
              subst H
              exact Fin.of _ [(false, [.lit (.bool true)])] (by kernel_rfl) rfl rfl
            · rw [h6, cond_true] at H
              refine Tr.cond (b := true) (by kernel_rfl) (fun _ => ?_) (fun h => nomatch h)
              refine Tr.rs ?_
              refine LAt.runU tOk 1 (by kernel_rfl) ?_
              refine LAt.doneU [2] [] (by kernel_rfl) ?_
              refine Tr.ret ?_
              have H := Option.some.inj H
              subst H
              exact Fin.of _ [(false, [.lit (.bool false)])] (by kernel_rfl) rfl rfl
          · rw [h5, cond_true] at H
            refine Tr.cond (b := true) (by kernel_rfl) (fun _ => ?_) (fun h => nomatch h)
            refine Tr.rs ?_
            refine LAt.runU tOk 1 (by kernel_rfl) ?_
            refine LAt.doneU [2, 6, 5] [] (by kernel_rfl) ?_
            refine Tr.ret ?_
            have H := Option.some.inj H
            subst H
            exact Fin.of _ [(false, [.lit (.bool false)])] (by kernel_rfl) rfl rfl
        · rw [h4, cond_true] at H
          refine Tr.cond (b := true) (by kernel_rfl) (fun _ => ?_) (fun h => nomatch h)
          refine Tr.rs ?_
          refine LAt.runU tOk 1 (by kernel_rfl) ?_
          refine LAt.doneU [2, 6, 5, 4] [4] (by kernel_rfl) ?_
          refine Tr.ret ?_
          have H := Option.some.inj H
          subst H
          exact Fin.of _ [(false, [.lit (.bool false)])] (by kernel_rfl) rfl rfl
      · rw [h3, cond_true] at H
        refine Tr.cond (b := true) (by kernel_rfl) (fun _ => ?_) (fun h => nomatch h)
        refine Tr.rs ?_
        refine LAt.runU tOk 1 (by kernel_rfl) ?_
        refine LAt.doneU [2, 6, 5, 4, 3, 0] [4, 3] (by kernel_rfl) ?_
        refine Tr.ret ?_
        have H := Option.some.inj H
        subst H
        exact Fin.of _ [(false, [.lit (.bool false)])] (by kernel_rfl) rfl rfl
    · rw [h2, cond_true] at H
      refine Tr.cond (b := true) (by kernel_rfl) (fun _ => ?_) (fun h => nomatch h)
      refine Tr.rs ?_
      refine LAt.runU tOk 1 (by kernel_rfl) ?_
      refine LAt.doneU [2, 6, 5, 4, 3, 0] [4, 3] (by kernel_rfl) ?_
      refine Tr.ret ?_
      have H := Option.some.inj H
      subst H
      exact Fin.of _ [(false, [.lit (.bool false)])] (by kernel_rfl) rfl rfl
  · rw [h1, cond_true] at H
    refine Tr.cond (b := true) (by kernel_rfl) (fun _ => ?_) (fun h => nomatch h)
    refine Tr.rs ?_
    refine LAt.runU tOk 1 (by kernel_rfl) ?_
    refine LAt.doneU [2, 4, 3, 0] [4, 3] (by kernel_rfl) ?_
    refine Tr.ret ?_
    have H := Option.some.inj H
    subst H
    exact Fin.of _ [(false, [.lit (.bool false)])] (by kernel_rfl) rfl rfl
end Go.Proofs.Ytnhmckiejhbmcaa.Tw
