/- Functions of the program, over trees. -/
import Derived.Test.YtnhmckiejhbmcaaProg
import Derived.Test.YtnhmckiejhbmcaaTlRule
import Derived.Test.YtnhmckiejhbmcaaTlU3
import Derived.Test.YtnhmckiejhbmcaaTwFC0
import Derived.WalkKit
set_option linter.unusedVariables false
set_option linter.unusedSimpArgs false
set_option maxRecDepth 100000
set_option maxHeartbeats 1000000
namespace Go.Proofs.Ytnhmckiejhbmcaa.Tw
open Go Go.TL Go.Proofs


def spec_l9Row_J1 (n : Nat) (x0 : Vtab) (x1 : Vrow) (y5 : Bool) (y6 : (List Vrow)) : Option (Vtab) :=
  (bif (!y5) then (bif (decide (y6.length + [x1].length ≤ 268435456)) then (some (⟨(y6 ++ [x1]), (([] : List Int) ++ x0.Pvid)⟩ : Vtab)) else none) else (some (⟨y6, (([] : List Int) ++ x0.Pvid)⟩ : Vtab)))
def spec_l9Row_J3 (n : Nat) (k : (Int × Bool × (List Vrow) → Option ((Bool × (List Vrow)) ⊕ (Vtab)))) (x0 : Vtab) (x1 : Vrow) (y2 : Int) (y9 : Bool) (y10 : Bool) (y11 : Bool) (y12 : Bool) (y13 : (List Vrow)) : Option ((Bool × (List Vrow)) ⊕ (Vtab)) :=
  ((idx x0.Rows y2).bind fun v14 => (bif (v14.Id != x1.Id) then ((idx x0.Rows y2).bind fun v15 => (bif (decide (y13.length + [v15].length ≤ 268435456)) then (k ((IntKind.wrap .i64 (y2 + 1)), y12, (y13 ++ [v15]))) else none)) else (k ((IntKind.wrap .i64 (y2 + 1)), y12, y13))))
def spec_l9Row_L2 (n : Nat) : Nat → Vtab → Vrow → Int → Bool → (List Vrow) → Option ((Bool × (List Vrow)) ⊕ (Vtab))
  | 0, _, _, _, _, _ => none
  | mo8 + 1, x0, x1, y2, y3, y4 => (bif (decide (y2 < (x0.Rows.length : Int))) then (bif (!y3) then ((idx x0.Rows y2).bind fun v17 => (bif (decide (v17.Id ≥ x1.Id)) then (bif (decide (y4.length + [x1].length ≤ 268435456)) then (spec_l9Row_J3 n (fun v => spec_l9Row_L2 n mo8 x0 x1 v.1 v.2.1 v.2.2) x0 x1 y2 true true true true (y4 ++ [x1])) else none) else (spec_l9Row_J3 n (fun v => spec_l9Row_L2 n mo8 x0 x1 v.1 v.2.1 v.2.2) x0 x1 y2 false true true y3 y4))) else (spec_l9Row_J3 n (fun v => spec_l9Row_L2 n mo8 x0 x1 v.1 v.2.1 v.2.2) x0 x1 y2 false false false y3 y4)) else (some (Sum.inl (y3, y4))))
def spec_l9RowF (n : Nat) (x0 : Vtab) (x1 : Vrow) : Option (Vtab) :=
  (bif (decide (([] : List Int).length + x0.Pvid.length ≤ 268435456)) then ((spec_l9Row_L2 n n x0 x1 0 false ([] : List Vrow)).bind fun o => match o with | .inl (y5, y6) => (spec_l9Row_J1 n x0 x1 y5 y6) | .inr r => some r) else none)
/-- loop.example/g00326/spec.l9Row -/
theorem spec_l9Row (n : Nat) (x0 : Vtab) (x1 : Vrow) (r : Vtab) (H : spec_l9RowF n x0 x1 = some r) : LCall Try.prog 88 [.val true (CV.frzRow (Vtab.row x0)), .val true (CV.frzRow (Vrow.row x1))] [.val true (Vtab.row r)] [] := by
  refine LCall.of_body tOk Try.func88 rfl (c := (.seq (.region 0 (rg Try.f88 0) false) (.seq (.region 1 (rg Try.f88 1) false) (.seq (.region 2 (rg Try.f88 2) false) (.seq (.seq (.region 3 (rg Try.f88 3) false) (.block 0 (.loop (.seq (.seq (.region 4 (rg Try.f88 4) false) (.cond (.tmp 17) .skip (.exit 0))) (.seq (.block 1 (.seq (.seq (.region 6 (rg Try.f88 6) true) (.cond (.tmp 32) (.seq (.region 7 (rg Try.f88 7) false) (.region 8 (rg Try.f88 8) false)) .skip)) (.seq (.region 9 (rg Try.f88 9) true) (.cond (.tmp 47) (.region 10 (rg Try.f88 10) true) .skip)))) (.region 5 (rg Try.f88 5) false)))))) (.seq (.seq (.region 11 (rg Try.f88 11) false) (.cond (.tmp 59) (.region 12 (rg Try.f88 12) false) .skip)) (.seq (.region 13 (rg Try.f88 13) false) .ret))))))) (by kernel_rfl) (Nat.le_of_ble_eq_true (by kernel_rfl)) 0 (rs := [.cell 4 40]) rfl [] .nil [(true, (Vtab.row r))] [] [] fun cx => ?_
  show Tr _ _ _ ⟨67, 0, [(0, .val true (CV.frzRow (Vtab.row x0))), (1, .val true (Vrow.row x1))], []⟩ _
  unfold spec_l9RowF at H
  refine Tr.rs ?_
  refine LAt.runU tOk 3 (by kernel_rfl) ?_
  refine LAt.doneU [4, 3, 2] [4, 3, 2] (by kernel_rfl) ?_
  refine Tr.rs ?_
  refine LAt.runU tOk 3 (by kernel_rfl) ?_
  obtain ⟨hg1, H⟩ := guard_some H
  refine LAt.appCU tOk (t := 33) (ty := 33) (e := 3) (x := (.tmp 8)) (y := (.tmp 10)) (d := 11) (g := none) ⟨.int .i64, 1, 8, [.lit (.int .i64 0)]⟩ intRow ([] : List Int) x0.Pvid ⟨(.slot 10), [], 0, false, 1, (CV.frzEs (x0.Pvid.map intRow))⟩ (by kernel_rfl) (by kernel_rfl) (by kernel_rfl) (by kernel_rfl) (by kernel_rfl) (by kernel_rfl) (by kernel_rfl) (by kernel_rfl) (by kernel_rfl) (by kernel_rfl) (by kernel_rfl) (.inr rfl) (fun _ => rfl) (fun _ => rfl) hg1 ?_
  refine LAt.runU tOk 3 (by kernel_rfl) ?_
  refine LAt.doneU [5, 4, 3, 2] [5, 4, 3, 2] (by kernel_rfl) ?_
  refine Tr.rs ?_
  refine LAt.runU tOk 1 (by kernel_rfl) ?_
  refine LAt.doneU [6, 5, 4, 3, 2] [5, 4, 3, 2] (by kernel_rfl) ?_
  refine Tr.seq ?_
  refine Tr.rs ?_
  refine LAt.runU tOk 1 (by kernel_rfl) ?_
  refine LAt.doneU [7, 6, 5, 4, 3, 2] [5, 4, 3, 2] (by kernel_rfl) ?_
  obtain ⟨o8, eo8, Ho8⟩ := bind_some H
  clear H
  refine Tr.mid (ι := Bool × (List Vrow)) (fun v => ⟨67, 0, [(6, .val false [.lit (.bool v.1)]), (5, .adr (.box 5) [(0, 0)] 2 0), (4, .adr (.box 4) [(0, 0)] 2 0), (3, .adr (.box 3) [(0, 0)] 3 0)], [(5, [.sl true 3 (v.2.map Vrow.row), .sl true 1 ((([] : List Int) ++ x0.Pvid).map intRow)]), (4, [.sl true 3 (([] : List Vrow).map Vrow.row), .sl true 1 (([] : List Int).map intRow)]), (3, (Vrow.row x1))]⟩) (fun v => spec_l9Row_J1 n x0 x1 v.1 v.2 = some r) ?_ ?_
  · refine Tr.block ?_
    refine Tr.loop (ι := Nat × (Int × Bool × (List Vrow))) (fun v => ⟨67, 0, [(7, .val false [.lit (.int .i64 v.2.1)]), (6, .val false [.lit (.bool v.2.2.1)]), (5, .adr (.box 5) [(0, 0)] 2 0), (4, .adr (.box 4) [(0, 0)] 2 0), (3, .adr (.box 3) [(0, 0)] 3 0), (2, .adr (.box 2) [(0, 0)] 2 0)], [(5, [.sl true 3 (v.2.2.2.map Vrow.row), .sl true 1 ((([] : List Int) ++ x0.Pvid).map intRow)]), (4, [.sl true 3 (([] : List Vrow).map Vrow.row), .sl true 1 (([] : List Int).map intRow)]), (3, (Vrow.row x1)), (2, (CV.frzRow (Vtab.row x0)))]⟩) (fun v => spec_l9Row_L2 n v.1 x0 x1 v.2.1 v.2.2.1 v.2.2.2 = some o8) (fun v => v.1) (n, (0, false, ([] : List Vrow))) eo8 (St.sub_of [7, 6, 5, 4, 3, 2] [5, 4, 3, 2] (by kernel_rfl)) ?_
    rintro ⟨mo8, y2, y3, y4⟩ H
    have H : spec_l9Row_L2 n mo8 x0 x1 y2 y3 y4 = some o8 := H
    obtain _ | mo8 := mo8
    · cases (show (none : Option _) = some o8 from H)
    · rw [spec_l9Row_L2] at H
      refine Tr.seq ?_
      refine Tr.rs ?_
      refine LAt.runU tOk 3 (by kernel_rfl) ?_
      refine LAt.lenE tOk (t := 38) (ty := 3) (e := 81) (x := (.tmp 15)) (d := 16) (g := none) ⟨(.slot 15), [], 0, false, 3, (CV.frzEs (x0.Rows.map Vrow.row))⟩ (x0.Rows).length _ (by kernel_rfl) (by kernel_rfl) (by kernel_rfl) (by kernel_rfl) (by kernel_rfl) (frz_len _ _) rfl ?_
      refine LAt.runU tOk 1 (by kernel_rfl) ?_
      refine LAt.doneU [17, 16, 15, 14, 13, 7, 6, 5, 4, 3, 2] [5, 4, 3, 2] (by kernel_rfl) ?_
      refine Tr.to ⟨67, 0, [(17, .val false [.lit (.bool (decide (y2 < (x0.Rows.length : Int))))]), (16, .val false [.lit (.int .i64 (x0.Rows.length : Int))]), (15, .val false [.sl false 3 (CV.frzEs (x0.Rows.map Vrow.row))]), (14, .adr (.box 2) [(0, 0)] 2 0), (13, .val false [.lit (.int .i64 y2)]), (7, .val false [.lit (.int .i64 y2)]), (6, .val false [.lit (.bool y3)]), (5, .adr (.box 5) [(0, 0)] 2 0), (4, .adr (.box 4) [(0, 0)] 2 0), (3, .adr (.box 3) [(0, 0)] 3 0), (2, .adr (.box 2) [(0, 0)] 2 0)], [(5, [.sl true 3 (y4.map Vrow.row), .sl true 1 ((([] : List Int) ++ x0.Pvid).map intRow)]), (4, [.sl true 3 (([] : List Vrow).map Vrow.row), .sl true 1 (([] : List Int).map intRow)]), (3, (Vrow.row x1)), (2, (CV.frzRow (Vtab.row x0)))]⟩ (by kernel_rfl) ?_
      cases h2 : (decide (y2 < (x0.Rows.length : Int)))
      · have H := bifF h2 H
        refine Tr.cond (b := false) (by kernel_rfl) (fun h => nomatch h) (fun _ => ?_)
        refine Tr.exit ?_
        refine And.intro (fun _ => ?_) (fun h => absurd rfl h)
        have H := Option.some.inj H
        subst H
        have H := Ho8
        dsimp only at H
        exact Exists.intro (y3, y4) (And.intro H (St.sub_of [6, 5, 4, 3] [5, 4, 3] (by kernel_rfl)))
      · have H := bifT h2 H
        refine Tr.cond (b := true) (by kernel_rfl) (fun _ => ?_) (fun h => nomatch h)
        refine Tr.skip ?_
        show Tr _ _ _ _ _
        refine Tr.seq ?_
        refine Tr.block ?_
        refine Tr.seq ?_
        refine Tr.mid (ι := Bool × Bool × Bool × Bool × (List Vrow)) (fun v => ⟨67, 0, [(32, .val false [.lit (.bool v.1)]), (22, .val false [.lit (.bool v.2.1)]), (21, .val false [.lit (.bool v.2.2.1)]), (20, .val false [.lit (.bool y3)]), (17, .val false [.lit (.bool true)]), (16, .val false [.lit (.int .i64 (x0.Rows.length : Int))]), (15, .val false [.sl false 3 (CV.frzEs (x0.Rows.map Vrow.row))]), (14, .adr (.box 2) [(0, 0)] 2 0), (13, .val false [.lit (.int .i64 y2)]), (7, .val false [.lit (.int .i64 y2)]), (6, .val false [.lit (.bool v.2.2.2.1)]), (5, .adr (.box 5) [(0, 0)] 2 0), (4, .adr (.box 4) [(0, 0)] 2 0), (3, .adr (.box 3) [(0, 0)] 3 0), (2, .adr (.box 2) [(0, 0)] 2 0)], [(5, [.sl true 3 (v.2.2.2.2.map Vrow.row), .sl true 1 ((([] : List Int) ++ x0.Pvid).map intRow)]), (4, [.sl true 3 (([] : List Vrow).map Vrow.row), .sl true 1 (([] : List Int).map intRow)]), (3, (Vrow.row x1)), (2, (CV.frzRow (Vtab.row x0)))]⟩) (fun v => spec_l9Row_J3 n (fun v => spec_l9Row_L2 n mo8 x0 x1 v.1 v.2.1 v.2.2) x0 x1 y2 v.1 v.2.1 v.2.2.1 v.2.2.2.1 v.2.2.2.2 = some o8) ?_ ?_
        · refine Tr.seq ?_
          refine Tr.to ⟨67, 0, [(17, .val false [.lit (.bool true)]), (16, .val false [.lit (.int .i64 (x0.Rows.length : Int))]), (15, .val false [.sl false 3 (CV.frzEs (x0.Rows.map Vrow.row))]), (14, .adr (.box 2) [(0, 0)] 2 0), (13, .val false [.lit (.int .i64 y2)]), (7, .val false [.lit (.int .i64 y2)]), (6, .val false [.lit (.bool y3)]), (5, .adr (.box 5) [(0, 0)] 2 0), (4, .adr (.box 4) [(0, 0)] 2 0), (3, .adr (.box 3) [(0, 0)] 3 0), (2, .adr (.box 2) [(0, 0)] 2 0)], [(5, [.sl true 3 (y4.map Vrow.row), .sl true 1 ((([] : List Int) ++ x0.Pvid).map intRow)]), (4, [.sl true 3 (([] : List Vrow).map Vrow.row), .sl true 1 (([] : List Int).map intRow)]), (3, (Vrow.row x1)), (2, (CV.frzRow (Vtab.row x0)))]⟩ (by kernel_rfl) ?_
          cases h4 : (!y3)
          · have H := bifF h4 H
            refine Tr.draw mixed 13 (by kernel_rfl) ⟨67, 0, [(32, .val false [.lit (.bool false)]), (31, .tup []), (30, .tup []), (29, .tup []), (28, .tup []), (27, .tup []), (26, .tup []), (25, .tup []), (24, .tup []), (23, .tup []), (22, .val false [.lit (.bool false)]), (21, .val false [.lit (.bool false)]), (20, .val false [.lit (.bool y3)]), (17, .val false [.lit (.bool true)]), (16, .val false [.lit (.int .i64 (x0.Rows.length : Int))]), (15, .val false [.sl false 3 (CV.frzEs (x0.Rows.map Vrow.row))]), (14, .adr (.box 2) [(0, 0)] 2 0), (13, .val false [.lit (.int .i64 y2)]), (7, .val false [.lit (.int .i64 y2)]), (6, .val false [.lit (.bool y3)]), (5, .adr (.box 5) [(0, 0)] 2 0), (4, .adr (.box 4) [(0, 0)] 2 0), (3, .adr (.box 3) [(0, 0)] 3 0), (2, .adr (.box 2) [(0, 0)] 2 0)], [(5, [.sl true 3 (y4.map Vrow.row), .sl true 1 ((([] : List Int) ++ x0.Pvid).map intRow)]), (4, [.sl true 3 (([] : List Vrow).map Vrow.row), .sl true 1 (([] : List Int).map intRow)]), (3, (Vrow.row x1)), (2, (CV.frzRow (Vtab.row x0)))]⟩ (fun cx => ?_) ?_
            · refine AT.runU tOk [(0, []), (1, []), (2, [])] 10 [] [2, 1, 0] rfl (by kernel_rfl) (fun cx => ?_)
              refine AT.to ⟨67, 0, [(22, .val false [.lit (.bool (!y3))]), (21, .val false [.lit (.bool (!y3))]), (20, .val false [.lit (.bool y3)]), (17, .val false [.lit (.bool true)]), (16, .val false [.lit (.int .i64 (x0.Rows.length : Int))]), (15, .val false [.sl false 3 (CV.frzEs (x0.Rows.map Vrow.row))]), (14, .adr (.box 2) [(0, 0)] 2 0), (13, .val false [.lit (.int .i64 y2)]), (7, .val false [.lit (.int .i64 y2)]), (6, .val false [.lit (.bool y3)]), (5, .adr (.box 5) [(0, 0)] 2 0), (4, .adr (.box 4) [(0, 0)] 2 0), (3, .adr (.box 3) [(0, 0)] 3 0), (2, .adr (.box 2) [(0, 0)] 2 0)], [(5, [.sl true 3 (y4.map Vrow.row), .sl true 1 ((([] : List Int) ++ x0.Pvid).map intRow)]), (4, [.sl true 3 (([] : List Vrow).map Vrow.row), .sl true 1 (([] : List Int).map intRow)]), (3, (Vrow.row x1)), (2, (CV.frzRow (Vtab.row x0)))]⟩ (by kernel_rfl) ?_
              rw [h4]
              refine AT.runU tOk [(3, []), (4, []), (5, []), (6, []), (7, []), (8, []), (9, []), (10, []), (11, []), (12, [])] 0 [] [12, 11, 10, 9, 8, 7, 6, 5, 4, 3, 2, 1, 0] rfl (by kernel_rfl) (fun cx => ?_)
              exact AT.done [32, 31, 30, 29, 28, 27, 26, 25, 24, 23, 22, 21, 20, 17, 16, 15, 14, 13, 7, 6, 5, 4, 3, 2] [5, 4, 3, 2] _ (by kernel_rfl) (by kernel_rfl) rfl
            · show Tr _ _ _ _ _
              refine Tr.cond (b := false) (by kernel_rfl) (fun h => nomatch h) (fun _ => ?_)
              refine Tr.skip ?_
              exact Exists.intro (false, false, false, y3, y4) (And.intro H (St.sub_of [32, 22, 21, 20, 17, 16, 15, 14, 13, 7, 6, 5, 4, 3, 2] [5, 4, 3, 2] (by kernel_rfl)))
          · have H := bifT h4 H
            obtain ⟨v17, ev17, H⟩ := bind_some H
            refine Tr.draw mixed 13 (by kernel_rfl) ⟨67, 0, [(32, .val false [.lit (.bool (decide (v17.Id ≥ x1.Id)))]), (31, .val false [.lit (.bool (decide (v17.Id ≥ x1.Id)))]), (30, .val false [.lit (.int .i64 x1.Id)]), (29, .adr (.box 3) [(0, 0)] 3 0), (28, .val false [.lit (.int .i64 v17.Id)]), (27, .fad ((Vrow.row v17))), (26, .fad ((Vrow.row v17))), (25, .val false [.lit (.int .i64 y2)]), (24, .ref (.box 2) [(0, 0)] 2 0 1 false), (23, .adr (.box 2) [(0, 0)] 2 0), (22, .val false [.lit (.bool true)]), (21, .val false [.lit (.bool true)]), (20, .val false [.lit (.bool y3)]), (17, .val false [.lit (.bool true)]), (16, .val false [.lit (.int .i64 (x0.Rows.length : Int))]), (15, .val false [.sl false 3 (CV.frzEs (x0.Rows.map Vrow.row))]), (14, .adr (.box 2) [(0, 0)] 2 0), (13, .val false [.lit (.int .i64 y2)]), (7, .val false [.lit (.int .i64 y2)]), (6, .val false [.lit (.bool y3)]), (5, .adr (.box 5) [(0, 0)] 2 0), (4, .adr (.box 4) [(0, 0)] 2 0), (3, .adr (.box 3) [(0, 0)] 3 0), (2, .adr (.box 2) [(0, 0)] 2 0)], [(5, [.sl true 3 (y4.map Vrow.row), .sl true 1 ((([] : List Int) ++ x0.Pvid).map intRow)]), (4, [.sl true 3 (([] : List Vrow).map Vrow.row), .sl true 1 (([] : List Int).map intRow)]), (3, (Vrow.row x1)), (2, (CV.frzRow (Vtab.row x0)))]⟩ (fun cx => ?_) ?_
            · refine AT.runU tOk [(0, []), (1, []), (2, [])] 10 [] [2, 1, 0] rfl (by kernel_rfl) (fun cx => ?_)
              refine AT.to ⟨67, 0, [(22, .val false [.lit (.bool (!y3))]), (21, .val false [.lit (.bool (!y3))]), (20, .val false [.lit (.bool y3)]), (17, .val false [.lit (.bool true)]), (16, .val false [.lit (.int .i64 (x0.Rows.length : Int))]), (15, .val false [.sl false 3 (CV.frzEs (x0.Rows.map Vrow.row))]), (14, .adr (.box 2) [(0, 0)] 2 0), (13, .val false [.lit (.int .i64 y2)]), (7, .val false [.lit (.int .i64 y2)]), (6, .val false [.lit (.bool y3)]), (5, .adr (.box 5) [(0, 0)] 2 0), (4, .adr (.box 4) [(0, 0)] 2 0), (3, .adr (.box 3) [(0, 0)] 3 0), (2, .adr (.box 2) [(0, 0)] 2 0)], [(5, [.sl true 3 (y4.map Vrow.row), .sl true 1 ((([] : List Int) ++ x0.Pvid).map intRow)]), (4, [.sl true 3 (([] : List Vrow).map Vrow.row), .sl true 1 (([] : List Int).map intRow)]), (3, (Vrow.row x1)), (2, (CV.frzRow (Vtab.row x0)))]⟩ (by kernel_rfl) ?_
              rw [h4]
              refine AT.runU tOk [(3, []), (4, []), (5, [])] 7 [⟨[], 38, 23, 24⟩] [5, 4, 3, 2, 1, 0] rfl (by kernel_rfl) (fun cx => ?_)
              refine AT.indexF tOk 6 (t := 38) (ty := 0) (x := (.tmp 24)) (y := (.tmp 25)) (d := 26) (g := (some (2, true))) ⟨(.box 2), [(0, 0)], 0, false, 3, (CV.frzEs (x0.Rows.map Vrow.row))⟩ y2 (Vrow.row v17) _ (by kernel_rfl) (by kernel_rfl) (by kernel_rfl) (by kernel_rfl) (by kernel_rfl) (by kernel_rfl) rfl (idx_isF ev17) rfl (fun cx => ?_)
              refine AT.runU tOk [(7, []), (8, []), (9, []), (10, []), (11, []), (12, [])] 0 [⟨[], 3, 29, 30⟩, ⟨[], 38, 23, 24⟩] [12, 11, 10, 9, 8, 7, 6, 5, 4, 3, 2, 1, 0] rfl (by kernel_rfl) (fun cx => ?_)
              exact AT.done [32, 31, 30, 29, 28, 27, 26, 25, 24, 23, 22, 21, 20, 17, 16, 15, 14, 13, 7, 6, 5, 4, 3, 2] [5, 4, 3, 2] _ (by kernel_rfl) (by kernel_rfl) rfl
            · show Tr _ _ _ _ _
              refine Tr.to ⟨67, 0, [(32, .val false [.lit (.bool (decide (v17.Id ≥ x1.Id)))]), (31, .val false [.lit (.bool (decide (v17.Id ≥ x1.Id)))]), (30, .val false [.lit (.int .i64 x1.Id)]), (29, .adr (.box 3) [(0, 0)] 3 0), (28, .val false [.lit (.int .i64 v17.Id)]), (27, .fad ((Vrow.row v17))), (26, .fad ((Vrow.row v17))), (25, .val false [.lit (.int .i64 y2)]), (24, .ref (.box 2) [(0, 0)] 2 0 1 false), (23, .adr (.box 2) [(0, 0)] 2 0), (22, .val false [.lit (.bool true)]), (21, .val false [.lit (.bool true)]), (20, .val false [.lit (.bool y3)]), (17, .val false [.lit (.bool true)]), (16, .val false [.lit (.int .i64 (x0.Rows.length : Int))]), (15, .val false [.sl false 3 (CV.frzEs (x0.Rows.map Vrow.row))]), (14, .adr (.box 2) [(0, 0)] 2 0), (13, .val false [.lit (.int .i64 y2)]), (7, .val false [.lit (.int .i64 y2)]), (6, .val false [.lit (.bool y3)]), (5, .adr (.box 5) [(0, 0)] 2 0), (4, .adr (.box 4) [(0, 0)] 2 0), (3, .adr (.box 3) [(0, 0)] 3 0), (2, .adr (.box 2) [(0, 0)] 2 0)], [(5, [.sl true 3 (y4.map Vrow.row), .sl true 1 ((([] : List Int) ++ x0.Pvid).map intRow)]), (4, [.sl true 3 (([] : List Vrow).map Vrow.row), .sl true 1 (([] : List Int).map intRow)]), (3, (Vrow.row x1)), (2, (CV.frzRow (Vtab.row x0)))]⟩ (by kernel_rfl) ?_
              cases h5 : (decide (v17.Id ≥ x1.Id))
              · have H := bifF h5 H
                refine Tr.cond (b := false) (by kernel_rfl) (fun h => nomatch h) (fun _ => ?_)
                refine Tr.skip ?_
                exact Exists.intro (false, true, true, y3, y4) (And.intro H (St.sub_of [32, 22, 21, 20, 17, 16, 15, 14, 13, 7, 6, 5, 4, 3, 2] [5, 4, 3, 2] (by kernel_rfl)))
              · have H := bifT h5 H
                refine Tr.cond (b := true) (by kernel_rfl) (fun _ => ?_) (fun h => nomatch h)
                refine Tr.rs ?_
                refine LAt.runU tOk 4 (by kernel_rfl) ?_
                obtain ⟨hg18, H⟩ := guard_some H
                refine LAt.appMU tOk (t := 38) (ty := 38) (e := 81) (x := (.tmp 34)) (y := (.tmp 36)) (d := 37) (g := none) ⟨.st [(0, 1, 3), (1, 1, 3), (2, 1, 3)], 3, 24, [.lit (.int .i64 0), .lit (.int .i64 0), .lit (.int .i64 0)]⟩ Vrow.row y4 [x1] (by kernel_rfl) (by kernel_rfl) (by kernel_rfl) (by kernel_rfl) (by kernel_rfl) (by kernel_rfl) (by kernel_rfl) (by kernel_rfl) (by kernel_rfl) (by kernel_rfl) hg18 ?_
                refine LAt.runU tOk 2 (by kernel_rfl) ?_
                refine LAt.doneU [38, 35, 33, 32, 31, 30, 29, 28, 27, 26, 25, 24, 23, 22, 21, 20, 17, 16, 15, 14, 13, 7, 6, 5, 4, 3, 2] [5, 4, 3, 2] (by kernel_rfl) ?_
                refine Tr.at ?_
                refine LAt.runU tOk 1 (by kernel_rfl) ?_
                refine LAt.doneU [6, 38, 35, 33, 32, 31, 30, 29, 28, 27, 26, 25, 24, 23, 22, 21, 20, 17, 16, 15, 14, 13, 7, 5, 4, 3, 2] [5, 4, 3, 2] (by kernel_rfl) ?_
                exact Exists.intro (true, true, true, true, (y4 ++ [x1])) (And.intro H (St.sub_of [32, 22, 21, 20, 17, 16, 15, 14, 13, 7, 6, 5, 4, 3, 2] [5, 4, 3, 2] (by kernel_rfl)))
        · rintro ⟨y9, y10, y11, y12, y13⟩ H
          have H : (spec_l9Row_J3 n (fun v => spec_l9Row_L2 n mo8 x0 x1 v.1 v.2.1 v.2.2) x0 x1 y2 y9 y10 y11 y12 y13) = some o8 := H
          unfold spec_l9Row_J3 at H
          show Tr _ _ _ _ _
          obtain ⟨v14, ev14, H⟩ := bind_some H
          refine Tr.draws mixed 9 (by kernel_rfl) ⟨67, 0, [(47, .val false [.lit (.bool (v14.Id != x1.Id))]), (46, .val false [.lit (.int .i64 x1.Id)]), (45, .adr (.box 3) [(0, 0)] 3 0), (44, .val false [.lit (.int .i64 v14.Id)]), (43, .fad ((Vrow.row v14))), (42, .fad ((Vrow.row v14))), (41, .val false [.lit (.int .i64 y2)]), (40, .ref (.box 2) [(0, 0)] 2 0 1 false), (39, .adr (.box 2) [(0, 0)] 2 0), (32, .val false [.lit (.bool y9)]), (22, .val false [.lit (.bool y10)]), (21, .val false [.lit (.bool y11)]), (20, .val false [.lit (.bool y3)]), (17, .val false [.lit (.bool true)]), (16, .val false [.lit (.int .i64 (x0.Rows.length : Int))]), (15, .val false [.sl false 3 (CV.frzEs (x0.Rows.map Vrow.row))]), (14, .adr (.box 2) [(0, 0)] 2 0), (13, .val false [.lit (.int .i64 y2)]), (7, .val false [.lit (.int .i64 y2)]), (6, .val false [.lit (.bool y12)]), (5, .adr (.box 5) [(0, 0)] 2 0), (4, .adr (.box 4) [(0, 0)] 2 0), (3, .adr (.box 3) [(0, 0)] 3 0), (2, .adr (.box 2) [(0, 0)] 2 0)], [(5, [.sl true 3 (y13.map Vrow.row), .sl true 1 ((([] : List Int) ++ x0.Pvid).map intRow)]), (4, [.sl true 3 (([] : List Vrow).map Vrow.row), .sl true 1 (([] : List Int).map intRow)]), (3, (Vrow.row x1)), (2, (CV.frzRow (Vtab.row x0)))]⟩ (fun cx => ?_) ?_
          · refine AT.runU tOk [(0, []), (1, []), (2, [])] 6 [⟨[], 38, 39, 40⟩] [2, 1, 0] rfl (by kernel_rfl) (fun cx => ?_)
            refine AT.indexF tOk 3 (t := 38) (ty := 0) (x := (.tmp 40)) (y := (.tmp 41)) (d := 42) (g := none) ⟨(.box 2), [(0, 0)], 0, false, 3, (CV.frzEs (x0.Rows.map Vrow.row))⟩ y2 (Vrow.row v14) _ (by kernel_rfl) (by kernel_rfl) (by kernel_rfl) (by kernel_rfl) (by kernel_rfl) (by kernel_rfl) rfl (idx_isF ev14) rfl (fun cx => ?_)
            refine AT.runU tOk [(4, []), (5, []), (6, []), (7, []), (8, [])] 0 [⟨[], 3, 45, 46⟩, ⟨[], 38, 39, 40⟩] [8, 7, 6, 5, 4, 3, 2, 1, 0] rfl (by kernel_rfl) (fun cx => ?_)
            exact AT.done [47, 46, 45, 44, 43, 42, 41, 40, 39, 32, 22, 21, 20, 17, 16, 15, 14, 13, 7, 6, 5, 4, 3, 2] [5, 4, 3, 2] _ (by kernel_rfl) (by kernel_rfl) rfl
          · refine Tr.to ⟨67, 0, [(47, .val false [.lit (.bool (v14.Id != x1.Id))]), (46, .val false [.lit (.int .i64 x1.Id)]), (45, .adr (.box 3) [(0, 0)] 3 0), (44, .val false [.lit (.int .i64 v14.Id)]), (43, .fad ((Vrow.row v14))), (42, .fad ((Vrow.row v14))), (41, .val false [.lit (.int .i64 y2)]), (40, .ref (.box 2) [(0, 0)] 2 0 1 false), (39, .adr (.box 2) [(0, 0)] 2 0), (32, .val false [.lit (.bool y9)]), (22, .val false [.lit (.bool y10)]), (21, .val false [.lit (.bool y11)]), (20, .val false [.lit (.bool y3)]), (17, .val false [.lit (.bool true)]), (16, .val false [.lit (.int .i64 (x0.Rows.length : Int))]), (15, .val false [.sl false 3 (CV.frzEs (x0.Rows.map Vrow.row))]), (14, .adr (.box 2) [(0, 0)] 2 0), (13, .val false [.lit (.int .i64 y2)]), (7, .val false [.lit (.int .i64 y2)]), (6, .val false [.lit (.bool y12)]), (5, .adr (.box 5) [(0, 0)] 2 0), (4, .adr (.box 4) [(0, 0)] 2 0), (3, .adr (.box 3) [(0, 0)] 3 0), (2, .adr (.box 2) [(0, 0)] 2 0)], [(5, [.sl true 3 (y13.map Vrow.row), .sl true 1 ((([] : List Int) ++ x0.Pvid).map intRow)]), (4, [.sl true 3 (([] : List Vrow).map Vrow.row), .sl true 1 (([] : List Int).map intRow)]), (3, (Vrow.row x1)), (2, (CV.frzRow (Vtab.row x0)))]⟩ (by kernel_rfl) ?_
            cases h3 : (v14.Id != x1.Id)
            · have H := bifF h3 H
              refine Tr.cond (b := false) (by kernel_rfl) (fun h => nomatch h) (fun _ => ?_)
              refine Tr.skip ?_
              show Tr _ _ _ _ _
              refine Tr.at ?_
              refine LAt.runU tOk 3 (by kernel_rfl) ?_
              refine LAt.doneU [7, 19, 18, 47, 46, 45, 44, 43, 42, 41, 40, 39, 32, 22, 21, 20, 17, 16, 15, 14, 13, 6, 5, 4, 3, 2] [5, 4, 3, 2] (by kernel_rfl) ?_
              exact Exists.intro (mo8, ((IntKind.wrap .i64 (y2 + 1)), y12, y13)) (And.intro H (And.intro (Nat.lt_succ_self mo8) (St.sub_of [7, 6, 5, 4, 3, 2] [5, 4, 3, 2] (by kernel_rfl))))
            · have H := bifT h3 H
              refine Tr.cond (b := true) (by kernel_rfl) (fun _ => ?_) (fun h => nomatch h)
              obtain ⟨v15, ev15, H⟩ := bind_some H
              obtain ⟨hg16, H⟩ := guard_some H
              refine Tr.draw mixed 11 (by kernel_rfl) ⟨67, 0, [(57, .adr (.box 5) [(0, 0)] 2 0), (54, .val true (Vrow.row v15)), (53, .fad ((Vrow.row v15))), (52, .val false [.lit (.int .i64 y2)]), (51, .ref (.box 2) [(0, 0)] 2 0 1 false), (50, .adr (.box 2) [(0, 0)] 2 0), (48, .adr (.box 5) [(0, 0)] 2 0), (47, .val false [.lit (.bool true)]), (46, .val false [.lit (.int .i64 x1.Id)]), (45, .adr (.box 3) [(0, 0)] 3 0), (44, .val false [.lit (.int .i64 v14.Id)]), (43, .fad ((Vrow.row v14))), (42, .fad ((Vrow.row v14))), (41, .val false [.lit (.int .i64 y2)]), (40, .ref (.box 2) [(0, 0)] 2 0 1 false), (39, .adr (.box 2) [(0, 0)] 2 0), (32, .val false [.lit (.bool y9)]), (22, .val false [.lit (.bool y10)]), (21, .val false [.lit (.bool y11)]), (20, .val false [.lit (.bool y3)]), (17, .val false [.lit (.bool true)]), (16, .val false [.lit (.int .i64 (x0.Rows.length : Int))]), (15, .val false [.sl false 3 (CV.frzEs (x0.Rows.map Vrow.row))]), (14, .adr (.box 2) [(0, 0)] 2 0), (13, .val false [.lit (.int .i64 y2)]), (7, .val false [.lit (.int .i64 y2)]), (6, .val false [.lit (.bool y12)]), (5, .adr (.box 5) [(0, 0)] 2 0), (4, .adr (.box 4) [(0, 0)] 2 0), (3, .adr (.box 3) [(0, 0)] 3 0), (2, .adr (.box 2) [(0, 0)] 2 0)], [(5, [.sl true 3 ((y13 ++ [v15]).map Vrow.row), .sl true 1 ((([] : List Int) ++ x0.Pvid).map intRow)]), (4, [.sl true 3 (([] : List Vrow).map Vrow.row), .sl true 1 (([] : List Int).map intRow)]), (3, (Vrow.row x1)), (2, (CV.frzRow (Vtab.row x0)))]⟩ (fun cx => ?_) ?_
              · refine AT.runU tOk [(0, []), (1, [8, 10]), (2, []), (3, [7, 8, 10]), (4, [])] 6 [⟨[7, 8, 10], 38, 50, 51⟩, ⟨[8, 10], 38, 48, 49⟩] [4, 3, 2, 1, 0] rfl (by kernel_rfl) (fun cx => ?_)
                refine AT.indexF tOk 5 (t := 38) (ty := 0) (x := (.tmp 51)) (y := (.tmp 52)) (d := 53) (g := none) ⟨(.box 2), [(0, 0)], 0, false, 3, (CV.frzEs (x0.Rows.map Vrow.row))⟩ y2 (Vrow.row v15) _ (by kernel_rfl) (by kernel_rfl) (by kernel_rfl) (by kernel_rfl) (by kernel_rfl) (by kernel_rfl) rfl (idx_isF ev15) rfl (fun cx => ?_)
                refine AT.runU tOk [(6, [])] 4 [⟨[7, 8, 10], 38, 50, 51⟩, ⟨[8, 10], 38, 48, 49⟩] [6, 5, 4, 3, 2, 1, 0] rfl (by kernel_rfl) (fun cx => ?_)
                refine AT.big1 tOk 7 (by kernel_rfl) (by kernel_rfl) ?_
                refine LAt.runU tOk 1 (by kernel_rfl) ?_
                refine LAt.fin (by kernel_rfl) (And.intro (And.intro (by kernel_rfl) (by kernel_rfl)) ?_)
                refine AT.big1 tOk 8 (by kernel_rfl) (by kernel_rfl) ?_
                refine LAt.appMU tOk (t := 38) (ty := 38) (e := 81) (x := (.tmp 49)) (y := (.tmp 55)) (d := 56) (g := none) ⟨.st [(0, 1, 3), (1, 1, 3), (2, 1, 3)], 3, 24, [.lit (.int .i64 0), .lit (.int .i64 0), .lit (.int .i64 0)]⟩ Vrow.row y13 [v15] (by kernel_rfl) (by kernel_rfl) (by kernel_rfl) (by kernel_rfl) (by kernel_rfl) (by kernel_rfl) (by kernel_rfl) (by kernel_rfl) (by kernel_rfl) (by kernel_rfl) hg16 ?_
                refine LAt.fin (by kernel_rfl) (And.intro (And.intro (by kernel_rfl) (by kernel_rfl)) ?_)
                refine AT.runU tOk [(9, [])] 1 [⟨[7, 8, 10], 38, 50, 51⟩, ⟨[8, 10], 38, 48, 49⟩] [9, 8, 7, 6, 5, 4, 3, 2, 1, 0] rfl (by kernel_rfl) (fun cx => ?_)
                refine AT.big1 tOk 10 (by kernel_rfl) (by kernel_rfl) ?_
                refine LAt.runU tOk 1 (by kernel_rfl) ?_
                refine LAt.fin (by kernel_rfl) (And.intro (And.intro (by kernel_rfl) (by kernel_rfl)) ?_)
                exact AT.done [57, 54, 53, 52, 51, 50, 48, 47, 46, 45, 44, 43, 42, 41, 40, 39, 32, 22, 21, 20, 17, 16, 15, 14, 13, 7, 6, 5, 4, 3, 2] [5, 4, 3, 2] _ (by kernel_rfl) (by kernel_rfl) rfl
              · show Tr _ _ _ _ _
                refine Tr.at ?_
                refine LAt.runU tOk 3 (by kernel_rfl) ?_
                refine LAt.doneU [7, 19, 18, 57, 54, 53, 52, 51, 50, 48, 47, 46, 45, 44, 43, 42, 41, 40, 39, 32, 22, 21, 20, 17, 16, 15, 14, 13, 6, 5, 4, 3, 2] [5, 4, 3, 2] (by kernel_rfl) ?_
                exact Exists.intro (mo8, ((IntKind.wrap .i64 (y2 + 1)), y12, (y13 ++ [v15]))) (And.intro H (And.intro (Nat.lt_succ_self mo8) (St.sub_of [7, 6, 5, 4, 3, 2] [5, 4, 3, 2] (by kernel_rfl))))
  · rintro ⟨y5, y6⟩ H
    have H : (spec_l9Row_J1 n x0 x1 y5 y6) = some r := H
    unfold spec_l9Row_J1 at H
    show Tr _ _ _ _ _
    refine Tr.seq ?_
    refine Tr.rs ?_
    refine LAt.runU tOk 2 (by kernel_rfl) ?_
    refine LAt.doneU [59, 5, 4, 3] [5, 4, 3] (by kernel_rfl) ?_
    refine Tr.to ⟨67, 0, [(59, .val false [.lit (.bool (!y5))]), (5, .adr (.box 5) [(0, 0)] 2 0), (4, .adr (.box 4) [(0, 0)] 2 0), (3, .adr (.box 3) [(0, 0)] 3 0)], [(5, [.sl true 3 (y6.map Vrow.row), .sl true 1 ((([] : List Int) ++ x0.Pvid).map intRow)]), (4, [.sl true 3 (([] : List Vrow).map Vrow.row), .sl true 1 (([] : List Int).map intRow)]), (3, (Vrow.row x1))]⟩ (by kernel_rfl) ?_
    cases h1 : (!y5)
    · have H := bifF h1 H
      refine Tr.cond (b := false) (by kernel_rfl) (fun h => nomatch h) (fun _ => ?_)
      refine Tr.skip ?_
      show Tr _ _ _ _ _
      refine Tr.rs ?_
      refine LAt.runU tOk 2 (by kernel_rfl) ?_
      refine LAt.doneU [4] [4] (by kernel_rfl) ?_
      refine Tr.ret ?_
      have H := Option.some.inj H
      subst H
      exact Fin.of _ [(true, [.sl true 3 (y6.map Vrow.row), .sl true 1 ((([] : List Int) ++ x0.Pvid).map intRow)])] (by kernel_rfl) rfl rfl
    · have H := bifT h1 H
      refine Tr.cond (b := true) (by kernel_rfl) (fun _ => ?_) (fun h => nomatch h)
      refine Tr.at ?_
      refine LAt.runU tOk 4 (by kernel_rfl) ?_
      obtain ⟨hg7, H⟩ := guard_some H
      refine LAt.appMU tOk (t := 38) (ty := 38) (e := 81) (x := (.tmp 61)) (y := (.tmp 63)) (d := 64) (g := none) ⟨.st [(0, 1, 3), (1, 1, 3), (2, 1, 3)], 3, 24, [.lit (.int .i64 0), .lit (.int .i64 0), .lit (.int .i64 0)]⟩ Vrow.row y6 [x1] (by kernel_rfl) (by kernel_rfl) (by kernel_rfl) (by kernel_rfl) (by kernel_rfl) (by kernel_rfl) (by kernel_rfl) (by kernel_rfl) (by kernel_rfl) (by kernel_rfl) hg7 ?_
      refine LAt.runU tOk 2 (by kernel_rfl) ?_
      refine LAt.doneU [5, 4] [5, 4] (by kernel_rfl) ?_
      show Tr _ _ _ _ _
      refine Tr.rs ?_
      refine LAt.runU tOk 2 (by kernel_rfl) ?_
      refine LAt.doneU [4] [4] (by kernel_rfl) ?_
      refine Tr.ret ?_
      have H := Option.some.inj H
      subst H
      exact Fin.of _ [(true, [.sl true 3 ((y6 ++ [x1]).map Vrow.row), .sl true 1 ((([] : List Int) ++ x0.Pvid).map intRow)])] (by kernel_rfl) rfl rfl

def spec_PutRowF (n : Nat) (x0 : Vtab) (x1 : Vrow) : Option (Vtab × Bool) :=
  ((spec_VtabOkF n x0 (x0.Pvid.length : Int)).bind fun r1 => (bif (!r1) then ((spec_l9CopyF n x0).bind fun r4 => (some (r4, false))) else ((spec_l9RowF n x0 x1).bind fun r2 => ((spec_l9OrF n r2 x0).bind fun r3 => (some (r3.1, r3.2))))))
/-- loop.example/g00326/spec.PutRow -/
theorem spec_PutRow (n : Nat) (x0 : Vtab) (x1 : Vrow) (r : Vtab × Bool) (H : spec_PutRowF n x0 x1 = some r) : LCall Try.prog 91 [.val true (CV.frzRow (Vtab.row x0)), .val true (CV.frzRow (Vrow.row x1))] [.val true (Vtab.row r.1), .val false [.lit (.bool r.2)]] [] := by
  refine LCall.of_body tOk Try.func91 rfl (c := (.seq (.region 0 (rg Try.f91 0) false) (.seq (.seq (.region 1 (rg Try.f91 1) false) (.cond (.tmp 11) (.seq (.region 2 (rg Try.f91 2) false) .ret) .skip)) (.seq (.region 3 (rg Try.f91 3) true) .ret)))) (by kernel_rfl) (Nat.le_of_ble_eq_true (by kernel_rfl)) 0 (rs := [.cell 4 40, .tmp 5]) rfl [] .nil [(true, (Vtab.row r.1)), (false, [.lit (.bool r.2)])] [] [] fun cx => ?_
  show Tr _ _ _ ⟨21, 0, [(0, .val true (CV.frzRow (Vtab.row x0))), (1, .val true (Vrow.row x1))], []⟩ _
  unfold spec_PutRowF at H
  refine Tr.rs ?_
  refine LAt.runU tOk 4 (by kernel_rfl) ?_
  refine LAt.doneU [5, 4, 3, 2] [4, 3, 2] (by kernel_rfl) ?_
  refine Tr.seq ?_
  refine Tr.rs ?_
  refine LAt.runU tOk 3 (by kernel_rfl) ?_
  refine LAt.lenE tOk (t := 33) (ty := 3) (e := 3) (x := (.tmp 8)) (d := 9) (g := none) ⟨(.slot 8), [], 0, false, 1, (CV.frzEs (x0.Pvid.map intRow))⟩ (x0.Pvid).length _ (by kernel_rfl) (by kernel_rfl) (by kernel_rfl) (by kernel_rfl) (by kernel_rfl) (frz_len _ _) rfl ?_
  obtain ⟨r1, er1, H⟩ := bind_some H
  refine LAt.callU tOk [.rd, .rd] (f := 28) (av := #[.tmp 6, .tmp 9]) (ats := #[40, 3]) (d := (some 10)) (ty := 4) (g := none) (by kernel_rfl) (by kernel_rfl) (by kernel_rfl) [] (spec_VtabOk n x0 (x0.Pvid.length : Int) r1 er1) (by kernel_rfl) (.inl rfl) ?_
  refine LAt.runU tOk 1 (by kernel_rfl) ?_
  refine LAt.doneU [11, 5, 4, 3, 2] [4, 3, 2] (by kernel_rfl) ?_
  refine Tr.to ⟨21, 0, [(11, .val false [.lit (.bool (!r1))]), (5, .val false [.lit (.bool false)]), (4, .adr (.box 4) [(0, 0)] 2 0), (3, .adr (.box 3) [(0, 0)] 3 0), (2, .adr (.box 2) [(0, 0)] 2 0)], [(4, [.sl true 3 (([] : List Vrow).map Vrow.row), .sl true 1 (([] : List Int).map intRow)]), (3, (Vrow.row x1)), (2, (CV.frzRow (Vtab.row x0)))]⟩ (by kernel_rfl) ?_
  cases h1 : (!r1)
  · have H := bifF h1 H
    refine Tr.cond (b := false) (by kernel_rfl) (fun h => nomatch h) (fun _ => ?_)
    refine Tr.skip ?_
    show Tr _ _ _ _ _
    obtain ⟨r2, er2, H⟩ := bind_some H
    obtain ⟨r3, er3, H⟩ := bind_some H
    refine Tr.draws mixed 9 (by kernel_rfl) ⟨21, 0, [(5, .val false [.lit (.bool r3.2)]), (4, .adr (.box 4) [(0, 0)] 2 0)], [(4, (Vtab.row r3.1))]⟩ (fun cx => ?_) ?_
    · refine AT.runU tOk [(0, [2, 4, 7]), (1, [2, 4, 7]), (3, [4, 7])] 6 [⟨[4, 7], 40, 2, 17⟩, ⟨[2, 4, 7], 81, 3, 15⟩, ⟨[2, 4, 7], 40, 2, 14⟩] [3, 1, 0] rfl (by kernel_rfl) (fun cx => ?_)
      refine AT.big1 tOk 2 (by kernel_rfl) (by kernel_rfl) ?_
      refine LAt.callU tOk [.rd, .rd] (f := 88) (av := #[.tmp 14, .tmp 15]) (ats := #[40, 81]) (d := (some 16)) (ty := 40) (g := none) (by kernel_rfl) (by kernel_rfl) (by kernel_rfl) [] (spec_l9Row n x0 x1 r2 er2) (by kernel_rfl) (.inl rfl) ?_
      refine LAt.fin (by kernel_rfl) (And.intro (And.intro (by kernel_rfl) (by kernel_rfl)) ?_)
      refine AT.big1 tOk 4 (by kernel_rfl) (by kernel_rfl) ?_
      refine LAt.callU tOk [.own, .rd] (f := 94) (av := #[.tmp 16, .tmp 17]) (ats := #[40, 40]) (d := (some 18)) (ty := 107) (g := none) (by kernel_rfl) (by kernel_rfl) (by kernel_rfl) [] (spec_l9Or n r2 x0 r3 er3) (by kernel_rfl) (.inl rfl) ?_
      refine LAt.fin (by kernel_rfl) (And.intro (And.intro (by kernel_rfl) (by kernel_rfl)) ?_)
      refine AT.runU tOk [(5, []), (6, [])] 2 [⟨[4, 7], 40, 2, 17⟩, ⟨[2, 4, 7], 81, 3, 15⟩, ⟨[2, 4, 7], 40, 2, 14⟩] [6, 5, 4, 2, 3, 1, 0] rfl (by kernel_rfl) (fun cx => ?_)
      refine AT.big1 tOk 7 (by kernel_rfl) (by kernel_rfl) ?_
      refine LAt.runU tOk 1 (by kernel_rfl) ?_
      refine LAt.fin (by kernel_rfl) (And.intro (And.intro (by kernel_rfl) (by kernel_rfl)) ?_)
      refine AT.runU tOk [(8, [])] 0 [⟨[4, 7], 40, 2, 17⟩, ⟨[2, 4, 7], 81, 3, 15⟩, ⟨[2, 4, 7], 40, 2, 14⟩] [8, 7, 6, 5, 4, 2, 3, 1, 0] rfl (by kernel_rfl) (fun cx => ?_)
      exact AT.done [5, 4] [4] _ (by kernel_rfl) (by kernel_rfl) rfl
    · refine Tr.ret ?_
      have H := Option.some.inj H
      subst H
      exact Fin.of _ [(true, (Vtab.row r3.1)), (false, [.lit (.bool r3.2)])] (by kernel_rfl) rfl rfl
  · have H := bifT h1 H
    refine Tr.cond (b := true) (by kernel_rfl) (fun _ => ?_) (fun h => nomatch h)
    refine Tr.rs ?_
    refine LAt.runU tOk 1 (by kernel_rfl) ?_
    obtain ⟨r4, er4, H⟩ := bind_some H
    refine LAt.callU tOk [.rd] (f := 93) (av := #[.tmp 12]) (ats := #[40]) (d := (some 13)) (ty := 40) (g := none) (by kernel_rfl) (by kernel_rfl) (by kernel_rfl) [] (spec_l9Copy n x0 r4 er4) (by kernel_rfl) (.inl rfl) ?_
    refine LAt.runU tOk 2 (by kernel_rfl) ?_
    refine LAt.doneU [5, 4, 3, 2] [4, 3, 2] (by kernel_rfl) ?_
    refine Tr.ret ?_
    have H := Option.some.inj H
    subst H
    exact Fin.of _ [(true, (Vtab.row r4)), (false, [.lit (.bool false)])] (by kernel_rfl) rfl rfl

def spec_l9Draw_J1 (n : Nat) (y9 : (List Int)) (y10 : Int) (y11 : Int) (y12 : (List Vrow)) (y13 : (List Int)) : Option (Vtab × Src) :=
  (some ((⟨y12, y13⟩ : Vtab), (⟨y9, y10, y11⟩ : Src)))
def spec_l9Draw_L2 (n : Nat) : Nat → Int → Int → (List Int) → Int → Int → (List Vrow) → (List Int) → Option (((List Int) × Int × Int × (List Vrow) × (List Int)) ⊕ (Vtab × Src))
  | 0, _, _, _, _, _, _, _ => none
  | mo14 + 1, x1, y3, y4, y5, y6, y7, y8 => (bif (decide (y3 > 0)) then ((spec_l1BelowF n (⟨y4, y5, y6⟩ : Src) 4).bind fun r15 => (bif (r15.1 == 0) then ((spec_l1BelowF n r15.2 x1).bind fun r20 => ((spec_l1BelowF n r20.2 3).bind fun r21 => ((spec_SetPvidF n (⟨y7, y8⟩ : Vtab) r20.1 (IntKind.wrap .i64 (1 + r21.1))).bind fun r22 => (spec_l9Draw_L2 n mo14 x1 (IntKind.wrap .i64 (y3 - 1)) r21.2.b r21.2.i r21.2.h r22.1.Rows r22.1.Pvid)))) else (bif (r15.1 == 1) then ((spec_l1BelowF n r15.2 2).bind fun r18 => ((spec_DropRowF n (⟨y7, y8⟩ : Vtab) (IntKind.wrap .i64 (2 + r18.1))).bind fun r19 => (spec_l9Draw_L2 n mo14 x1 (IntKind.wrap .i64 (y3 - 1)) r18.2.b r18.2.i r18.2.h r19.1.Rows r19.1.Pvid))) else ((spec_l9Row2F n r15.2 x1).bind fun r16 => ((spec_PutRowF n (⟨y7, y8⟩ : Vtab) r16.1).bind fun r17 => (spec_l9Draw_L2 n mo14 x1 (IntKind.wrap .i64 (y3 - 1)) r16.2.b r16.2.i r16.2.h r17.1.Rows r17.1.Pvid)))))) else (some (Sum.inl (y4, y5, y6, y7, y8))))
def spec_l9DrawF (n : Nat) (x0 : Src) (x1 : Int) : Option (Vtab × Src) :=
  ((spec_VtabNewF n x1).bind fun r1 => ((spec_l1BelowF n x0 6).bind fun r2 => ((spec_l9Draw_L2 n n x1 r2.1 r2.2.b r2.2.i r2.2.h r1.Rows r1.Pvid).bind fun o => match o with | .inl (y9, y10, y11, y12, y13) => (spec_l9Draw_J1 n y9 y10 y11 y12 y13) | .inr r => some r)))
/-- loop.example/g00326/spec.l9Draw -/
theorem spec_l9Draw (n : Nat) (x0 : Src) (x1 : Int) (r : Vtab × Src) (H : spec_l9DrawF n x0 x1 = some r) : LCall Try.prog 87 [.ptr (CV.frzRow (Src.row x0)), .val false [.lit (.int .i64 x1)]] [.val true (Vtab.row r.1)] [(0, (CV.frzRow (Src.row r.2)))] := by
  refine LCall.of_body tOk Try.func87 rfl (c := (.seq (.region 0 (rg Try.f87 0) false) (.seq (.region 1 (rg Try.f87 1) false) (.seq (.seq (.region 2 (rg Try.f87 2) false) (.block 0 (.loop (.seq (.seq (.region 3 (rg Try.f87 3) false) (.cond (.tmp 12) .skip (.exit 0))) (.seq (.block 1 (.seq (.region 5 (rg Try.f87 5) false) (.block 2 (.seq (.region 7 (rg Try.f87 7) false) (.cond (.tmp 25) (.region 8 (rg Try.f87 8) true) (.seq (.region 9 (rg Try.f87 9) false) (.cond (.tmp 38) (.region 10 (rg Try.f87 10) true) (.region 6 (rg Try.f87 6) true)))))))) (.region 4 (rg Try.f87 4) false)))))) (.seq (.region 11 (rg Try.f87 11) false) .ret))))) (by kernel_rfl) (Nat.le_of_ble_eq_true (by kernel_rfl)) 1 (rs := [.cell 4 40]) rfl [] .nil [(true, (Vtab.row r.1))] [] [(0, (CV.frzRow (Src.row r.2)))] fun cx => ?_
  show Tr _ _ _ ⟨49, 1, [(0, .adr (.box 0) [(0, 0)] 3 0), (1, .val false [.lit (.int .i64 x1)])], [(0, (CV.frzRow (Src.row x0)))]⟩ _
  unfold spec_l9DrawF at H
  refine Tr.rs ?_
  refine LAt.runU tOk 1 (by kernel_rfl) ?_
  refine LAt.doneU [4, 0, 1] [4, 0] (by kernel_rfl) ?_
  refine Tr.rs ?_
  refine LAt.runU tOk 1 (by kernel_rfl) ?_
  obtain ⟨r1, er1, H⟩ := bind_some H
  refine LAt.callU tOk [.rd] (f := 22) (av := #[.tmp 7]) (ats := #[3]) (d := (some 8)) (ty := 40) (g := none) (by kernel_rfl) (by kernel_rfl) (by kernel_rfl) [] (spec_VtabNew n x1 r1 er1) (by kernel_rfl) (.inl rfl) ?_
  refine LAt.runU tOk 2 (by kernel_rfl) ?_
  refine LAt.doneU [5, 4, 0, 1] [5, 4, 0] (by kernel_rfl) ?_
  refine Tr.seq ?_
  refine Tr.rs ?_
  refine LAt.runU tOk 1 (by kernel_rfl) ?_
  obtain ⟨r2, er2, H⟩ := bind_some H
  refine LAt.callL tOk [.lend, .rd] (f := 76) (av := #[.tmp 9, .const (.int .i64 6)]) (ats := #[90, 3]) (d := (some 10)) (ty := 3) (g := none) (by kernel_rfl) (by kernel_rfl) (by kernel_rfl) [] (spec_l1Below n x0 6 r2 er2) (by kernel_rfl) (.inl rfl) ?_
  refine LAt.runU tOk 1 (by kernel_rfl) ?_
  refine LAt.doneU [6, 5, 4, 0, 1] [0, 5, 4] (by kernel_rfl) ?_
  obtain ⟨o14, eo14, Ho14⟩ := bind_some H
  clear H
  refine Tr.mid (ι := (List Int) × Int × Int × (List Vrow) × (List Int)) (fun v => ⟨49, 1, [(5, .adr (.box 5) [(0, 0)] 2 0), (4, .adr (.box 4) [(0, 0)] 2 0), (0, .adr (.box 0) [(0, 0)] 3 0)], [(0, [.sl false 1 (CV.frzEs (v.1.map byteRow)), .lit (.int .i64 v.2.1), .lit (.int .i64 v.2.2.1)]), (5, [.sl true 3 (v.2.2.2.1.map Vrow.row), .sl true 1 (v.2.2.2.2.map intRow)]), (4, [.sl true 3 (([] : List Vrow).map Vrow.row), .sl true 1 (([] : List Int).map intRow)])]⟩) (fun v => spec_l9Draw_J1 n v.1 v.2.1 v.2.2.1 v.2.2.2.1 v.2.2.2.2 = some r) ?_ ?_
  · refine Tr.block ?_
    refine Tr.loop (ι := Nat × (Int × (List Int) × Int × Int × (List Vrow) × (List Int))) (fun v => ⟨49, 1, [(6, .val false [.lit (.int .i64 v.2.1)]), (5, .adr (.box 5) [(0, 0)] 2 0), (4, .adr (.box 4) [(0, 0)] 2 0), (0, .adr (.box 0) [(0, 0)] 3 0), (1, .val false [.lit (.int .i64 x1)])], [(0, [.sl false 1 (CV.frzEs (v.2.2.1.map byteRow)), .lit (.int .i64 v.2.2.2.1), .lit (.int .i64 v.2.2.2.2.1)]), (5, [.sl true 3 (v.2.2.2.2.2.1.map Vrow.row), .sl true 1 (v.2.2.2.2.2.2.map intRow)]), (4, [.sl true 3 (([] : List Vrow).map Vrow.row), .sl true 1 (([] : List Int).map intRow)])]⟩) (fun v => spec_l9Draw_L2 n v.1 x1 v.2.1 v.2.2.1 v.2.2.2.1 v.2.2.2.2.1 v.2.2.2.2.2.1 v.2.2.2.2.2.2 = some o14) (fun v => v.1) (n, (r2.1, r2.2.b, r2.2.i, r2.2.h, r1.Rows, r1.Pvid)) eo14 (St.sub_of [6, 5, 4, 0, 1] [0, 5, 4] (by kernel_rfl)) ?_
    rintro ⟨mo14, y3, y4, y5, y6, y7, y8⟩ H
    have H : spec_l9Draw_L2 n mo14 x1 y3 y4 y5 y6 y7 y8 = some o14 := H
    obtain _ | mo14 := mo14
    · cases (show (none : Option _) = some o14 from H)
    · rw [spec_l9Draw_L2] at H
      refine Tr.seq ?_
      refine Tr.rs ?_
      refine LAt.runU tOk 2 (by kernel_rfl) ?_
      refine LAt.doneU [12, 11, 6, 5, 4, 0, 1] [0, 5, 4] (by kernel_rfl) ?_
      refine Tr.to ⟨49, 1, [(12, .val false [.lit (.bool (decide (y3 > 0)))]), (11, .val false [.lit (.int .i64 y3)]), (6, .val false [.lit (.int .i64 y3)]), (5, .adr (.box 5) [(0, 0)] 2 0), (4, .adr (.box 4) [(0, 0)] 2 0), (0, .adr (.box 0) [(0, 0)] 3 0), (1, .val false [.lit (.int .i64 x1)])], [(0, [.sl false 1 (CV.frzEs (y4.map byteRow)), .lit (.int .i64 y5), .lit (.int .i64 y6)]), (5, [.sl true 3 (y7.map Vrow.row), .sl true 1 (y8.map intRow)]), (4, [.sl true 3 (([] : List Vrow).map Vrow.row), .sl true 1 (([] : List Int).map intRow)])]⟩ (by kernel_rfl) ?_
      cases h1 : (decide (y3 > 0))
      · have H := bifF h1 H
        refine Tr.cond (b := false) (by kernel_rfl) (fun h => nomatch h) (fun _ => ?_)
        refine Tr.exit ?_
        refine And.intro (fun _ => ?_) (fun h => absurd rfl h)
        have H := Option.some.inj H
        subst H
        have H := Ho14
        dsimp only at H
        exact Exists.intro (y4, y5, y6, y7, y8) (And.intro H (St.sub_of [5, 4, 0] [0, 5, 4] (by kernel_rfl)))
      · have H := bifT h1 H
        refine Tr.cond (b := true) (by kernel_rfl) (fun _ => ?_) (fun h => nomatch h)
        refine Tr.skip ?_
        show Tr _ _ _ _ _
        refine Tr.seq ?_
        refine Tr.block ?_
        refine Tr.rs ?_
        refine LAt.runU tOk 1 (by kernel_rfl) ?_
        obtain ⟨r15, er15, H⟩ := bind_some H
        refine LAt.callL tOk [.lend, .rd] (f := 76) (av := #[.tmp 15, .const (.int .i64 4)]) (ats := #[90, 3]) (d := (some 16)) (ty := 3) (g := none) (by kernel_rfl) (by kernel_rfl) (by kernel_rfl) [] (spec_l1Below n (⟨y4, y5, y6⟩ : Src) 4 r15 er15) (by kernel_rfl) (.inl rfl) ?_
        refine LAt.doneU [16, 15, 12, 11, 6, 5, 4, 0, 1] [0, 5, 4] (by kernel_rfl) ?_
        refine Tr.block ?_
        refine Tr.rs ?_
        refine LAt.runU tOk 2 (by kernel_rfl) ?_
        refine LAt.doneU [25, 26, 16, 15, 12, 11, 6, 5, 4, 0, 1] [0, 5, 4] (by kernel_rfl) ?_
        refine Tr.to ⟨49, 1, [(25, .val false [.lit (.bool (r15.1 == 0))]), (26, .val false [.lit (.bool (r15.1 == 0))]), (16, .val false [.lit (.int .i64 r15.1)]), (15, .adr (.box 0) [(0, 0)] 3 0), (12, .val false [.lit (.bool true)]), (11, .val false [.lit (.int .i64 y3)]), (6, .val false [.lit (.int .i64 y3)]), (5, .adr (.box 5) [(0, 0)] 2 0), (4, .adr (.box 4) [(0, 0)] 2 0), (0, .adr (.box 0) [(0, 0)] 3 0), (1, .val false [.lit (.int .i64 x1)])], [(0, (CV.frzRow (Src.row r15.2))), (5, [.sl true 3 (y7.map Vrow.row), .sl true 1 (y8.map intRow)]), (4, [.sl true 3 (([] : List Vrow).map Vrow.row), .sl true 1 (([] : List Int).map intRow)])]⟩ (by kernel_rfl) ?_
        cases h2 : (r15.1 == 0)
        · have H := bifF h2 H
          refine Tr.cond (b := false) (by kernel_rfl) (fun h => nomatch h) (fun _ => ?_)
          refine Tr.rs ?_
          refine LAt.runU tOk 2 (by kernel_rfl) ?_
          refine LAt.doneU [38, 39, 25, 26, 16, 15, 12, 11, 6, 5, 4, 0, 1] [0, 5, 4] (by kernel_rfl) ?_
          refine Tr.to ⟨49, 1, [(38, .val false [.lit (.bool (r15.1 == 1))]), (39, .val false [.lit (.bool (r15.1 == 1))]), (25, .val false [.lit (.bool false)]), (26, .val false [.lit (.bool false)]), (16, .val false [.lit (.int .i64 r15.1)]), (15, .adr (.box 0) [(0, 0)] 3 0), (12, .val false [.lit (.bool true)]), (11, .val false [.lit (.int .i64 y3)]), (6, .val false [.lit (.int .i64 y3)]), (5, .adr (.box 5) [(0, 0)] 2 0), (4, .adr (.box 4) [(0, 0)] 2 0), (0, .adr (.box 0) [(0, 0)] 3 0), (1, .val false [.lit (.int .i64 x1)])], [(0, (CV.frzRow (Src.row r15.2))), (5, [.sl true 3 (y7.map Vrow.row), .sl true 1 (y8.map intRow)]), (4, [.sl true 3 (([] : List Vrow).map Vrow.row), .sl true 1 (([] : List Int).map intRow)])]⟩ (by kernel_rfl) ?_
          cases h3 : (r15.1 == 1)
          · have H := bifF h3 H
            refine Tr.cond (b := false) (by kernel_rfl) (fun h => nomatch h) (fun _ => ?_)
            obtain ⟨r16, er16, H⟩ := bind_some H
            obtain ⟨r17, er17, H⟩ := bind_some H
            refine Tr.draw mixed 9 (by kernel_rfl) ⟨49, 1, [(17, .tup [(true, [.dead, .dead]), (false, [.dead])]), (21, .val true (Vrow.row r16.1)), (20, .val false [.lit (.int .i64 x1)]), (19, .adr (.box 0) [(0, 0)] 3 0), (38, .val false [.lit (.bool false)]), (39, .val false [.lit (.bool false)]), (25, .val false [.lit (.bool false)]), (26, .val false [.lit (.bool false)]), (16, .val false [.lit (.int .i64 r15.1)]), (15, .adr (.box 0) [(0, 0)] 3 0), (12, .val false [.lit (.bool true)]), (11, .val false [.lit (.int .i64 y3)]), (6, .val false [.lit (.int .i64 y3)]), (5, .adr (.box 5) [(0, 0)] 2 0), (4, .adr (.box 4) [(0, 0)] 2 0), (0, .adr (.box 0) [(0, 0)] 3 0), (1, .val false [.lit (.int .i64 x1)])], [(5, (Vtab.row r17.1)), (0, (CV.frzRow (Src.row r16.2))), (4, [.sl true 3 (([] : List Vrow).map Vrow.row), .sl true 1 (([] : List Int).map intRow)])]⟩ (fun cx => ?_) ?_
            · refine AT.runU tOk [(0, [4, 8]), (1, []), (2, [])] 6 [⟨[4, 8], 40, 5, 18⟩] [2, 1, 0] rfl (by kernel_rfl) (fun cx => ?_)
              refine AT.big1 tOk 3 (by kernel_rfl) (by kernel_rfl) ?_
              refine LAt.callL tOk [.lend, .rd] (f := 92) (av := #[.tmp 19, .tmp 20]) (ats := #[90, 3]) (d := (some 21)) (ty := 81) (g := none) (by kernel_rfl) (by kernel_rfl) (by kernel_rfl) [] (spec_l9Row2 n r15.2 x1 r16 er16) (by kernel_rfl) (.inl rfl) ?_
              refine LAt.fin (by kernel_rfl) (And.intro (And.intro (by kernel_rfl) (by kernel_rfl)) ?_)
              refine AT.big1 tOk 4 (by kernel_rfl) (by kernel_rfl) ?_
              refine LAt.callU tOk [.rd, .rd] (f := 91) (av := #[.tmp 18, .tmp 21]) (ats := #[40, 81]) (d := (some 22)) (ty := 107) (g := none) (by kernel_rfl) (by kernel_rfl) (by kernel_rfl) [.box 5] (spec_PutRow n (⟨y7, y8⟩ : Vtab) r16.1 r17 er17) (by kernel_rfl) (.inr (rets_cons (Vtab.row_mine _) (rets_cons (mine_cons mine_lit mine_nil) rets_nil))) ?_
              refine LAt.fin (by kernel_rfl) (And.intro (And.intro (by kernel_rfl) (by kernel_rfl)) ?_)
              refine AT.movT tOk 5 (ty := 107) (t := 22) (d := 17) (g := none) [(true, (Vtab.row r17.1)), (false, [.lit (.bool r17.2)])] _ (by kernel_rfl) (by kernel_rfl) (by kernel_rfl) (.inl rfl) (by kernel_rfl) (by kernel_rfl) (by kernel_rfl) (by kernel_rfl) rfl (fun cx => ?_)
              refine AT.runU tOk [(6, []), (7, [])] 1 [⟨[4, 8], 40, 5, 18⟩] [7, 6, 5, 4, 3, 2, 1, 0] rfl (by kernel_rfl) (fun cx => ?_)
              refine AT.big1 tOk 8 (by kernel_rfl) (by kernel_rfl) ?_
              refine LAt.runU tOk 1 (by kernel_rfl) ?_
              refine LAt.fin (by kernel_rfl) (And.intro (And.intro (by kernel_rfl) (by kernel_rfl)) ?_)
              exact AT.done [17, 21, 20, 19, 38, 39, 25, 26, 16, 15, 12, 11, 6, 5, 4, 0, 1] [5, 0, 4] _ (by kernel_rfl) (by kernel_rfl) rfl
            · show Tr _ _ _ _ _
              refine Tr.at ?_
              refine LAt.runU tOk 3 (by kernel_rfl) ?_
              refine LAt.doneU [6, 14, 13, 17, 21, 20, 19, 38, 39, 25, 26, 16, 15, 12, 11, 5, 4, 0, 1] [5, 0, 4] (by kernel_rfl) ?_
              exact Exists.intro (mo14, ((IntKind.wrap .i64 (y3 - 1)), r16.2.b, r16.2.i, r16.2.h, r17.1.Rows, r17.1.Pvid)) (And.intro H (And.intro (Nat.lt_succ_self mo14) (St.sub_of [6, 5, 4, 0, 1] [0, 5, 4] (by kernel_rfl))))
          · have H := bifT h3 H
            refine Tr.cond (b := true) (by kernel_rfl) (fun _ => ?_) (fun h => nomatch h)
            obtain ⟨r18, er18, H⟩ := bind_some H
            obtain ⟨r19, er19, H⟩ := bind_some H
            refine Tr.draw mixed 9 (by kernel_rfl) ⟨49, 1, [(40, .tup [(true, [.dead, .dead]), (false, [.dead])]), (44, .val false [.lit (.int .i64 (IntKind.wrap .i64 (2 + r18.1)))]), (43, .val false [.lit (.int .i64 r18.1)]), (42, .adr (.box 0) [(0, 0)] 3 0), (38, .val false [.lit (.bool true)]), (39, .val false [.lit (.bool true)]), (25, .val false [.lit (.bool false)]), (26, .val false [.lit (.bool false)]), (16, .val false [.lit (.int .i64 r15.1)]), (15, .adr (.box 0) [(0, 0)] 3 0), (12, .val false [.lit (.bool true)]), (11, .val false [.lit (.int .i64 y3)]), (6, .val false [.lit (.int .i64 y3)]), (5, .adr (.box 5) [(0, 0)] 2 0), (4, .adr (.box 4) [(0, 0)] 2 0), (0, .adr (.box 0) [(0, 0)] 3 0), (1, .val false [.lit (.int .i64 x1)])], [(5, (Vtab.row r19.1)), (0, (CV.frzRow (Src.row r18.2))), (4, [.sl true 3 (([] : List Vrow).map Vrow.row), .sl true 1 (([] : List Int).map intRow)])]⟩ (fun cx => ?_) ?_
            · refine AT.runU tOk [(0, [4, 8]), (1, [])] 7 [⟨[4, 8], 40, 5, 41⟩] [1, 0] rfl (by kernel_rfl) (fun cx => ?_)
              refine AT.big1 tOk 2 (by kernel_rfl) (by kernel_rfl) ?_
              refine LAt.callL tOk [.lend, .rd] (f := 76) (av := #[.tmp 42, .const (.int .i64 2)]) (ats := #[90, 3]) (d := (some 43)) (ty := 3) (g := none) (by kernel_rfl) (by kernel_rfl) (by kernel_rfl) [] (spec_l1Below n r15.2 2 r18 er18) (by kernel_rfl) (.inl rfl) ?_
              refine LAt.fin (by kernel_rfl) (And.intro (And.intro (by kernel_rfl) (by kernel_rfl)) ?_)
              refine AT.runU tOk [(3, [])] 5 [⟨[4, 8], 40, 5, 41⟩] [3, 2, 1, 0] rfl (by kernel_rfl) (fun cx => ?_)
              refine AT.big1 tOk 4 (by kernel_rfl) (by kernel_rfl) ?_
              refine LAt.callU tOk [.rd, .rd] (f := 90) (av := #[.tmp 41, .tmp 44]) (ats := #[40, 3]) (d := (some 45)) (ty := 107) (g := none) (by kernel_rfl) (by kernel_rfl) (by kernel_rfl) [.box 5] (spec_DropRow n (⟨y7, y8⟩ : Vtab) (IntKind.wrap .i64 (2 + r18.1)) r19 er19) (by kernel_rfl) (.inr (rets_cons (Vtab.row_mine _) (rets_cons (mine_cons mine_lit mine_nil) rets_nil))) ?_
              refine LAt.fin (by kernel_rfl) (And.intro (And.intro (by kernel_rfl) (by kernel_rfl)) ?_)
              refine AT.movT tOk 5 (ty := 107) (t := 45) (d := 40) (g := none) [(true, (Vtab.row r19.1)), (false, [.lit (.bool r19.2)])] _ (by kernel_rfl) (by kernel_rfl) (by kernel_rfl) (.inl rfl) (by kernel_rfl) (by kernel_rfl) (by kernel_rfl) (by kernel_rfl) rfl (fun cx => ?_)
              refine AT.runU tOk [(6, []), (7, [])] 1 [⟨[4, 8], 40, 5, 41⟩] [7, 6, 5, 4, 3, 2, 1, 0] rfl (by kernel_rfl) (fun cx => ?_)
              refine AT.big1 tOk 8 (by kernel_rfl) (by kernel_rfl) ?_
              refine LAt.runU tOk 1 (by kernel_rfl) ?_
              refine LAt.fin (by kernel_rfl) (And.intro (And.intro (by kernel_rfl) (by kernel_rfl)) ?_)
              exact AT.done [40, 44, 43, 42, 38, 39, 25, 26, 16, 15, 12, 11, 6, 5, 4, 0, 1] [5, 0, 4] _ (by kernel_rfl) (by kernel_rfl) rfl
            · show Tr _ _ _ _ _
              refine Tr.at ?_
              refine LAt.runU tOk 3 (by kernel_rfl) ?_
              refine LAt.doneU [6, 14, 13, 40, 44, 43, 42, 38, 39, 25, 26, 16, 15, 12, 11, 5, 4, 0, 1] [5, 0, 4] (by kernel_rfl) ?_
              exact Exists.intro (mo14, ((IntKind.wrap .i64 (y3 - 1)), r18.2.b, r18.2.i, r18.2.h, r19.1.Rows, r19.1.Pvid)) (And.intro H (And.intro (Nat.lt_succ_self mo14) (St.sub_of [6, 5, 4, 0, 1] [0, 5, 4] (by kernel_rfl))))
        · have H := bifT h2 H
          refine Tr.cond (b := true) (by kernel_rfl) (fun _ => ?_) (fun h => nomatch h)
          obtain ⟨r20, er20, H⟩ := bind_some H
          obtain ⟨r21, er21, H⟩ := bind_some H
          obtain ⟨r22, er22, H⟩ := bind_some H
          refine Tr.draw mixed 12 (by kernel_rfl) ⟨49, 1, [(27, .tup [(true, [.dead, .dead]), (false, [.dead])]), (34, .val false [.lit (.int .i64 (IntKind.wrap .i64 (1 + r21.1)))]), (33, .val false [.lit (.int .i64 r21.1)]), (32, .adr (.box 0) [(0, 0)] 3 0), (31, .val false [.lit (.int .i64 r20.1)]), (30, .val false [.lit (.int .i64 x1)]), (29, .adr (.box 0) [(0, 0)] 3 0), (25, .val false [.lit (.bool true)]), (26, .val false [.lit (.bool true)]), (16, .val false [.lit (.int .i64 r15.1)]), (15, .adr (.box 0) [(0, 0)] 3 0), (12, .val false [.lit (.bool true)]), (11, .val false [.lit (.int .i64 y3)]), (6, .val false [.lit (.int .i64 y3)]), (5, .adr (.box 5) [(0, 0)] 2 0), (4, .adr (.box 4) [(0, 0)] 2 0), (0, .adr (.box 0) [(0, 0)] 3 0), (1, .val false [.lit (.int .i64 x1)])], [(5, (Vtab.row r22.1)), (0, (CV.frzRow (Src.row r21.2))), (4, [.sl true 3 (([] : List Vrow).map Vrow.row), .sl true 1 (([] : List Int).map intRow)])]⟩ (fun cx => ?_) ?_
          · refine AT.runU tOk [(0, [7, 11]), (1, []), (2, []), (4, [])] 8 [⟨[7, 11], 40, 5, 28⟩] [4, 2, 1, 0] rfl (by kernel_rfl) (fun cx => ?_)
            refine AT.big1 tOk 3 (by kernel_rfl) (by kernel_rfl) ?_
            refine LAt.callL tOk [.lend, .rd] (f := 76) (av := #[.tmp 29, .tmp 30]) (ats := #[90, 3]) (d := (some 31)) (ty := 3) (g := none) (by kernel_rfl) (by kernel_rfl) (by kernel_rfl) [] (spec_l1Below n r15.2 x1 r20 er20) (by kernel_rfl) (.inl rfl) ?_
            refine LAt.fin (by kernel_rfl) (And.intro (And.intro (by kernel_rfl) (by kernel_rfl)) ?_)
            refine AT.big1 tOk 5 (by kernel_rfl) (by kernel_rfl) ?_
            refine LAt.callL tOk [.lend, .rd] (f := 76) (av := #[.tmp 32, .const (.int .i64 3)]) (ats := #[90, 3]) (d := (some 33)) (ty := 3) (g := none) (by kernel_rfl) (by kernel_rfl) (by kernel_rfl) [] (spec_l1Below n r20.2 3 r21 er21) (by kernel_rfl) (.inl rfl) ?_
            refine LAt.fin (by kernel_rfl) (And.intro (And.intro (by kernel_rfl) (by kernel_rfl)) ?_)
            refine AT.runU tOk [(6, [])] 5 [⟨[7, 11], 40, 5, 28⟩] [6, 5, 3, 4, 2, 1, 0] rfl (by kernel_rfl) (fun cx => ?_)
            refine AT.big1 tOk 7 (by kernel_rfl) (by kernel_rfl) ?_
            refine LAt.callU tOk [.rd, .rd, .rd] (f := 89) (av := #[.tmp 28, .tmp 31, .tmp 34]) (ats := #[40, 3, 3]) (d := (some 35)) (ty := 107) (g := none) (by kernel_rfl) (by kernel_rfl) (by kernel_rfl) [.box 5] (spec_SetPvid n (⟨y7, y8⟩ : Vtab) r20.1 (IntKind.wrap .i64 (1 + r21.1)) r22 er22) (by kernel_rfl) (.inr (rets_cons (Vtab.row_mine _) (rets_cons (mine_cons mine_lit mine_nil) rets_nil))) ?_
            refine LAt.fin (by kernel_rfl) (And.intro (And.intro (by kernel_rfl) (by kernel_rfl)) ?_)
            refine AT.movT tOk 8 (ty := 107) (t := 35) (d := 27) (g := none) [(true, (Vtab.row r22.1)), (false, [.lit (.bool r22.2)])] _ (by kernel_rfl) (by kernel_rfl) (by kernel_rfl) (.inl rfl) (by kernel_rfl) (by kernel_rfl) (by kernel_rfl) (by kernel_rfl) rfl (fun cx => ?_)
            refine AT.runU tOk [(9, []), (10, [])] 1 [⟨[7, 11], 40, 5, 28⟩] [10, 9, 8, 7, 6, 5, 3, 4, 2, 1, 0] rfl (by kernel_rfl) (fun cx => ?_)
            refine AT.big1 tOk 11 (by kernel_rfl) (by kernel_rfl) ?_
            refine LAt.runU tOk 1 (by kernel_rfl) ?_
            refine LAt.fin (by kernel_rfl) (And.intro (And.intro (by kernel_rfl) (by kernel_rfl)) ?_)
            exact AT.done [27, 34, 33, 32, 31, 30, 29, 25, 26, 16, 15, 12, 11, 6, 5, 4, 0, 1] [5, 0, 4] _ (by kernel_rfl) (by kernel_rfl) rfl
          · show Tr _ _ _ _ _
            refine Tr.at ?_
            refine LAt.runU tOk 3 (by kernel_rfl) ?_
            refine LAt.doneU [6, 14, 13, 27, 34, 33, 32, 31, 30, 29, 25, 26, 16, 15, 12, 11, 5, 4, 0, 1] [5, 0, 4] (by kernel_rfl) ?_
            exact Exists.intro (mo14, ((IntKind.wrap .i64 (y3 - 1)), r21.2.b, r21.2.i, r21.2.h, r22.1.Rows, r22.1.Pvid)) (And.intro H (And.intro (Nat.lt_succ_self mo14) (St.sub_of [6, 5, 4, 0, 1] [0, 5, 4] (by kernel_rfl))))
  · rintro ⟨y9, y10, y11, y12, y13⟩ H
    have H : (spec_l9Draw_J1 n y9 y10 y11 y12 y13) = some r := H
    unfold spec_l9Draw_J1 at H
    show Tr _ _ _ _ _
    refine Tr.rs ?_
    refine LAt.runU tOk 2 (by kernel_rfl) ?_
    refine LAt.doneU [4, 0] [4, 0] (by kernel_rfl) ?_
    refine Tr.ret ?_
    have H := Option.some.inj H
    subst H
    exact Fin.ofY _ [(true, [.sl true 3 (y12.map Vrow.row), .sl true 1 (y13.map intRow)])] [] _ [] _ [(0, [.sl false 1 (CV.frzEs (y9.map byteRow)), .lit (.int .i64 y10), .lit (.int .i64 y11)])] (by kernel_rfl) rfl rfl rfl (by kernel_rfl) (by kernel_rfl) (by kernel_rfl) (by kernel_rfl) rfl rfl rfl

def spec_l9Any_J1 (n : Nat) (r1 : Int × Src) (r3 : Int × Src) (y7 : (List Vrow)) (y8 : (List Int)) : Option (Vtab × Int × Src) :=
  (some ((⟨y7, y8⟩ : Vtab), (IntKind.wrap .i64 (1 + r1.1)), r3.2))
def spec_l9Any_L2 (n : Nat) : Nat → Int → (List Vrow) → (List Int) → Option (((List Vrow) × (List Int)) ⊕ (Vtab × Int × Src))
  | 0, _, _, _ => none
  | mo9 + 1, y4, y5, y6 => (bif (decide (y4 < 6)) then ((spec_l9RowF n (⟨y5, y6⟩ : Vtab) (⟨(IntKind.wrap .i64 (10 + y4)), 0, 0⟩ : Vrow)).bind fun r10 => (spec_l9Any_L2 n mo9 (IntKind.wrap .i64 (y4 + 1)) r10.Rows r10.Pvid)) else (some (Sum.inl (y5, y6))))
def spec_l9AnyF (n : Nat) (x0 : Src) : Option (Vtab × Int × Src) :=
  ((spec_l1BelowF n x0 4).bind fun r1 => ((spec_l9DrawF n r1.2 (IntKind.wrap .i64 (1 + r1.1))).bind fun r2 => ((spec_l1BelowF n r2.2 12).bind fun r3 => (bif (r3.1 == 0) then ((spec_l1IntF n r3.2 [0, 1, 9, 100]).bind fun r14 => ((spec_l1IntF n r14.2 [(-1), 0, 1, 64]).bind fun r15 => ((spec_l1BelowF n r15.2 3).bind fun r16 => (bif (decide (r2.1.Rows.length + [(⟨r14.1, r15.1, r16.1⟩ : Vrow)].length ≤ 268435456)) then (some ((⟨(r2.1.Rows ++ [(⟨r14.1, r15.1, r16.1⟩ : Vrow)]), r2.1.Pvid⟩ : Vtab), (IntKind.wrap .i64 (1 + r1.1)), r16.2)) else none)))) else (bif (r3.1 == 1) then ((spec_l1IntF n r3.2 [0, 7]).bind fun r12 => ((idx r2.1.Pvid 0).bind fun v13 => (some ((⟨r2.1.Rows, (r2.1.Pvid.set (((0 : Int)).toNat) r12.1)⟩ : Vtab), (IntKind.wrap .i64 (1 + r1.1)), r12.2)))) else (bif (r3.1 == 2) then ((spec_l1IntF n r3.2 [0, 6, 7]).bind fun r11 => (some (r2.1, r11.1, r11.2))) else (bif (r3.1 == 3) then ((spec_l9Any_L2 n n 0 r2.1.Rows r2.1.Pvid).bind fun o => match o with | .inl (y7, y8) => (spec_l9Any_J1 n r1 r3 y7 y8) | .inr r => some r) else (some (r2.1, (IntKind.wrap .i64 (1 + r1.1)), r3.2)))))))))
/-- loop.example/g00326/spec.l9Any -/
theorem spec_l9Any (n : Nat) (x0 : Src) (r : Vtab × Int × Src) (H : spec_l9AnyF n x0 = some r) : LCall Try.prog 86 [.ptr (CV.frzRow (Src.row x0))] [.val true (Vtab.row r.1), .val false [.lit (.int .i64 r.2.1)]] [(0, (CV.frzRow (Src.row r.2.2)))] := by
  refine LCall.of_body tOk Try.func86 rfl (c := (.seq (.region 0 (rg Try.f86 0) false) (.seq (.region 1 (rg Try.f86 1) false) (.seq (.region 2 (rg Try.f86 2) false) (.seq (.seq (.region 3 (rg Try.f86 3) false) (.block 0 (.seq (.region 4 (rg Try.f86 4) false) (.cond (.tmp 15) (.region 5 (rg Try.f86 5) true) (.seq (.region 6 (rg Try.f86 6) false) (.cond (.tmp 31) (.region 7 (rg Try.f86 7) true) (.seq (.region 8 (rg Try.f86 8) false) (.cond (.tmp 39) (.region 9 (rg Try.f86 9) false) (.seq (.region 10 (rg Try.f86 10) false) (.cond (.tmp 44) (.seq (.region 11 (rg Try.f86 11) false) (.block 1 (.loop (.seq (.seq (.region 12 (rg Try.f86 12) false) (.cond (.tmp 47) .skip (.exit 1))) (.seq (.block 2 (.region 14 (rg Try.f86 14) false)) (.region 13 (rg Try.f86 13) false)))))) .skip)))))))))) (.seq (.region 15 (rg Try.f86 15) false) .ret)))))) (by kernel_rfl) (Nat.le_of_ble_eq_true (by kernel_rfl)) 1 (rs := [.cell 2 40, .tmp 3]) rfl [] .nil [(true, (Vtab.row r.1)), (false, [.lit (.int .i64 r.2.1)])] [] [(0, (CV.frzRow (Src.row r.2.2)))] fun cx => ?_
  show Tr _ _ _ ⟨57, 1, [(0, .adr (.box 0) [(0, 0)] 3 0)], [(0, (CV.frzRow (Src.row x0)))]⟩ _
  unfold spec_l9AnyF at H
  refine Tr.rs ?_
  refine LAt.runU tOk 2 (by kernel_rfl) ?_
  refine LAt.doneU [3, 2, 0] [2, 0] (by kernel_rfl) ?_
  refine Tr.rs ?_
  refine LAt.runU tOk 1 (by kernel_rfl) ?_
  obtain ⟨r1, er1, H⟩ := bind_some H
  refine LAt.callL tOk [.lend, .rd] (f := 76) (av := #[.tmp 7, .const (.int .i64 4)]) (ats := #[90, 3]) (d := (some 8)) (ty := 3) (g := none) (by kernel_rfl) (by kernel_rfl) (by kernel_rfl) [] (spec_l1Below n x0 4 r1 er1) (by kernel_rfl) (.inl rfl) ?_
  refine LAt.runU tOk 2 (by kernel_rfl) ?_
  refine LAt.doneU [4, 3, 2, 0] [0, 2] (by kernel_rfl) ?_
  refine Tr.rs ?_
  refine LAt.runU tOk 2 (by kernel_rfl) ?_
  obtain ⟨r2, er2, H⟩ := bind_some H
  refine LAt.callL tOk [.lend, .rd] (f := 87) (av := #[.tmp 10, .tmp 11]) (ats := #[90, 3]) (d := (some 12)) (ty := 40) (g := none) (by kernel_rfl) (by kernel_rfl) (by kernel_rfl) [] (spec_l9Draw n r1.2 (IntKind.wrap .i64 (1 + r1.1)) r2 er2) (by kernel_rfl) (.inl rfl) ?_
  refine LAt.runU tOk 2 (by kernel_rfl) ?_
  refine LAt.doneU [5, 4, 3, 2, 0] [5, 0, 2] (by kernel_rfl) ?_
  refine Tr.seq ?_
  refine Tr.rs ?_
  refine LAt.runU tOk 1 (by kernel_rfl) ?_
  obtain ⟨r3, er3, H⟩ := bind_some H
  refine LAt.callL tOk [.lend, .rd] (f := 76) (av := #[.tmp 13, .const (.int .i64 12)]) (ats := #[90, 3]) (d := (some 14)) (ty := 3) (g := none) (by kernel_rfl) (by kernel_rfl) (by kernel_rfl) [] (spec_l1Below n r2.2 12 r3 er3) (by kernel_rfl) (.inl rfl) ?_
  refine LAt.doneU [14, 5, 4, 3, 2, 0] [0, 5, 2] (by kernel_rfl) ?_
  refine Tr.block ?_
  refine Tr.rs ?_
  refine LAt.runU tOk 2 (by kernel_rfl) ?_
  refine LAt.doneU [15, 14, 5, 4, 3, 2, 0] [0, 5, 2] (by kernel_rfl) ?_
  refine Tr.to ⟨57, 1, [(15, .val false [.lit (.bool (r3.1 == 0))]), (14, .val false [.lit (.int .i64 r3.1)]), (5, .adr (.box 5) [(0, 0)] 2 0), (4, .val false [.lit (.int .i64 (IntKind.wrap .i64 (1 + r1.1)))]), (3, .val false [.lit (.int .i64 0)]), (2, .adr (.box 2) [(0, 0)] 2 0), (0, .adr (.box 0) [(0, 0)] 3 0)], [(0, (CV.frzRow (Src.row r3.2))), (5, (Vtab.row r2.1)), (2, [.sl true 3 (([] : List Vrow).map Vrow.row), .sl true 1 (([] : List Int).map intRow)])]⟩ (by kernel_rfl) ?_
  cases h1 : (r3.1 == 0)
  · have H := bifF h1 H
    refine Tr.cond (b := false) (by kernel_rfl) (fun h => nomatch h) (fun _ => ?_)
    refine Tr.rs ?_
    refine LAt.runU tOk 2 (by kernel_rfl) ?_
    refine LAt.doneU [31, 14, 5, 4, 3, 2, 0] [0, 5, 2] (by kernel_rfl) ?_
    refine Tr.to ⟨57, 1, [(31, .val false [.lit (.bool (r3.1 == 1))]), (14, .val false [.lit (.int .i64 r3.1)]), (5, .adr (.box 5) [(0, 0)] 2 0), (4, .val false [.lit (.int .i64 (IntKind.wrap .i64 (1 + r1.1)))]), (3, .val false [.lit (.int .i64 0)]), (2, .adr (.box 2) [(0, 0)] 2 0), (0, .adr (.box 0) [(0, 0)] 3 0)], [(0, (CV.frzRow (Src.row r3.2))), (5, (Vtab.row r2.1)), (2, [.sl true 3 (([] : List Vrow).map Vrow.row), .sl true 1 (([] : List Int).map intRow)])]⟩ (by kernel_rfl) ?_
    cases h2 : (r3.1 == 1)
    · have H := bifF h2 H
      refine Tr.cond (b := false) (by kernel_rfl) (fun h => nomatch h) (fun _ => ?_)
      refine Tr.rs ?_
      refine LAt.runU tOk 2 (by kernel_rfl) ?_
      refine LAt.doneU [39, 14, 5, 4, 3, 2, 0] [0, 5, 2] (by kernel_rfl) ?_
      refine Tr.to ⟨57, 1, [(39, .val false [.lit (.bool (r3.1 == 2))]), (14, .val false [.lit (.int .i64 r3.1)]), (5, .adr (.box 5) [(0, 0)] 2 0), (4, .val false [.lit (.int .i64 (IntKind.wrap .i64 (1 + r1.1)))]), (3, .val false [.lit (.int .i64 0)]), (2, .adr (.box 2) [(0, 0)] 2 0), (0, .adr (.box 0) [(0, 0)] 3 0)], [(0, (CV.frzRow (Src.row r3.2))), (5, (Vtab.row r2.1)), (2, [.sl true 3 (([] : List Vrow).map Vrow.row), .sl true 1 (([] : List Int).map intRow)])]⟩ (by kernel_rfl) ?_
      cases h3 : (r3.1 == 2)
      · have H := bifF h3 H
        refine Tr.cond (b := false) (by kernel_rfl) (fun h => nomatch h) (fun _ => ?_)
        refine Tr.rs ?_
        refine LAt.runU tOk 2 (by kernel_rfl) ?_
        refine LAt.doneU [44, 5, 4, 3, 2, 0] [0, 5, 2] (by kernel_rfl) ?_
        refine Tr.to ⟨57, 1, [(44, .val false [.lit (.bool (r3.1 == 3))]), (5, .adr (.box 5) [(0, 0)] 2 0), (4, .val false [.lit (.int .i64 (IntKind.wrap .i64 (1 + r1.1)))]), (3, .val false [.lit (.int .i64 0)]), (2, .adr (.box 2) [(0, 0)] 2 0), (0, .adr (.box 0) [(0, 0)] 3 0)], [(0, (CV.frzRow (Src.row r3.2))), (5, (Vtab.row r2.1)), (2, [.sl true 3 (([] : List Vrow).map Vrow.row), .sl true 1 (([] : List Int).map intRow)])]⟩ (by kernel_rfl) ?_
        cases h4 : (r3.1 == 3)
        · have H := bifF h4 H
          refine Tr.cond (b := false) (by kernel_rfl) (fun h => nomatch h) (fun _ => ?_)
          refine Tr.skip ?_
          show Tr _ _ _ _ _
          refine Tr.rs ?_
          refine LAt.runU tOk 4 (by kernel_rfl) ?_
          refine LAt.doneU [3, 2, 0] [2, 0] (by kernel_rfl) ?_
          refine Tr.ret ?_
          have H := Option.some.inj H
          subst H
          exact Fin.ofY _ [(true, (Vtab.row r2.1)), (false, [.lit (.int .i64 (IntKind.wrap .i64 (1 + r1.1)))])] [] _ [] _ [(0, (CV.frzRow (Src.row r3.2)))] (by kernel_rfl) rfl rfl rfl (by kernel_rfl) (by kernel_rfl) (by kernel_rfl) (by kernel_rfl) rfl rfl rfl
        · have H := bifT h4 H
          refine Tr.cond (b := true) (by kernel_rfl) (fun _ => ?_) (fun h => nomatch h)
          refine Tr.rs ?_
          refine LAt.runU tOk 1 (by kernel_rfl) ?_
          refine LAt.doneU [6, 5, 4, 3, 2, 0] [0, 5, 2] (by kernel_rfl) ?_
          obtain ⟨o9, eo9, Ho9⟩ := bind_some H
          clear H
          refine Tr.mid (ι := (List Vrow) × (List Int)) (fun v => ⟨57, 1, [(5, .adr (.box 5) [(0, 0)] 2 0), (4, .val false [.lit (.int .i64 (IntKind.wrap .i64 (1 + r1.1)))]), (3, .val false [.lit (.int .i64 0)]), (2, .adr (.box 2) [(0, 0)] 2 0), (0, .adr (.box 0) [(0, 0)] 3 0)], [(0, (CV.frzRow (Src.row r3.2))), (5, [.sl true 3 (v.1.map Vrow.row), .sl true 1 (v.2.map intRow)]), (2, [.sl true 3 (([] : List Vrow).map Vrow.row), .sl true 1 (([] : List Int).map intRow)])]⟩) (fun v => spec_l9Any_J1 n r1 r3 v.1 v.2 = some r) ?_ ?_
          · refine Tr.block ?_
            refine Tr.loop (ι := Nat × (Int × (List Vrow) × (List Int))) (fun v => ⟨57, 1, [(6, .val false [.lit (.int .i64 v.2.1)]), (5, .adr (.box 5) [(0, 0)] 2 0), (4, .val false [.lit (.int .i64 (IntKind.wrap .i64 (1 + r1.1)))]), (3, .val false [.lit (.int .i64 0)]), (2, .adr (.box 2) [(0, 0)] 2 0), (0, .adr (.box 0) [(0, 0)] 3 0)], [(0, (CV.frzRow (Src.row r3.2))), (5, [.sl true 3 (v.2.2.1.map Vrow.row), .sl true 1 (v.2.2.2.map intRow)]), (2, [.sl true 3 (([] : List Vrow).map Vrow.row), .sl true 1 (([] : List Int).map intRow)])]⟩) (fun v => spec_l9Any_L2 n v.1 v.2.1 v.2.2.1 v.2.2.2 = some o9) (fun v => v.1) (n, (0, r2.1.Rows, r2.1.Pvid)) eo9 (St.sub_of [6, 5, 4, 3, 2, 0] [0, 5, 2] (by kernel_rfl)) ?_
            rintro ⟨mo9, y4, y5, y6⟩ H
            have H : spec_l9Any_L2 n mo9 y4 y5 y6 = some o9 := H
            obtain _ | mo9 := mo9
            · cases (show (none : Option _) = some o9 from H)
            · rw [spec_l9Any_L2] at H
              refine Tr.seq ?_
              refine Tr.rs ?_
              refine LAt.runU tOk 2 (by kernel_rfl) ?_
              refine LAt.doneU [47, 46, 6, 5, 4, 3, 2, 0] [0, 5, 2] (by kernel_rfl) ?_
              refine Tr.to ⟨57, 1, [(47, .val false [.lit (.bool (decide (y4 < 6)))]), (46, .val false [.lit (.int .i64 y4)]), (6, .val false [.lit (.int .i64 y4)]), (5, .adr (.box 5) [(0, 0)] 2 0), (4, .val false [.lit (.int .i64 (IntKind.wrap .i64 (1 + r1.1)))]), (3, .val false [.lit (.int .i64 0)]), (2, .adr (.box 2) [(0, 0)] 2 0), (0, .adr (.box 0) [(0, 0)] 3 0)], [(0, (CV.frzRow (Src.row r3.2))), (5, [.sl true 3 (y5.map Vrow.row), .sl true 1 (y6.map intRow)]), (2, [.sl true 3 (([] : List Vrow).map Vrow.row), .sl true 1 (([] : List Int).map intRow)])]⟩ (by kernel_rfl) ?_
              cases h5 : (decide (y4 < 6))
              · have H := bifF h5 H
                refine Tr.cond (b := false) (by kernel_rfl) (fun h => nomatch h) (fun _ => ?_)
                refine Tr.exit ?_
                refine And.intro (fun _ => ?_) (fun h => absurd rfl h)
                have H := Option.some.inj H
                subst H
                have H := Ho9
                dsimp only at H
                exact Exists.intro (y5, y6) (And.intro H (St.sub_of [5, 4, 3, 2, 0] [0, 5, 2] (by kernel_rfl)))
              · have H := bifT h5 H
                refine Tr.cond (b := true) (by kernel_rfl) (fun _ => ?_) (fun h => nomatch h)
                refine Tr.skip ?_
                show Tr _ _ _ _ _
                refine Tr.seq ?_
                refine Tr.block ?_
                refine Tr.at ?_
                refine LAt.runU tOk 4 (by kernel_rfl) ?_
                obtain ⟨r10, er10, H⟩ := bind_some H
                refine LAt.callU tOk [.rd, .rd] (f := 88) (av := #[.tmp 50, .tmp 53]) (ats := #[40, 81]) (d := (some 54)) (ty := 40) (g := none) (by kernel_rfl) (by kernel_rfl) (by kernel_rfl) [.box 5] (spec_l9Row n (⟨y5, y6⟩ : Vtab) (⟨(IntKind.wrap .i64 (10 + y4)), 0, 0⟩ : Vrow) r10 er10) (by kernel_rfl) (.inr (rets_cons (Vtab.row_mine _) rets_nil)) ?_
                refine LAt.runU tOk 1 (by kernel_rfl) ?_
                refine LAt.doneU [53, 52, 51, 47, 46, 6, 5, 4, 3, 2, 0] [5, 0, 2] (by kernel_rfl) ?_
                show Tr _ _ _ _ _
                refine Tr.at ?_
                refine LAt.runU tOk 3 (by kernel_rfl) ?_
                refine LAt.doneU [6, 49, 48, 53, 52, 51, 47, 46, 5, 4, 3, 2, 0] [5, 0, 2] (by kernel_rfl) ?_
                exact Exists.intro (mo9, ((IntKind.wrap .i64 (y4 + 1)), r10.Rows, r10.Pvid)) (And.intro H (And.intro (Nat.lt_succ_self mo9) (St.sub_of [6, 5, 4, 3, 2, 0] [0, 5, 2] (by kernel_rfl))))
          · rintro ⟨y7, y8⟩ H
            have H : (spec_l9Any_J1 n r1 r3 y7 y8) = some r := H
            unfold spec_l9Any_J1 at H
            show Tr _ _ _ _ _
            refine Tr.rs ?_
            refine LAt.runU tOk 4 (by kernel_rfl) ?_
            refine LAt.doneU [3, 2, 0] [2, 0] (by kernel_rfl) ?_
            refine Tr.ret ?_
            have H := Option.some.inj H
            subst H
            exact Fin.ofY _ [(true, [.sl true 3 (y7.map Vrow.row), .sl true 1 (y8.map intRow)]), (false, [.lit (.int .i64 (IntKind.wrap .i64 (1 + r1.1)))])] [] _ [] _ [(0, (CV.frzRow (Src.row r3.2)))] (by kernel_rfl) rfl rfl rfl (by kernel_rfl) (by kernel_rfl) (by kernel_rfl) (by kernel_rfl) rfl rfl rfl
      · have H := bifT h3 H
        refine Tr.cond (b := true) (by kernel_rfl) (fun _ => ?_) (fun h => nomatch h)
        refine Tr.at ?_
        refine LAt.runU tOk 2 (by kernel_rfl) ?_
        obtain ⟨r11, er11, H⟩ := bind_some H
        refine LAt.callL tOk [.lend, .rd] (f := 79) (av := #[.tmp 41, .tmp 42]) (ats := #[90, 33]) (d := (some 43)) (ty := 3) (g := none) (by kernel_rfl) (by kernel_rfl) (by kernel_rfl) [] (spec_l1Int n r3.2 [0, 6, 7] r11 er11) (by kernel_rfl) (.inl rfl) ?_
        refine LAt.runU tOk 1 (by kernel_rfl) ?_
        refine LAt.doneU [4, 5, 3, 2, 0] [0, 5, 2] (by kernel_rfl) ?_
        show Tr _ _ _ _ _
        refine Tr.rs ?_
        refine LAt.runU tOk 4 (by kernel_rfl) ?_
        refine LAt.doneU [3, 2, 0] [2, 0] (by kernel_rfl) ?_
        refine Tr.ret ?_
        have H := Option.some.inj H
        subst H
        exact Fin.ofY _ [(true, (Vtab.row r2.1)), (false, [.lit (.int .i64 r11.1)])] [] _ [] _ [(0, (CV.frzRow (Src.row r11.2)))] (by kernel_rfl) rfl rfl rfl (by kernel_rfl) (by kernel_rfl) (by kernel_rfl) (by kernel_rfl) rfl rfl rfl
    · have H := bifT h2 H
      refine Tr.cond (b := true) (by kernel_rfl) (fun _ => ?_) (fun h => nomatch h)
      obtain ⟨r12, er12, H⟩ := bind_some H
      obtain ⟨v13, ev13, H⟩ := bind_some H
      refine Tr.draw mixed 7 (by kernel_rfl) ⟨57, 1, [(5, .adr (.box 5) [(0, 0)] 2 0), (4, .val false [.lit (.int .i64 (IntKind.wrap .i64 (1 + r1.1)))]), (3, .val false [.lit (.int .i64 0)]), (2, .adr (.box 2) [(0, 0)] 2 0), (0, .adr (.box 0) [(0, 0)] 3 0)], [(5, [.sl true 3 (r2.1.Rows.map Vrow.row), .sl true 1 ((r2.1.Pvid.set (((0 : Int)).toNat) r12.1).map intRow)]), (0, (CV.frzRow (Src.row r12.2))), (2, [.sl true 3 (([] : List Vrow).map Vrow.row), .sl true 1 (([] : List Int).map intRow)])]⟩ (fun cx => ?_) ?_
      · refine AT.runU tOk [(0, []), (1, [6]), (2, [])] 4 [⟨[6], 33, 33, 34⟩] [2, 1, 0] rfl (by kernel_rfl) (fun cx => ?_)
        refine AT.big1 tOk 3 (by kernel_rfl) (by kernel_rfl) ?_
        refine LAt.runU tOk 1 (by kernel_rfl) ?_
        refine LAt.fin (by kernel_rfl) (And.intro (And.intro (by kernel_rfl) (by kernel_rfl)) ?_)
        refine AT.big1 tOk 4 (by kernel_rfl) (by kernel_rfl) ?_
        refine LAt.callL tOk [.lend, .rd] (f := 79) (av := #[.tmp 35, .tmp 36]) (ats := #[90, 33]) (d := (some 37)) (ty := 3) (g := none) (by kernel_rfl) (by kernel_rfl) (by kernel_rfl) [] (spec_l1Int n r3.2 [0, 7] r12 er12) (by kernel_rfl) (.inl rfl) ?_
        refine LAt.fin (by kernel_rfl) (And.intro (And.intro (by kernel_rfl) (by kernel_rfl)) ?_)
        refine AT.indexO tOk 5 (t := 33) (ty := 0) (x := (.tmp 34)) (y := (.const (.int .i64 0))) (d := 38) (g := none) ⟨(.box 5), [(0, 0)], 1, true, 1, (r2.1.Pvid.map intRow)⟩ 0 (((0 : Int)).toNat) (intRow v13) _ (by kernel_rfl) (by kernel_rfl) (by kernel_rfl) (by kernel_rfl) (by kernel_rfl) (by kernel_rfl) rfl (by kernel_rfl) (idx_isE ev13) rfl rfl (fun cx => ?_)
        refine AT.big1 tOk 6 (by kernel_rfl) (by kernel_rfl) ?_
        refine LAt.storeU tOk (t := 3) (ty := 0) (ad := (.tmp 38)) (x := (.tmp 37)) (g := none) ⟨.int .i64, 1, 8, [.lit (.int .i64 0)]⟩ false [.lit (.int .i64 r12.1)] (.box 5) [(0, 0), (1, (((0 : Int)).toNat))] [(1, (((0 : Int)).toNat))] 1 0 [.sl true 2 [(Vtab.row r2.1)]] (intRow v13) (Vtab.row r2.1) [.sl true 3 (r2.1.Rows.map Vrow.row), .sl true 1 ((r2.1.Pvid.set (((0 : Int)).toNat) r12.1).map intRow)] (by kernel_rfl) (by kernel_rfl) (by kernel_rfl) (by kernel_rfl) (by kernel_rfl) (by kernel_rfl) (getQ_elemB rfl (idx_get ev13).2) rfl (by intro h; cases h) (by kernel_rfl) (by kernel_rfl) (by kernel_rfl) (modQ_elem (new := r12.1) rfl (idx_get ev13).2 rfl) (by kernel_rfl) ?_
        refine LAt.fin (by kernel_rfl) (And.intro (And.intro (by kernel_rfl) (by kernel_rfl)) ?_)
        exact AT.done [5, 4, 3, 2, 0] [5, 0, 2] _ (by kernel_rfl) (by kernel_rfl) rfl
      · show Tr _ _ _ _ _
        refine Tr.rs ?_
        refine LAt.runU tOk 4 (by kernel_rfl) ?_
        refine LAt.doneU [3, 2, 0] [2, 0] (by kernel_rfl) ?_
        refine Tr.ret ?_
        have H := Option.some.inj H
        subst H
        exact Fin.ofY _ [(true, [.sl true 3 (r2.1.Rows.map Vrow.row), .sl true 1 ((r2.1.Pvid.set (((0 : Int)).toNat) r12.1).map intRow)]), (false, [.lit (.int .i64 (IntKind.wrap .i64 (1 + r1.1)))])] [] _ [] _ [(0, (CV.frzRow (Src.row r12.2)))] (by kernel_rfl) rfl rfl rfl (by kernel_rfl) (by kernel_rfl) (by kernel_rfl) (by kernel_rfl) rfl rfl rfl
  · have H := bifT h1 H
    refine Tr.cond (b := true) (by kernel_rfl) (fun _ => ?_) (fun h => nomatch h)
    obtain ⟨r14, er14, H⟩ := bind_some H
    obtain ⟨r15, er15, H⟩ := bind_some H
    obtain ⟨r16, er16, H⟩ := bind_some H
    obtain ⟨hg17, H⟩ := guard_some H
    refine Tr.draw mixed 15 (by kernel_rfl) ⟨57, 1, [(5, .adr (.box 5) [(0, 0)] 2 0), (4, .val false [.lit (.int .i64 (IntKind.wrap .i64 (1 + r1.1)))]), (3, .val false [.lit (.int .i64 0)]), (2, .adr (.box 2) [(0, 0)] 2 0), (0, .adr (.box 0) [(0, 0)] 3 0)], [(5, [.sl true 3 ((r2.1.Rows ++ [(⟨r14.1, r15.1, r16.1⟩ : Vrow)]).map Vrow.row), .sl true 1 (r2.1.Pvid.map intRow)]), (0, (CV.frzRow (Src.row r16.2))), (2, [.sl true 3 (([] : List Vrow).map Vrow.row), .sl true 1 (([] : List Int).map intRow)])]⟩ (fun cx => ?_) ?_
    · refine AT.runU tOk [(0, []), (1, [12, 14]), (2, []), (5, []), (8, [])] 10 [⟨[12, 14], 38, 17, 18⟩] [8, 5, 2, 1, 0] rfl (by kernel_rfl) (fun cx => ?_)
      refine AT.big2 tOk 3 6 (by kernel_rfl) (And.intro (by kernel_rfl) ?_) (And.intro (by kernel_rfl) ?_)
      · refine LAt.runU tOk 1 (by kernel_rfl) ?_
        refine LAt.fin (by kernel_rfl) (And.intro (And.intro (by kernel_rfl) (by kernel_rfl)) ?_)
        refine AT.big2 tOk 4 6 (by kernel_rfl) (And.intro (by kernel_rfl) ?_) (And.intro (by kernel_rfl) ?_)
        · refine LAt.callL tOk [.lend, .rd] (f := 79) (av := #[.tmp 19, .tmp 20]) (ats := #[90, 33]) (d := (some 21)) (ty := 3) (g := none) (by kernel_rfl) (by kernel_rfl) (by kernel_rfl) [] (spec_l1Int n r3.2 [0, 1, 9, 100] r14 er14) (by kernel_rfl) (.inl rfl) ?_
          refine LAt.fin (by kernel_rfl) (And.intro (And.intro (by kernel_rfl) (by kernel_rfl)) ?_)
          refine AT.big1 tOk 6 (by kernel_rfl) (by kernel_rfl) ?_
          refine LAt.runU tOk 1 (by kernel_rfl) ?_
          refine LAt.fin (by kernel_rfl) (And.intro (And.intro (by kernel_rfl) (by kernel_rfl)) ?_)
          refine AT.big1 tOk 7 (by kernel_rfl) (by kernel_rfl) ?_
          refine LAt.callL tOk [.lend, .rd] (f := 79) (av := #[.tmp 22, .tmp 23]) (ats := #[90, 33]) (d := (some 24)) (ty := 3) (g := none) (by kernel_rfl) (by kernel_rfl) (by kernel_rfl) [] (spec_l1Int n r14.2 [(-1), 0, 1, 64] r15 er15) (by kernel_rfl) (.inl rfl) ?_
          refine LAt.fin (by kernel_rfl) (And.intro (And.intro (by kernel_rfl) (by kernel_rfl)) ?_)
          refine AT.big1 tOk 9 (by kernel_rfl) (by kernel_rfl) ?_
          refine LAt.callL tOk [.lend, .rd] (f := 76) (av := #[.tmp 25, .const (.int .i64 3)]) (ats := #[90, 3]) (d := (some 26)) (ty := 3) (g := none) (by kernel_rfl) (by kernel_rfl) (by kernel_rfl) [] (spec_l1Below n r15.2 3 r16 er16) (by kernel_rfl) (.inl rfl) ?_
          refine LAt.fin (by kernel_rfl) (And.intro (And.intro (by kernel_rfl) (by kernel_rfl)) ?_)
          refine AT.big1 tOk 10 (by kernel_rfl) (by kernel_rfl) ?_
          refine LAt.runU tOk 1 (by kernel_rfl) ?_
          refine LAt.fin (by kernel_rfl) (And.intro (And.intro (by kernel_rfl) (by kernel_rfl)) ?_)
          refine AT.big1 tOk 11 (by kernel_rfl) (by kernel_rfl) ?_
          refine LAt.runU tOk 1 (by kernel_rfl) ?_
          refine LAt.fin (by kernel_rfl) (And.intro (And.intro (by kernel_rfl) (by kernel_rfl)) ?_)
          refine AT.big1 tOk 12 (by kernel_rfl) (by kernel_rfl) ?_
          refine LAt.appMU tOk (t := 38) (ty := 38) (e := 81) (x := (.tmp 18)) (y := (.tmp 28)) (d := 29) (g := none) ⟨.st [(0, 1, 3), (1, 1, 3), (2, 1, 3)], 3, 24, [.lit (.int .i64 0), .lit (.int .i64 0), .lit (.int .i64 0)]⟩ Vrow.row r2.1.Rows [(⟨r14.1, r15.1, r16.1⟩ : Vrow)] (by kernel_rfl) (by kernel_rfl) (by kernel_rfl) (by kernel_rfl) (by kernel_rfl) (by kernel_rfl) (by kernel_rfl) (by kernel_rfl) (by kernel_rfl) (by kernel_rfl) hg17 ?_
          refine LAt.fin (by kernel_rfl) (And.intro (And.intro (by kernel_rfl) (by kernel_rfl)) ?_)
          refine AT.runU tOk [(13, [])] 1 [⟨[12, 14], 38, 17, 18⟩] [13, 12, 11, 10, 9, 7, 6, 4, 3, 8, 5, 2, 1, 0] rfl (by kernel_rfl) (fun cx => ?_)
          refine AT.big1 tOk 14 (by kernel_rfl) (by kernel_rfl) ?_
          refine LAt.runU tOk 1 (by kernel_rfl) ?_
          refine LAt.fin (by kernel_rfl) (And.intro (And.intro (by kernel_rfl) (by kernel_rfl)) ?_)
          exact AT.done [5, 4, 3, 2, 0] [5, 0, 2] _ (by kernel_rfl) (by kernel_rfl) rfl
        · refine LAt.runU tOk 1 (by kernel_rfl) ?_
          refine LAt.fin (by kernel_rfl) (And.intro (And.intro (by kernel_rfl) (by kernel_rfl)) ?_)
          refine AT.big1 tOk 4 (by kernel_rfl) (by kernel_rfl) ?_
          refine LAt.callL tOk [.lend, .rd] (f := 79) (av := #[.tmp 19, .tmp 20]) (ats := #[90, 33]) (d := (some 21)) (ty := 3) (g := none) (by kernel_rfl) (by kernel_rfl) (by kernel_rfl) [] (spec_l1Int n r3.2 [0, 1, 9, 100] r14 er14) (by kernel_rfl) (.inl rfl) ?_
          refine LAt.fin (by kernel_rfl) (And.intro (And.intro (by kernel_rfl) (by kernel_rfl)) ?_)
          refine AT.big1 tOk 7 (by kernel_rfl) (by kernel_rfl) ?_
          refine LAt.callL tOk [.lend, .rd] (f := 79) (av := #[.tmp 22, .tmp 23]) (ats := #[90, 33]) (d := (some 24)) (ty := 3) (g := none) (by kernel_rfl) (by kernel_rfl) (by kernel_rfl) [] (spec_l1Int n r14.2 [(-1), 0, 1, 64] r15 er15) (by kernel_rfl) (.inl rfl) ?_
          refine LAt.fin (by kernel_rfl) (And.intro (And.intro (by kernel_rfl) (by kernel_rfl)) ?_)
          refine AT.big1 tOk 9 (by kernel_rfl) (by kernel_rfl) ?_
          refine LAt.callL tOk [.lend, .rd] (f := 76) (av := #[.tmp 25, .const (.int .i64 3)]) (ats := #[90, 3]) (d := (some 26)) (ty := 3) (g := none) (by kernel_rfl) (by kernel_rfl) (by kernel_rfl) [] (spec_l1Below n r15.2 3 r16 er16) (by kernel_rfl) (.inl rfl) ?_
          refine LAt.fin (by kernel_rfl) (And.intro (And.intro (by kernel_rfl) (by kernel_rfl)) ?_)
          refine AT.big1 tOk 10 (by kernel_rfl) (by kernel_rfl) ?_
          refine LAt.runU tOk 1 (by kernel_rfl) ?_
          refine LAt.fin (by kernel_rfl) (And.intro (And.intro (by kernel_rfl) (by kernel_rfl)) ?_)
          refine AT.big1 tOk 11 (by kernel_rfl) (by kernel_rfl) ?_
          refine LAt.runU tOk 1 (by kernel_rfl) ?_
          refine LAt.fin (by kernel_rfl) (And.intro (And.intro (by kernel_rfl) (by kernel_rfl)) ?_)
          refine AT.big1 tOk 12 (by kernel_rfl) (by kernel_rfl) ?_
          refine LAt.appMU tOk (t := 38) (ty := 38) (e := 81) (x := (.tmp 18)) (y := (.tmp 28)) (d := 29) (g := none) ⟨.st [(0, 1, 3), (1, 1, 3), (2, 1, 3)], 3, 24, [.lit (.int .i64 0), .lit (.int .i64 0), .lit (.int .i64 0)]⟩ Vrow.row r2.1.Rows [(⟨r14.1, r15.1, r16.1⟩ : Vrow)] (by kernel_rfl) (by kernel_rfl) (by kernel_rfl) (by kernel_rfl) (by kernel_rfl) (by kernel_rfl) (by kernel_rfl) (by kernel_rfl) (by kernel_rfl) (by kernel_rfl) hg17 ?_
          refine LAt.fin (by kernel_rfl) (And.intro (And.intro (by kernel_rfl) (by kernel_rfl)) ?_)
          refine AT.runU tOk [(13, [])] 1 [⟨[12, 14], 38, 17, 18⟩] [13, 12, 11, 10, 9, 7, 4, 6, 3, 8, 5, 2, 1, 0] rfl (by kernel_rfl) (fun cx => ?_)
          refine AT.big1 tOk 14 (by kernel_rfl) (by kernel_rfl) ?_
          refine LAt.runU tOk 1 (by kernel_rfl) ?_
          refine LAt.fin (by kernel_rfl) (And.intro (And.intro (by kernel_rfl) (by kernel_rfl)) ?_)
          exact AT.done [5, 4, 3, 2, 0] [5, 0, 2] _ (by kernel_rfl) (by kernel_rfl) rfl
      · refine LAt.runU tOk 1 (by kernel_rfl) ?_
        refine LAt.fin (by kernel_rfl) (And.intro (And.intro (by kernel_rfl) (by kernel_rfl)) ?_)
        refine AT.big1 tOk 3 (by kernel_rfl) (by kernel_rfl) ?_
        refine LAt.runU tOk 1 (by kernel_rfl) ?_
        refine LAt.fin (by kernel_rfl) (And.intro (And.intro (by kernel_rfl) (by kernel_rfl)) ?_)
        refine AT.big1 tOk 4 (by kernel_rfl) (by kernel_rfl) ?_
        refine LAt.callL tOk [.lend, .rd] (f := 79) (av := #[.tmp 19, .tmp 20]) (ats := #[90, 33]) (d := (some 21)) (ty := 3) (g := none) (by kernel_rfl) (by kernel_rfl) (by kernel_rfl) [] (spec_l1Int n r3.2 [0, 1, 9, 100] r14 er14) (by kernel_rfl) (.inl rfl) ?_
        refine LAt.fin (by kernel_rfl) (And.intro (And.intro (by kernel_rfl) (by kernel_rfl)) ?_)
        refine AT.big1 tOk 7 (by kernel_rfl) (by kernel_rfl) ?_
        refine LAt.callL tOk [.lend, .rd] (f := 79) (av := #[.tmp 22, .tmp 23]) (ats := #[90, 33]) (d := (some 24)) (ty := 3) (g := none) (by kernel_rfl) (by kernel_rfl) (by kernel_rfl) [] (spec_l1Int n r14.2 [(-1), 0, 1, 64] r15 er15) (by kernel_rfl) (.inl rfl) ?_
        refine LAt.fin (by kernel_rfl) (And.intro (And.intro (by kernel_rfl) (by kernel_rfl)) ?_)
        refine AT.big1 tOk 9 (by kernel_rfl) (by kernel_rfl) ?_
        refine LAt.callL tOk [.lend, .rd] (f := 76) (av := #[.tmp 25, .const (.int .i64 3)]) (ats := #[90, 3]) (d := (some 26)) (ty := 3) (g := none) (by kernel_rfl) (by kernel_rfl) (by kernel_rfl) [] (spec_l1Below n r15.2 3 r16 er16) (by kernel_rfl) (.inl rfl) ?_
        refine LAt.fin (by kernel_rfl) (And.intro (And.intro (by kernel_rfl) (by kernel_rfl)) ?_)
        refine AT.big1 tOk 10 (by kernel_rfl) (by kernel_rfl) ?_
        refine LAt.runU tOk 1 (by kernel_rfl) ?_
        refine LAt.fin (by kernel_rfl) (And.intro (And.intro (by kernel_rfl) (by kernel_rfl)) ?_)
        refine AT.big1 tOk 11 (by kernel_rfl) (by kernel_rfl) ?_
        refine LAt.runU tOk 1 (by kernel_rfl) ?_
        refine LAt.fin (by kernel_rfl) (And.intro (And.intro (by kernel_rfl) (by kernel_rfl)) ?_)
        refine AT.big1 tOk 12 (by kernel_rfl) (by kernel_rfl) ?_
        refine LAt.appMU tOk (t := 38) (ty := 38) (e := 81) (x := (.tmp 18)) (y := (.tmp 28)) (d := 29) (g := none) ⟨.st [(0, 1, 3), (1, 1, 3), (2, 1, 3)], 3, 24, [.lit (.int .i64 0), .lit (.int .i64 0), .lit (.int .i64 0)]⟩ Vrow.row r2.1.Rows [(⟨r14.1, r15.1, r16.1⟩ : Vrow)] (by kernel_rfl) (by kernel_rfl) (by kernel_rfl) (by kernel_rfl) (by kernel_rfl) (by kernel_rfl) (by kernel_rfl) (by kernel_rfl) (by kernel_rfl) (by kernel_rfl) hg17 ?_
        refine LAt.fin (by kernel_rfl) (And.intro (And.intro (by kernel_rfl) (by kernel_rfl)) ?_)
        refine AT.runU tOk [(13, [])] 1 [⟨[12, 14], 38, 17, 18⟩] [13, 12, 11, 10, 9, 7, 4, 3, 6, 8, 5, 2, 1, 0] rfl (by kernel_rfl) (fun cx => ?_)
        refine AT.big1 tOk 14 (by kernel_rfl) (by kernel_rfl) ?_
        refine LAt.runU tOk 1 (by kernel_rfl) ?_
        refine LAt.fin (by kernel_rfl) (And.intro (And.intro (by kernel_rfl) (by kernel_rfl)) ?_)
        exact AT.done [5, 4, 3, 2, 0] [5, 0, 2] _ (by kernel_rfl) (by kernel_rfl) rfl
    · show Tr _ _ _ _ _
      refine Tr.rs ?_
      refine LAt.runU tOk 4 (by kernel_rfl) ?_
      refine LAt.doneU [3, 2, 0] [2, 0] (by kernel_rfl) ?_
      refine Tr.ret ?_
      have H := Option.some.inj H
      subst H
      exact Fin.ofY _ [(true, [.sl true 3 ((r2.1.Rows ++ [(⟨r14.1, r15.1, r16.1⟩ : Vrow)]).map Vrow.row), .sl true 1 (r2.1.Pvid.map intRow)]), (false, [.lit (.int .i64 (IntKind.wrap .i64 (1 + r1.1)))])] [] _ [] _ [(0, (CV.frzRow (Src.row r16.2)))] (by kernel_rfl) rfl rfl rfl (by kernel_rfl) (by kernel_rfl) (by kernel_rfl) (by kernel_rfl) rfl rfl rfl

def spec_l9TabF (n : Nat) (x0 : Src) : Option (Vtab × Src) :=
  ((spec_l9AnyF n x0).bind fun r1 => (some (r1.1, r1.2.2)))
/-- loop.example/g00326/spec.l9Tab -/
theorem spec_l9Tab (n : Nat) (x0 : Src) (r : Vtab × Src) (H : spec_l9TabF n x0 = some r) : LCall Try.prog 78 [.ptr (CV.frzRow (Src.row x0))] [.val true (Vtab.row r.1)] [(0, (CV.frzRow (Src.row r.2)))] := by
  refine LCall.of_body tOk Try.func78 rfl (c := (.seq (.region 0 (rg Try.f78 0) false) (.seq (.region 1 (rg Try.f78 1) false) (.seq (.region 2 (rg Try.f78 2) false) .ret)))) (by kernel_rfl) (Nat.le_of_ble_eq_true (by kernel_rfl)) 1 (rs := [.cell 2 40]) rfl [] .nil [(true, (Vtab.row r.1))] [] [(0, (CV.frzRow (Src.row r.2)))] fun cx => ?_
  show Tr _ _ _ ⟨11, 1, [(0, .adr (.box 0) [(0, 0)] 3 0)], [(0, (CV.frzRow (Src.row x0)))]⟩ _
  unfold spec_l9TabF at H
  refine Tr.rs ?_
  refine LAt.runU tOk 1 (by kernel_rfl) ?_
  refine LAt.doneU [2, 0] [2, 0] (by kernel_rfl) ?_
  refine Tr.rs ?_
  refine LAt.runU tOk 1 (by kernel_rfl) ?_
  obtain ⟨r1, er1, H⟩ := bind_some H
  refine LAt.callL tOk [.lend] (f := 86) (av := #[.tmp 6]) (ats := #[90]) (d := (some 7)) (ty := 72) (g := none) (by kernel_rfl) (by kernel_rfl) (by kernel_rfl) [] (spec_l9Any n x0 r1 er1) (by kernel_rfl) (.inl rfl) ?_
  refine LAt.movT tOk (ty := 72) (t := 7) (d := 5) (g := none) [(true, (Vtab.row r1.1)), (false, [.lit (.int .i64 r1.2.1)])] _ (by kernel_rfl) (.inl rfl) (by kernel_rfl) (by kernel_rfl) (by kernel_rfl) (by kernel_rfl) rfl ?_
  refine LAt.runU tOk 5 (by kernel_rfl) ?_
  refine LAt.doneU [3, 2, 0] [3, 0, 2] (by kernel_rfl) ?_
  refine Tr.rs ?_
  refine LAt.runU tOk 2 (by kernel_rfl) ?_
  refine LAt.doneU [2, 0] [2, 0] (by kernel_rfl) ?_
  refine Tr.ret ?_
  have H := Option.some.inj H
  subst H
  exact Fin.ofY _ [(true, (Vtab.row r1.1))] [] _ [] _ [(0, (CV.frzRow (Src.row r1.2.2)))] (by kernel_rfl) rfl rfl rfl (by kernel_rfl) (by kernel_rfl) (by kernel_rfl) (by kernel_rfl) rfl rfl rfl

def spec_DrawClassOfF (n : Nat) (x0 : (List Int)) : Option (Vtab × Int × Int) :=
  ((spec_l1NewF n x0).bind fun r1 => ((spec_l9TabF n r1).bind fun r2 => ((spec_l1IntF n r2.2 [0, 1, 2, 3, (-1), 6]).bind fun r3 => ((spec_l1IntF n r3.2 [0, 0, 1, 2, 3, 9]).bind fun r4 => (some (r2.1, r3.1, r4.1))))))
/-- loop.example/g00326/spec.DrawClassOf -/
theorem spec_DrawClassOf (n : Nat) (x0 : (List Int)) (r : Vtab × Int × Int) (H : spec_DrawClassOfF n x0 = some r) : LCall Try.prog 46 [.val false [.sl false 1 (CV.frzEs (x0.map byteRow))]] [.val true (Vtab.row r.1), .val false [.lit (.int .i64 r.2.1)], .val false [.lit (.int .i64 r.2.2)]] [] := by
  refine LCall.of_body tOk Try.func46 rfl (c := (.seq (.region 0 (rg Try.f46 0) false) (.seq (.region 1 (rg Try.f46 1) false) (.seq (.region 2 (rg Try.f46 2) false) .ret)))) (by kernel_rfl) (Nat.le_of_ble_eq_true (by kernel_rfl)) 0 (rs := [.cell 2 40, .tmp 3, .tmp 4]) rfl [] .nil [(true, (Vtab.row r.1)), (false, [.lit (.int .i64 r.2.1)]), (false, [.lit (.int .i64 r.2.2)])] [] [] fun cx => ?_
  show Tr _ _ _ ⟨16, 0, [(0, .val false [.sl false 1 (CV.frzEs (x0.map byteRow))])], []⟩ _
  unfold spec_DrawClassOfF at H
  refine Tr.rs ?_
  refine LAt.runU tOk 3 (by kernel_rfl) ?_
  refine LAt.doneU [4, 3, 2, 0] [2] (by kernel_rfl) ?_
  refine Tr.rs ?_
  refine LAt.runU tOk 1 (by kernel_rfl) ?_
  obtain ⟨r1, er1, H⟩ := bind_some H
  refine LAt.callU tOk [.rd] (f := 75) (av := #[.tmp 6]) (ats := #[61]) (d := (some 7)) (ty := 90) (g := none) (by kernel_rfl) (by kernel_rfl) (by kernel_rfl) [] (spec_l1New n x0 r1 er1) (by kernel_rfl) (.inl rfl) ?_
  refine LAt.runU tOk 1 (by kernel_rfl) ?_
  refine LAt.doneU [5, 4, 3, 2] [7, 2] (by kernel_rfl) ?_
  refine Tr.rs ?_
  refine LAt.runU tOk 1 (by kernel_rfl) ?_
  obtain ⟨r2, er2, H⟩ := bind_some H
  refine LAt.callL tOk [.lend] (f := 78) (av := #[.tmp 8]) (ats := #[90]) (d := (some 9)) (ty := 40) (g := none) (by kernel_rfl) (by kernel_rfl) (by kernel_rfl) [] (spec_l9Tab n r1 r2 er2) (by kernel_rfl) (.inl rfl) ?_
  refine LAt.runU tOk 2 (by kernel_rfl) ?_
  obtain ⟨r3, er3, H⟩ := bind_some H
  refine LAt.callL tOk [.lend, .rd] (f := 79) (av := #[.tmp 10, .tmp 11]) (ats := #[90, 33]) (d := (some 12)) (ty := 3) (g := none) (by kernel_rfl) (by kernel_rfl) (by kernel_rfl) [] (spec_l1Int n r2.2 [0, 1, 2, 3, (-1), 6] r3 er3) (by kernel_rfl) (.inl rfl) ?_
  refine LAt.runU tOk 2 (by kernel_rfl) ?_
  obtain ⟨r4, er4, H⟩ := bind_some H
  refine LAt.callL tOk [.lend, .rd] (f := 79) (av := #[.tmp 13, .tmp 14]) (ats := #[90, 33]) (d := (some 15)) (ty := 3) (g := none) (by kernel_rfl) (by kernel_rfl) (by kernel_rfl) [] (spec_l1Int n r3.2 [0, 0, 1, 2, 3, 9] r4 er4) (by kernel_rfl) (.inl rfl) ?_
  refine LAt.runU tOk 3 (by kernel_rfl) ?_
  refine LAt.doneU [4, 3, 2] [2] (by kernel_rfl) ?_
  refine Tr.ret ?_
  have H := Option.some.inj H
  subst H
  exact Fin.of _ [(true, (Vtab.row r2.1)), (false, [.lit (.int .i64 r3.1)]), (false, [.lit (.int .i64 r4.1)])] (by kernel_rfl) rfl rfl

def impl_inF (n : Nat) (x0 : Int) (x1 : Int) (x2 : Int) : Option (Bool) :=
  (bif (decide (x0 ≥ x1)) then (some (decide (x0 ≤ x2))) else (some false))
/-- loop.example/g00326/impl.in -/
theorem impl_in (n : Nat) (x0 : Int) (x1 : Int) (x2 : Int) (r : Bool) (H : impl_inF n x0 x1 x2 = some r) : LCall Try.prog 54 [.val false [.lit (.int .i64 x0)], .val false [.lit (.int .i64 x1)], .val false [.lit (.int .i64 x2)]] [.val false [.lit (.bool r)]] [] := by
  refine LCall.of_body tOk Try.func54 rfl (c := (.seq (.region 0 (rg Try.f54 0) false) (.seq (.region 1 (rg Try.f54 1) false) .ret))) (by kernel_rfl) (Nat.le_of_ble_eq_true (by kernel_rfl)) 0 (rs := [.tmp 6]) rfl [] .nil [(false, [.lit (.bool r)])] [] [] fun cx => ?_
  show Tr _ _ _ ⟨15, 0, [(0, .val false [.lit (.int .i64 x0)]), (1, .val false [.lit (.int .i64 x1)]), (2, .val false [.lit (.int .i64 x2)])], []⟩ _
  unfold impl_inF at H
  refine Tr.rs ?_
  refine LAt.runU tOk 1 (by kernel_rfl) ?_
  refine LAt.doneU [6, 0, 1, 2] [] (by kernel_rfl) ?_
  refine Tr.rs ?_
  refine LAt.runU tOk 4 (by kernel_rfl) ?_
  refine LAt.to ⟨15, 0, [(10, .val false [.lit (.bool (decide (x0 ≥ x1)))]), (9, .val false [.lit (.bool (decide (x0 ≥ x1)))]), (8, .val false [.lit (.int .i64 x1)]), (7, .val false [.lit (.int .i64 x0)]), (6, .val false [.lit (.bool false)]), (0, .val false [.lit (.int .i64 x0)]), (1, .val false [.lit (.int .i64 x1)]), (2, .val false [.lit (.int .i64 x2)])], []⟩ (by kernel_rfl) ?_
  cases h1 : (decide (x0 ≥ x1))
  · have H := bifF h1 H
    refine LAt.runU tOk 5 (by kernel_rfl) ?_
    refine LAt.doneU [6] [] (by kernel_rfl) ?_
    refine Tr.ret ?_
    have H := Option.some.inj H
    subst H
    exact Fin.of _ [(false, [.lit (.bool false)])] (by kernel_rfl) rfl rfl
  · have H := bifT h1 H
    refine LAt.runU tOk 5 (by kernel_rfl) ?_
    refine LAt.doneU [6] [] (by kernel_rfl) ?_
    refine Tr.ret ?_
    have H := Option.some.inj H
    subst H
    exact Fin.of _ [(false, [.lit (.bool (decide (x0 ≤ x2)))])] (by kernel_rfl) rfl rfl

def impl_RowAt_J1 (n : Nat) : Option (Int) :=
  (some (-1))
def impl_RowAt_L2 (n : Nat) : Nat → Vtab → Int → Int → Option ((Unit) ⊕ (Int))
  | 0, _, _, _ => none
  | mo2 + 1, x0, x1, y1 => (bif (decide (y1 < (x0.Rows.length : Int))) then ((idx x0.Rows y1).bind fun v3 => (bif (v3.Id == x1) then (some (Sum.inr y1)) else (impl_RowAt_L2 n mo2 x0 x1 (IntKind.wrap .i64 (y1 + 1))))) else (some (Sum.inl ())))
def impl_RowAtF (n : Nat) (x0 : Vtab) (x1 : Int) : Option (Int) :=
  ((impl_RowAt_L2 n n x0 x1 0).bind fun o => match o with | .inl _ => (impl_RowAt_J1 n) | .inr r => some r)
/-- loop.example/g00326/impl.RowAt -/
theorem impl_RowAt (n : Nat) (x0 : Vtab) (x1 : Int) (r : Int) (H : impl_RowAtF n x0 x1 = some r) : LCall Try.prog 61 [.val true (CV.frzRow (Vtab.row x0)), .val false [.lit (.int .i64 x1)]] [.val false [.lit (.int .i64 r)]] [] := by
  refine LCall.of_body tOk Try.func61 rfl (c := (.seq (.region 0 (rg Try.f61 0) false) (.seq (.seq (.region 1 (rg Try.f61 1) false) (.block 0 (.loop (.seq (.region 2 (rg Try.f61 2) false) (.seq (.cond (.tmp 11) .skip (.exit 0)) (.seq (.block 1 (.seq (.region 3 (rg Try.f61 3) false) (.seq (.region 4 (rg Try.f61 4) false) (.cond (.tmp 18) (.seq (.region 5 (rg Try.f61 5) false) .ret) .skip)))) (.region 6 (rg Try.f61 6) false))))))) (.seq (.region 7 (rg Try.f61 7) false) .ret)))) (by kernel_rfl) (Nat.le_of_ble_eq_true (by kernel_rfl)) 0 (rs := [.tmp 4]) rfl [] .nil [(false, [.lit (.int .i64 r)])] [] [] fun cx => ?_
  show Tr _ _ _ ⟨21, 0, [(0, .val true (CV.frzRow (Vtab.row x0))), (1, .val false [.lit (.int .i64 x1)])], []⟩ _
  unfold impl_RowAtF at H
  refine Tr.rs ?_
  refine LAt.runU tOk 2 (by kernel_rfl) ?_
  refine LAt.doneU [4, 2, 1] [2] (by kernel_rfl) ?_
  refine Tr.seq ?_
  refine Tr.rs ?_
  refine LAt.runU tOk 2 (by kernel_rfl) ?_
  refine LAt.lenE tOk (t := 38) (ty := 3) (e := 81) (x := (.tmp 8)) (d := 9) (g := none) ⟨(.slot 8), [], 0, false, 3, (CV.frzEs (x0.Rows.map Vrow.row))⟩ (x0.Rows).length _ (by kernel_rfl) (by kernel_rfl) (by kernel_rfl) (by kernel_rfl) (by kernel_rfl) (frz_len _ _) rfl ?_
  refine LAt.runU tOk 1 (by kernel_rfl) ?_
  refine LAt.doneU [10, 9, 8, 4, 1] [] (by kernel_rfl) ?_
  obtain ⟨o2, eo2, Ho2⟩ := bind_some H
  clear H
  refine Tr.mid (ι := Unit) (fun v => ⟨21, 0, [(4, .val false [.lit (.int .i64 0)])], []⟩) (fun v => impl_RowAt_J1 n = some r) ?_ ?_
  · refine Tr.block ?_
    refine Tr.loop (ι := Nat × (Int)) (fun v => ⟨21, 0, [(10, .val false [.lit (.int .i64 v.2)]), (9, .val false [.lit (.int .i64 (x0.Rows.length : Int))]), (8, .val false [.sl false 3 (CV.frzEs (x0.Rows.map Vrow.row))]), (4, .val false [.lit (.int .i64 0)]), (1, .val false [.lit (.int .i64 x1)])], []⟩) (fun v => impl_RowAt_L2 n v.1 x0 x1 v.2 = some o2) (fun v => v.1) (n, 0) eo2 (St.sub_of [10, 9, 8, 4, 1] [] (by kernel_rfl)) ?_
    rintro ⟨mo2, y1⟩ H
    have H : impl_RowAt_L2 n mo2 x0 x1 y1 = some o2 := H
    obtain _ | mo2 := mo2
    · cases (show (none : Option _) = some o2 from H)
    · rw [impl_RowAt_L2] at H
      refine Tr.rs ?_
      refine LAt.runU tOk 1 (by kernel_rfl) ?_
      refine LAt.doneU [11, 10, 9, 8, 4, 1] [] (by kernel_rfl) ?_
      refine Tr.seq ?_
      refine Tr.to ⟨21, 0, [(11, .val false [.lit (.bool (decide (y1 < (x0.Rows.length : Int))))]), (10, .val false [.lit (.int .i64 y1)]), (9, .val false [.lit (.int .i64 (x0.Rows.length : Int))]), (8, .val false [.sl false 3 (CV.frzEs (x0.Rows.map Vrow.row))]), (4, .val false [.lit (.int .i64 0)]), (1, .val false [.lit (.int .i64 x1)])], []⟩ (by kernel_rfl) ?_
      cases h1 : (decide (y1 < (x0.Rows.length : Int)))
      · have H := bifF h1 H
        refine Tr.cond (b := false) (by kernel_rfl) (fun h => nomatch h) (fun _ => ?_)
        refine Tr.exit ?_
        refine And.intro (fun _ => ?_) (fun h => absurd rfl h)
        have H := Option.some.inj H
        subst H
        have H := Ho2
        dsimp only at H
        exact Exists.intro () (And.intro H (St.sub_of [4] [] (by kernel_rfl)))
      · have H := bifT h1 H
        refine Tr.cond (b := true) (by kernel_rfl) (fun _ => ?_) (fun h => nomatch h)
        refine Tr.skip ?_
        show Tr _ _ _ _ _
        refine Tr.seq ?_
        refine Tr.block ?_
        refine Tr.rs ?_
        refine LAt.runU tOk 1 (by kernel_rfl) ?_
        obtain ⟨v3, ev3, H⟩ := bind_some H
        refine LAt.indexF tOk (t := 38) (ty := 0) (x := (.tmp 8)) (y := (.tmp 10)) (d := 13) (g := none) ⟨(.slot 8), [], 0, false, 3, (CV.frzEs (x0.Rows.map Vrow.row))⟩ y1 (Vrow.row v3) _ (by kernel_rfl) (by kernel_rfl) (by kernel_rfl) (by kernel_rfl) rfl (idx_isF ev3) rfl ?_
        refine LAt.runU tOk 4 (by kernel_rfl) ?_
        refine LAt.doneU [5, 6, 14, 13, 12, 11, 10, 9, 8, 4, 1] [6] (by kernel_rfl) ?_
        refine Tr.rs ?_
        refine LAt.runU tOk 4 (by kernel_rfl) ?_
        refine LAt.doneU [18, 17, 16, 15, 5, 6, 14, 13, 12, 11, 10, 9, 8, 4, 1] [6] (by kernel_rfl) ?_
        refine Tr.to ⟨21, 0, [(18, .val false [.lit (.bool (v3.Id == x1))]), (17, .val false [.lit (.int .i64 x1)]), (16, .val false [.lit (.int .i64 v3.Id)]), (15, .adr (.box 6) [(0, 0)] 3 0), (5, .val false [.lit (.int .i64 y1)]), (6, .adr (.box 6) [(0, 0)] 3 0), (14, .val true (Vrow.row v3)), (13, .fad ((Vrow.row v3))), (12, .val false [.lit (.int .i64 y1)]), (11, .val false [.lit (.bool true)]), (10, .val false [.lit (.int .i64 y1)]), (9, .val false [.lit (.int .i64 (x0.Rows.length : Int))]), (8, .val false [.sl false 3 (CV.frzEs (x0.Rows.map Vrow.row))]), (4, .val false [.lit (.int .i64 0)]), (1, .val false [.lit (.int .i64 x1)])], [(6, (Vrow.row v3))]⟩ (by kernel_rfl) ?_
        cases h2 : (v3.Id == x1)
        · have H := bifF h2 H
          refine Tr.cond (b := false) (by kernel_rfl) (fun h => nomatch h) (fun _ => ?_)
          refine Tr.skip ?_
          show Tr _ _ _ _ _
          refine Tr.at ?_
          refine LAt.runU tOk 2 (by kernel_rfl) ?_
          refine LAt.doneU [10, 20, 18, 17, 16, 15, 5, 6, 14, 13, 12, 11, 9, 8, 4, 1] [6] (by kernel_rfl) ?_
          exact Exists.intro (mo2, (IntKind.wrap .i64 (y1 + 1))) (And.intro H (And.intro (Nat.lt_succ_self mo2) (St.sub_of [10, 9, 8, 4, 1] [] (by kernel_rfl))))
        · have H := bifT h2 H
          refine Tr.cond (b := true) (by kernel_rfl) (fun _ => ?_) (fun h => nomatch h)
          refine Tr.rs ?_
          refine LAt.runU tOk 2 (by kernel_rfl) ?_
          refine LAt.doneU [4, 19, 18, 17, 16, 15, 5, 6, 14, 13, 12, 11, 10, 9, 8, 1] [6] (by kernel_rfl) ?_
          refine Tr.ret ?_
          have H := Option.some.inj H
          subst H
          have H := Ho2
          dsimp only at H
          have H := Option.some.inj H
          subst H
          exact Fin.of _ [(false, [.lit (.int .i64 y1)])] (by kernel_rfl) rfl rfl
  · rintro _ H
    have H : (impl_RowAt_J1 n) = some r := H
    unfold impl_RowAt_J1 at H
    show Tr _ _ _ _ _
    refine Tr.rs ?_
    refine LAt.runU tOk 1 (by kernel_rfl) ?_
    refine LAt.doneU [4] [] (by kernel_rfl) ?_
    refine Tr.ret ?_
    have H := Option.some.inj H
    subst H
    exact Fin.of _ [(false, [.lit (.int .i64 (-1))])] (by kernel_rfl) rfl rfl

def impl_hasPortF (n : Nat) (x0 : Int) (x1 : Int) : Option (Bool) :=
  ((impl_inF n x1 0 62).bind fun r1 => (bif r1 then (bif (decide ((0 : Int) ≤ x1)) then (some ((IntKind.wrap .i64 (BitVec.ofInt (IntKind.bits .i64) (Int.fdiv x0 (2 ^ min ((x1 : Int)).toNat (IntKind.bits .i64))) &&& BitVec.ofInt (IntKind.bits .i64) 1).toNat) == 1)) else none) else (some false)))
/-- loop.example/g00326/impl.hasPort -/
theorem impl_hasPort (n : Nat) (x0 : Int) (x1 : Int) (r : Bool) (H : impl_hasPortF n x0 x1 = some r) : LCall Try.prog 70 [.val false [.lit (.int .i64 x0)], .val false [.lit (.int .i64 x1)]] [.val false [.lit (.bool r)]] [] := by
  refine LCall.of_body tOk Try.func70 rfl (c := (.seq (.region 0 (rg Try.f70 0) false) (.seq (.region 1 (rg Try.f70 1) false) .ret))) (by kernel_rfl) (Nat.le_of_ble_eq_true (by kernel_rfl)) 0 (rs := [.tmp 4]) rfl [] .nil [(false, [.lit (.bool r)])] [] [] fun cx => ?_
  show Tr _ _ _ ⟨14, 0, [(0, .val false [.lit (.int .i64 x0)]), (1, .val false [.lit (.int .i64 x1)])], []⟩ _
  unfold impl_hasPortF at H
  refine Tr.rs ?_
  refine LAt.runU tOk 1 (by kernel_rfl) ?_
  refine LAt.doneU [4, 0, 1] [] (by kernel_rfl) ?_
  refine Tr.rs ?_
  refine LAt.runU tOk 1 (by kernel_rfl) ?_
  obtain ⟨r1, er1, H⟩ := bind_some H
  refine LAt.callU tOk [.rd, .rd, .rd] (f := 54) (av := #[.tmp 5, .const (.int .i64 0), .const (.int .i64 62)]) (ats := #[3, 3, 3]) (d := (some 6)) (ty := 4) (g := none) (by kernel_rfl) (by kernel_rfl) (by kernel_rfl) [] (impl_in n x1 0 62 r1 er1) (by kernel_rfl) (.inl rfl) ?_
  refine LAt.runU tOk 1 (by kernel_rfl) ?_
  refine LAt.to ⟨14, 0, [(7, .val false [.lit (.bool r1)]), (6, .val false [.lit (.bool r1)]), (5, .val false [.lit (.int .i64 x1)]), (4, .val false [.lit (.bool false)]), (0, .val false [.lit (.int .i64 x0)]), (1, .val false [.lit (.int .i64 x1)])], []⟩ (by kernel_rfl) ?_
  cases h1 : r1
  · have H := bifF h1 H
    refine LAt.runU tOk 7 (by kernel_rfl) ?_
    refine LAt.doneU [4] [] (by kernel_rfl) ?_
    refine Tr.ret ?_
    have H := Option.some.inj H
    subst H
    exact Fin.of _ [(false, [.lit (.bool false)])] (by kernel_rfl) rfl rfl
  · have H := bifT h1 H
    refine LAt.runU tOk 2 (by kernel_rfl) ?_
    obtain ⟨hg2, H⟩ := guard_some H
    refine LAt.binC tOk (op := .shr) (t := 3) (ty := 3) (ty' := 3) (x := (.tmp 8)) (y := (.tmp 9)) (d := 10) (g := (some (2, true))) (.int .i64 x0) (.int .i64 x1) (.int .i64 (Int.fdiv x0 (2 ^ min ((x1 : Int)).toNat (IntKind.bits .i64)))) _ (by kernel_rfl) (by kernel_rfl) (by kernel_rfl) (by kernel_rfl) (by kernel_rfl) (φ := (0 : Int) ≤ x1) (by kernel_rfl) (of_decide_eq_true hg2) rfl ?_
    refine LAt.runU tOk 4 (by kernel_rfl) ?_
    refine LAt.doneU [4] [] (by kernel_rfl) ?_
    refine Tr.ret ?_
    have H := Option.some.inj H
    subst H
    exact Fin.of _ [(false, [.lit (.bool ((IntKind.wrap .i64 (BitVec.ofInt (IntKind.bits .i64) (Int.fdiv x0 (2 ^ min ((x1 : Int)).toNat (IntKind.bits .i64))) &&& BitVec.ofInt (IntKind.bits .i64) 1).toNat) == 1))])] (by kernel_rfl) rfl rfl

def impl_ClassOf_J1 (n : Nat) (x0 : Vtab) (x1 : Int) (y2 : Int) : Option (Int × Bool) :=
  ((impl_RowAtF n x0 y2).bind fun r3 => (bif (decide (r3 < 0)) then (some (0, false)) else ((idx x0.Rows r3).bind fun v4 => ((impl_hasPortF n v4.Members x1).bind fun r5 => (bif (!r5) then (some (0, false)) else (some (y2, true)))))))
def impl_ClassOfF (n : Nat) (x0 : Vtab) (x1 : Int) (x2 : Int) : Option (Int × Bool) :=
  ((impl_inF n x1 0 (IntKind.wrap .i64 ((x0.Pvid.length : Int) - 1))).bind fun r1 => (bif (!r1) then (some (0, false)) else (bif (x2 == 0) then ((idx x0.Pvid x1).bind fun v6 => (impl_ClassOf_J1 n x0 x1 v6)) else (impl_ClassOf_J1 n x0 x1 x2))))
/-- loop.example/g00326/impl.ClassOf -/
theorem impl_ClassOf (n : Nat) (x0 : Vtab) (x1 : Int) (x2 : Int) (r : Int × Bool) (H : impl_ClassOfF n x0 x1 x2 = some r) : LCall Try.prog 27 [.val true (CV.frzRow (Vtab.row x0)), .val false [.lit (.int .i64 x1)], .val false [.lit (.int .i64 x2)]] [.val false [.lit (.int .i64 r.1)], .val false [.lit (.bool r.2)]] [] := by
  refine LCall.of_body tOk Try.func27 rfl (c := (.seq (.region 0 (rg Try.f27 0) false) (.seq (.seq (.region 1 (rg Try.f27 1) false) (.cond (.tmp 16) (.seq (.region 2 (rg Try.f27 2) false) .ret) .skip)) (.seq (.region 3 (rg Try.f27 3) false) (.seq (.seq (.region 4 (rg Try.f27 4) false) (.cond (.tmp 19) (.region 5 (rg Try.f27 5) false) .skip)) (.seq (.seq (.region 6 (rg Try.f27 6) false) (.seq (.region 7 (rg Try.f27 7) false) (.cond (.tmp 40) (.seq (.region 8 (rg Try.f27 8) false) .ret) .skip))) (.seq (.region 9 (rg Try.f27 9) false) .ret))))))) (by kernel_rfl) (Nat.le_of_ble_eq_true (by kernel_rfl)) 0 (rs := [.tmp 6, .tmp 7]) rfl [] .nil [(false, [.lit (.int .i64 r.1)]), (false, [.lit (.bool r.2)])] [] [] fun cx => ?_
  show Tr _ _ _ ⟨42, 0, [(0, .val true (CV.frzRow (Vtab.row x0))), (1, .val false [.lit (.int .i64 x1)]), (2, .val false [.lit (.int .i64 x2)])], []⟩ _
  unfold impl_ClassOfF at H
  refine Tr.rs ?_
  refine LAt.runU tOk 3 (by kernel_rfl) ?_
  refine LAt.doneU [7, 6, 3, 1, 2] [3] (by kernel_rfl) ?_
  refine Tr.seq ?_
  refine Tr.rs ?_
  refine LAt.runU tOk 3 (by kernel_rfl) ?_
  refine LAt.lenE tOk (t := 33) (ty := 3) (e := 3) (x := (.tmp 12)) (d := 13) (g := none) ⟨(.slot 12), [], 0, false, 1, (CV.frzEs (x0.Pvid.map intRow))⟩ (x0.Pvid).length _ (by kernel_rfl) (by kernel_rfl) (by kernel_rfl) (by kernel_rfl) (by kernel_rfl) (frz_len _ _) rfl ?_
  refine LAt.runU tOk 1 (by kernel_rfl) ?_
  obtain ⟨r1, er1, H⟩ := bind_some H
  refine LAt.callU tOk [.rd, .rd, .rd] (f := 54) (av := #[.tmp 10, .const (.int .i64 0), .tmp 14]) (ats := #[3, 3, 3]) (d := (some 15)) (ty := 4) (g := none) (by kernel_rfl) (by kernel_rfl) (by kernel_rfl) [] (impl_in n x1 0 (IntKind.wrap .i64 ((x0.Pvid.length : Int) - 1)) r1 er1) (by kernel_rfl) (.inl rfl) ?_
  refine LAt.runU tOk 1 (by kernel_rfl) ?_
  refine LAt.doneU [16, 7, 6, 3, 1, 2] [3] (by kernel_rfl) ?_
  refine Tr.to ⟨42, 0, [(16, .val false [.lit (.bool (!r1))]), (7, .val false [.lit (.bool false)]), (6, .val false [.lit (.int .i64 0)]), (3, .adr (.box 3) [(0, 0)] 2 0), (1, .val false [.lit (.int .i64 x1)]), (2, .val false [.lit (.int .i64 x2)])], [(3, (CV.frzRow (Vtab.row x0)))]⟩ (by kernel_rfl) ?_
  cases h1 : (!r1)
  · have H := bifF h1 H
    refine Tr.cond (b := false) (by kernel_rfl) (fun h => nomatch h) (fun _ => ?_)
    refine Tr.skip ?_
    show Tr _ _ _ _ _
    refine Tr.rs ?_
    refine LAt.runU tOk 2 (by kernel_rfl) ?_
    refine LAt.doneU [8, 7, 6, 3, 1, 2] [3] (by kernel_rfl) ?_
    refine Tr.seq ?_
    refine Tr.mid (ι := Int) (fun v => ⟨42, 0, [(8, .val false [.lit (.int .i64 v)]), (7, .val false [.lit (.bool false)]), (6, .val false [.lit (.int .i64 0)]), (3, .adr (.box 3) [(0, 0)] 2 0), (1, .val false [.lit (.int .i64 x1)])], [(3, (CV.frzRow (Vtab.row x0)))]⟩) (fun v => impl_ClassOf_J1 n x0 x1 v = some r) ?_ ?_
    · refine Tr.rs ?_
      refine LAt.runU tOk 2 (by kernel_rfl) ?_
      refine LAt.doneU [19, 8, 7, 6, 3, 1] [3] (by kernel_rfl) ?_
      refine Tr.to ⟨42, 0, [(19, .val false [.lit (.bool (x2 == 0))]), (8, .val false [.lit (.int .i64 x2)]), (7, .val false [.lit (.bool false)]), (6, .val false [.lit (.int .i64 0)]), (3, .adr (.box 3) [(0, 0)] 2 0), (1, .val false [.lit (.int .i64 x1)])], [(3, (CV.frzRow (Vtab.row x0)))]⟩ (by kernel_rfl) ?_
      cases h4 : (x2 == 0)
      · have H := bifF h4 H
        refine Tr.cond (b := false) (by kernel_rfl) (fun h => nomatch h) (fun _ => ?_)
        refine Tr.skip ?_
        exact Exists.intro x2 (And.intro H (St.sub_of [8, 7, 6, 3, 1] [3] (by kernel_rfl)))
      · have H := bifT h4 H
        refine Tr.cond (b := true) (by kernel_rfl) (fun _ => ?_) (fun h => nomatch h)
        refine Tr.at ?_
        refine LAt.runU tOk 3 (by kernel_rfl) ?_
        obtain ⟨v6, ev6, H⟩ := bind_some H
        refine LAt.indexF tOk (t := 33) (ty := 0) (x := (.tmp 21)) (y := (.tmp 22)) (d := 23) (g := none) ⟨(.slot 21), [], 0, false, 1, (CV.frzEs (x0.Pvid.map intRow))⟩ x1 [.lit (.int .i64 v6)] _ (by kernel_rfl) (by kernel_rfl) (by kernel_rfl) (by kernel_rfl) rfl (idx_isF ev6) rfl ?_
        refine LAt.runU tOk 2 (by kernel_rfl) ?_
        refine LAt.doneU [8, 7, 6, 3, 1] [3] (by kernel_rfl) ?_
        exact Exists.intro v6 (And.intro H (St.sub_of [8, 7, 6, 3, 1] [3] (by kernel_rfl)))
    · rintro y2 H
      have H : (impl_ClassOf_J1 n x0 x1 y2) = some r := H
      unfold impl_ClassOf_J1 at H
      show Tr _ _ _ _ _
      refine Tr.seq ?_
      refine Tr.rs ?_
      refine LAt.runU tOk 2 (by kernel_rfl) ?_
      obtain ⟨r3, er3, H⟩ := bind_some H
      refine LAt.callU tOk [.rd, .rd] (f := 61) (av := #[.tmp 25, .tmp 26]) (ats := #[40, 3]) (d := (some 27)) (ty := 3) (g := none) (by kernel_rfl) (by kernel_rfl) (by kernel_rfl) [] (impl_RowAt n x0 y2 r3 er3) (by kernel_rfl) (.inl rfl) ?_
      refine LAt.runU tOk 1 (by kernel_rfl) ?_
      refine LAt.doneU [9, 8, 7, 6, 3, 1] [3] (by kernel_rfl) ?_
      refine Tr.rs ?_
      refine LAt.runU tOk 3 (by kernel_rfl) ?_
      refine LAt.to ⟨42, 0, [(30, .val false [.lit (.bool (decide (r3 < 0)))]), (29, .val false [.lit (.bool (decide (r3 < 0)))]), (28, .val false [.lit (.int .i64 r3)]), (9, .val false [.lit (.int .i64 r3)]), (8, .val false [.lit (.int .i64 y2)]), (7, .val false [.lit (.bool false)]), (6, .val false [.lit (.int .i64 0)]), (3, .adr (.box 3) [(0, 0)] 2 0), (1, .val false [.lit (.int .i64 x1)])], [(3, (CV.frzRow (Vtab.row x0)))]⟩ (by kernel_rfl) ?_
      cases h2 : (decide (r3 < 0))
      · have H := bifF h2 H
        refine LAt.runU tOk 3 (by kernel_rfl) ?_
        obtain ⟨v4, ev4, H⟩ := bind_some H
        refine LAt.indexF tOk (t := 38) (ty := 0) (x := (.tmp 32)) (y := (.tmp 33)) (d := 34) (g := (some (2, false))) ⟨(.slot 32), [], 0, false, 3, (CV.frzEs (x0.Rows.map Vrow.row))⟩ r3 (Vrow.row v4) _ (by kernel_rfl) (by kernel_rfl) (by kernel_rfl) (by kernel_rfl) rfl (idx_isF ev4) rfl ?_
        refine LAt.runU tOk 3 (by kernel_rfl) ?_
        obtain ⟨r5, er5, H⟩ := bind_some H
        refine LAt.callU tOk [.rd, .rd] (f := 70) (av := #[.tmp 36, .tmp 37]) (ats := #[3, 3]) (d := (some 38)) (ty := 4) (g := (some (2, false))) (by kernel_rfl) (by kernel_rfl) (by kernel_rfl) [] (impl_hasPort n v4.Members x1 r5 er5) (by kernel_rfl) (.inl rfl) ?_
        refine LAt.runU tOk 2 (by kernel_rfl) ?_
        refine LAt.doneU [40, 8, 7, 6] [] (by kernel_rfl) ?_
        refine Tr.to ⟨42, 0, [(40, .val false [.lit (.bool (!r5))]), (8, .val false [.lit (.int .i64 y2)]), (7, .val false [.lit (.bool false)]), (6, .val false [.lit (.int .i64 0)])], []⟩ (by kernel_rfl) ?_
        cases h3 : (!r5)
        · have H := bifF h3 H
          refine Tr.cond (b := false) (by kernel_rfl) (fun h => nomatch h) (fun _ => ?_)
          refine Tr.skip ?_
          show Tr _ _ _ _ _
          refine Tr.rs ?_
          refine LAt.runU tOk 3 (by kernel_rfl) ?_
          refine LAt.doneU [7, 6] [] (by kernel_rfl) ?_
          refine Tr.ret ?_
          have H := Option.some.inj H
          subst H
          exact Fin.of _ [(false, [.lit (.int .i64 y2)]), (false, [.lit (.bool true)])] (by kernel_rfl) rfl rfl
        · have H := bifT h3 H
          refine Tr.cond (b := true) (by kernel_rfl) (fun _ => ?_) (fun h => nomatch h)
          refine Tr.rs ?_
          refine LAt.runU tOk 2 (by kernel_rfl) ?_
          refine LAt.doneU [7, 6, 8] [] (by kernel_rfl) ?_
          refine Tr.ret ?_
          have H := Option.some.inj H
          subst H
          exact Fin.of _ [(false, [.lit (.int .i64 0)]), (false, [.lit (.bool false)])] (by kernel_rfl) rfl rfl
      · have H := bifT h2 H
        refine LAt.runU tOk 10 (by kernel_rfl) ?_
        refine LAt.doneU [40, 8, 7, 6] [] (by kernel_rfl) ?_
        refine Tr.cond (b := true) (by kernel_rfl) (fun _ => ?_) (fun h => nomatch h)
        refine Tr.rs ?_
        refine LAt.runU tOk 2 (by kernel_rfl) ?_
        refine LAt.doneU [7, 6, 8] [] (by kernel_rfl) ?_
        refine Tr.ret ?_
        have H := Option.some.inj H
        subst H
        exact Fin.of _ [(false, [.lit (.int .i64 0)]), (false, [.lit (.bool false)])] (by kernel_rfl) rfl rfl
  · have H := bifT h1 H
    refine Tr.cond (b := true) (by kernel_rfl) (fun _ => ?_) (fun h => nomatch h)
    refine Tr.rs ?_
    refine LAt.runU tOk 2 (by kernel_rfl) ?_
    refine LAt.doneU [7, 6, 3, 1, 2] [3] (by kernel_rfl) ?_
    refine Tr.ret ?_
    have H := Option.some.inj H
    subst H
    exact Fin.of _ [(false, [.lit (.int .i64 0)]), (false, [.lit (.bool false)])] (by kernel_rfl) rfl rfl

def spec_l9BitF (n : Nat) (x0 : Int) (x1 : Int) : Option (Bool) :=
  ((spec_l1InF n x1 0 7).bind fun r1 => (bif r1 then (bif (decide ((0 : Int) ≤ (IntKind.wrap .u64 x1))) then (some ((IntKind.wrap .i64 (BitVec.ofInt (IntKind.bits .i64) (Int.fdiv x0 (2 ^ min (((IntKind.wrap .u64 x1) : Int)).toNat (IntKind.bits .i64))) &&& BitVec.ofInt (IntKind.bits .i64) 1).toNat) == 1)) else none) else (some false)))
/-- loop.example/g00326/spec.l9Bit -/
theorem spec_l9Bit (n : Nat) (x0 : Int) (x1 : Int) (r : Bool) (H : spec_l9BitF n x0 x1 = some r) : LCall Try.prog 69 [.val false [.lit (.int .i64 x0)], .val false [.lit (.int .i64 x1)]] [.val false [.lit (.bool r)]] [] := by
  refine LCall.of_body tOk Try.func69 rfl (c := (.seq (.region 0 (rg Try.f69 0) false) (.seq (.region 1 (rg Try.f69 1) false) .ret))) (by kernel_rfl) (Nat.le_of_ble_eq_true (by kernel_rfl)) 0 (rs := [.tmp 4]) rfl [] .nil [(false, [.lit (.bool r)])] [] [] fun cx => ?_
  show Tr _ _ _ ⟨15, 0, [(0, .val false [.lit (.int .i64 x0)]), (1, .val false [.lit (.int .i64 x1)])], []⟩ _
  unfold spec_l9BitF at H
  refine Tr.rs ?_
  refine LAt.runU tOk 1 (by kernel_rfl) ?_
  refine LAt.doneU [4, 0, 1] [] (by kernel_rfl) ?_
  refine Tr.rs ?_
  refine LAt.runU tOk 1 (by kernel_rfl) ?_
  obtain ⟨r1, er1, H⟩ := bind_some H
  refine LAt.callU tOk [.rd, .rd, .rd] (f := 51) (av := #[.tmp 5, .const (.int .i64 0), .const (.int .i64 7)]) (ats := #[3, 3, 3]) (d := (some 6)) (ty := 4) (g := none) (by kernel_rfl) (by kernel_rfl) (by kernel_rfl) [] (spec_l1In n x1 0 7 r1 er1) (by kernel_rfl) (.inl rfl) ?_
  refine LAt.runU tOk 1 (by kernel_rfl) ?_
  refine LAt.to ⟨15, 0, [(7, .val false [.lit (.bool r1)]), (6, .val false [.lit (.bool r1)]), (5, .val false [.lit (.int .i64 x1)]), (4, .val false [.lit (.bool false)]), (0, .val false [.lit (.int .i64 x0)]), (1, .val false [.lit (.int .i64 x1)])], []⟩ (by kernel_rfl) ?_
  cases h1 : r1
  · have H := bifF h1 H
    refine LAt.runU tOk 8 (by kernel_rfl) ?_
    refine LAt.doneU [4] [] (by kernel_rfl) ?_
    refine Tr.ret ?_
    have H := Option.some.inj H
    subst H
    exact Fin.of _ [(false, [.lit (.bool false)])] (by kernel_rfl) rfl rfl
  · have H := bifT h1 H
    refine LAt.runU tOk 3 (by kernel_rfl) ?_
    obtain ⟨hg2, H⟩ := guard_some H
    refine LAt.binC tOk (op := .shr) (t := 3) (ty := 86) (ty' := 3) (x := (.tmp 8)) (y := (.tmp 10)) (d := 11) (g := (some (2, true))) (.int .i64 x0) (.int .u64 (IntKind.wrap .u64 x1)) (.int .i64 (Int.fdiv x0 (2 ^ min (((IntKind.wrap .u64 x1) : Int)).toNat (IntKind.bits .i64)))) _ (by kernel_rfl) (by kernel_rfl) (by kernel_rfl) (by kernel_rfl) (by kernel_rfl) (φ := (0 : Int) ≤ (IntKind.wrap .u64 x1)) (by kernel_rfl) (of_decide_eq_true hg2) rfl ?_
    refine LAt.runU tOk 4 (by kernel_rfl) ?_
    refine LAt.doneU [4] [] (by kernel_rfl) ?_
    refine Tr.ret ?_
    have H := Option.some.inj H
    subst H
    exact Fin.of _ [(false, [.lit (.bool ((IntKind.wrap .i64 (BitVec.ofInt (IntKind.bits .i64) (Int.fdiv x0 (2 ^ min (((IntKind.wrap .u64 x1) : Int)).toNat (IntKind.bits .i64))) &&& BitVec.ofInt (IntKind.bits .i64) 1).toNat) == 1))])] (by kernel_rfl) rfl rfl

def spec_ClassOf_J1 (n : Nat) (x0 : Vtab) (x1 : Int) (y2 : Int) : Option (Int × Bool) :=
  ((spec_RowAtF n x0 y2).bind fun r3 => (bif (decide (r3 < 0)) then (some (0, false)) else ((idx x0.Rows r3).bind fun v4 => ((spec_l9BitF n v4.Members x1).bind fun r5 => (bif (!r5) then (some (0, false)) else (some (y2, true)))))))
def spec_ClassOfF (n : Nat) (x0 : Vtab) (x1 : Int) (x2 : Int) : Option (Int × Bool) :=
  ((spec_l1InF n x1 0 (IntKind.wrap .i64 ((x0.Pvid.length : Int) - 1))).bind fun r1 => (bif (!r1) then (some (0, false)) else (bif (x2 == 0) then ((idx x0.Pvid x1).bind fun v6 => (spec_ClassOf_J1 n x0 x1 v6)) else (spec_ClassOf_J1 n x0 x1 x2))))
/-- loop.example/g00326/spec.ClassOf -/
theorem spec_ClassOf (n : Nat) (x0 : Vtab) (x1 : Int) (x2 : Int) (r : Int × Bool) (H : spec_ClassOfF n x0 x1 x2 = some r) : LCall Try.prog 26 [.val true (CV.frzRow (Vtab.row x0)), .val false [.lit (.int .i64 x1)], .val false [.lit (.int .i64 x2)]] [.val false [.lit (.int .i64 r.1)], .val false [.lit (.bool r.2)]] [] := by
  refine LCall.of_body tOk Try.func26 rfl (c := (.seq (.region 0 (rg Try.f26 0) false) (.seq (.seq (.region 1 (rg Try.f26 1) false) (.cond (.tmp 15) (.seq (.region 2 (rg Try.f26 2) false) .ret) .skip)) (.seq (.seq (.region 3 (rg Try.f26 3) false) (.cond (.tmp 17) (.region 4 (rg Try.f26 4) false) .skip)) (.seq (.region 5 (rg Try.f26 5) false) (.seq (.seq (.region 6 (rg Try.f26 6) false) (.cond (.tmp 38) (.seq (.region 7 (rg Try.f26 7) false) .ret) .skip)) (.seq (.region 8 (rg Try.f26 8) false) .ret))))))) (by kernel_rfl) (Nat.le_of_ble_eq_true (by kernel_rfl)) 0 (rs := [.tmp 6, .tmp 7]) rfl [] .nil [(false, [.lit (.int .i64 r.1)]), (false, [.lit (.bool r.2)])] [] [] fun cx => ?_
  show Tr _ _ _ ⟨40, 0, [(0, .val true (CV.frzRow (Vtab.row x0))), (1, .val false [.lit (.int .i64 x1)]), (2, .val false [.lit (.int .i64 x2)])], []⟩ _
  unfold spec_ClassOfF at H
  refine Tr.rs ?_
  refine LAt.runU tOk 3 (by kernel_rfl) ?_
  refine LAt.doneU [7, 6, 3, 1, 2] [3] (by kernel_rfl) ?_
  refine Tr.seq ?_
  refine Tr.rs ?_
  refine LAt.runU tOk 3 (by kernel_rfl) ?_
  refine LAt.lenE tOk (t := 33) (ty := 3) (e := 3) (x := (.tmp 11)) (d := 12) (g := none) ⟨(.slot 11), [], 0, false, 1, (CV.frzEs (x0.Pvid.map intRow))⟩ (x0.Pvid).length _ (by kernel_rfl) (by kernel_rfl) (by kernel_rfl) (by kernel_rfl) (by kernel_rfl) (frz_len _ _) rfl ?_
  refine LAt.runU tOk 1 (by kernel_rfl) ?_
  obtain ⟨r1, er1, H⟩ := bind_some H
  refine LAt.callU tOk [.rd, .rd, .rd] (f := 51) (av := #[.tmp 9, .const (.int .i64 0), .tmp 13]) (ats := #[3, 3, 3]) (d := (some 14)) (ty := 4) (g := none) (by kernel_rfl) (by kernel_rfl) (by kernel_rfl) [] (spec_l1In n x1 0 (IntKind.wrap .i64 ((x0.Pvid.length : Int) - 1)) r1 er1) (by kernel_rfl) (.inl rfl) ?_
  refine LAt.runU tOk 1 (by kernel_rfl) ?_
  refine LAt.doneU [15, 7, 6, 3, 1, 2] [3] (by kernel_rfl) ?_
  refine Tr.to ⟨40, 0, [(15, .val false [.lit (.bool (!r1))]), (7, .val false [.lit (.bool false)]), (6, .val false [.lit (.int .i64 0)]), (3, .adr (.box 3) [(0, 0)] 2 0), (1, .val false [.lit (.int .i64 x1)]), (2, .val false [.lit (.int .i64 x2)])], [(3, (CV.frzRow (Vtab.row x0)))]⟩ (by kernel_rfl) ?_
  cases h1 : (!r1)
  · have H := bifF h1 H
    refine Tr.cond (b := false) (by kernel_rfl) (fun h => nomatch h) (fun _ => ?_)
    refine Tr.skip ?_
    show Tr _ _ _ _ _
    refine Tr.seq ?_
    refine Tr.mid (ι := Int) (fun v => ⟨40, 0, [(7, .val false [.lit (.bool false)]), (6, .val false [.lit (.int .i64 0)]), (3, .adr (.box 3) [(0, 0)] 2 0), (1, .val false [.lit (.int .i64 x1)]), (2, .val false [.lit (.int .i64 v)])], [(3, (CV.frzRow (Vtab.row x0)))]⟩) (fun v => spec_ClassOf_J1 n x0 x1 v = some r) ?_ ?_
    · refine Tr.rs ?_
      refine LAt.runU tOk 2 (by kernel_rfl) ?_
      refine LAt.doneU [17, 7, 6, 3, 1, 2] [3] (by kernel_rfl) ?_
      refine Tr.to ⟨40, 0, [(17, .val false [.lit (.bool (x2 == 0))]), (7, .val false [.lit (.bool false)]), (6, .val false [.lit (.int .i64 0)]), (3, .adr (.box 3) [(0, 0)] 2 0), (1, .val false [.lit (.int .i64 x1)]), (2, .val false [.lit (.int .i64 x2)])], [(3, (CV.frzRow (Vtab.row x0)))]⟩ (by kernel_rfl) ?_
      cases h4 : (x2 == 0)
      · have H := bifF h4 H
        refine Tr.cond (b := false) (by kernel_rfl) (fun h => nomatch h) (fun _ => ?_)
        refine Tr.skip ?_
        exact Exists.intro x2 (And.intro H (St.sub_of [7, 6, 3, 1, 2] [3] (by kernel_rfl)))
      · have H := bifT h4 H
        refine Tr.cond (b := true) (by kernel_rfl) (fun _ => ?_) (fun h => nomatch h)
        refine Tr.at ?_
        refine LAt.runU tOk 3 (by kernel_rfl) ?_
        obtain ⟨v6, ev6, H⟩ := bind_some H
        refine LAt.indexF tOk (t := 33) (ty := 0) (x := (.tmp 19)) (y := (.tmp 20)) (d := 21) (g := none) ⟨(.slot 19), [], 0, false, 1, (CV.frzEs (x0.Pvid.map intRow))⟩ x1 [.lit (.int .i64 v6)] _ (by kernel_rfl) (by kernel_rfl) (by kernel_rfl) (by kernel_rfl) rfl (idx_isF ev6) rfl ?_
        refine LAt.runU tOk 2 (by kernel_rfl) ?_
        refine LAt.doneU [2, 7, 6, 3, 1] [3] (by kernel_rfl) ?_
        exact Exists.intro v6 (And.intro H (St.sub_of [7, 6, 3, 1, 2] [3] (by kernel_rfl)))
    · rintro y2 H
      have H : (spec_ClassOf_J1 n x0 x1 y2) = some r := H
      unfold spec_ClassOf_J1 at H
      show Tr _ _ _ _ _
      refine Tr.rs ?_
      refine LAt.runU tOk 2 (by kernel_rfl) ?_
      obtain ⟨r3, er3, H⟩ := bind_some H
      refine LAt.callU tOk [.rd, .rd] (f := 58) (av := #[.tmp 23, .tmp 24]) (ats := #[40, 3]) (d := (some 25)) (ty := 3) (g := none) (by kernel_rfl) (by kernel_rfl) (by kernel_rfl) [] (spec_RowAt n x0 y2 r3 er3) (by kernel_rfl) (.inl rfl) ?_
      refine LAt.runU tOk 1 (by kernel_rfl) ?_
      refine LAt.doneU [8, 7, 6, 3, 1, 2] [3] (by kernel_rfl) ?_
      refine Tr.seq ?_
      refine Tr.rs ?_
      refine LAt.runU tOk 3 (by kernel_rfl) ?_
      refine LAt.to ⟨40, 0, [(28, .val false [.lit (.bool (decide (r3 < 0)))]), (27, .val false [.lit (.bool (decide (r3 < 0)))]), (26, .val false [.lit (.int .i64 r3)]), (8, .val false [.lit (.int .i64 r3)]), (7, .val false [.lit (.bool false)]), (6, .val false [.lit (.int .i64 0)]), (3, .adr (.box 3) [(0, 0)] 2 0), (1, .val false [.lit (.int .i64 x1)]), (2, .val false [.lit (.int .i64 y2)])], [(3, (CV.frzRow (Vtab.row x0)))]⟩ (by kernel_rfl) ?_
      cases h2 : (decide (r3 < 0))
      · have H := bifF h2 H
        refine LAt.runU tOk 3 (by kernel_rfl) ?_
        obtain ⟨v4, ev4, H⟩ := bind_some H
        refine LAt.indexF tOk (t := 38) (ty := 0) (x := (.tmp 30)) (y := (.tmp 31)) (d := 32) (g := (some (2, false))) ⟨(.slot 30), [], 0, false, 3, (CV.frzEs (x0.Rows.map Vrow.row))⟩ r3 (Vrow.row v4) _ (by kernel_rfl) (by kernel_rfl) (by kernel_rfl) (by kernel_rfl) rfl (idx_isF ev4) rfl ?_
        refine LAt.runU tOk 3 (by kernel_rfl) ?_
        obtain ⟨r5, er5, H⟩ := bind_some H
        refine LAt.callU tOk [.rd, .rd] (f := 69) (av := #[.tmp 34, .tmp 35]) (ats := #[3, 3]) (d := (some 36)) (ty := 4) (g := (some (2, false))) (by kernel_rfl) (by kernel_rfl) (by kernel_rfl) [] (spec_l9Bit n v4.Members x1 r5 er5) (by kernel_rfl) (.inl rfl) ?_
        refine LAt.runU tOk 2 (by kernel_rfl) ?_
        refine LAt.doneU [38, 7, 6, 2] [] (by kernel_rfl) ?_
        refine Tr.to ⟨40, 0, [(38, .val false [.lit (.bool (!r5))]), (7, .val false [.lit (.bool false)]), (6, .val false [.lit (.int .i64 0)]), (2, .val false [.lit (.int .i64 y2)])], []⟩ (by kernel_rfl) ?_
        cases h3 : (!r5)
        · have H := bifF h3 H
          refine Tr.cond (b := false) (by kernel_rfl) (fun h => nomatch h) (fun _ => ?_)
          refine Tr.skip ?_
          show Tr _ _ _ _ _
          refine Tr.rs ?_
          refine LAt.runU tOk 3 (by kernel_rfl) ?_
          refine LAt.doneU [7, 6] [] (by kernel_rfl) ?_
          refine Tr.ret ?_
          have H := Option.some.inj H
          subst H
          exact Fin.of _ [(false, [.lit (.int .i64 y2)]), (false, [.lit (.bool true)])] (by kernel_rfl) rfl rfl
        · have H := bifT h3 H
          refine Tr.cond (b := true) (by kernel_rfl) (fun _ => ?_) (fun h => nomatch h)
          refine Tr.rs ?_
          refine LAt.runU tOk 2 (by kernel_rfl) ?_
          refine LAt.doneU [7, 6, 2] [] (by kernel_rfl) ?_
          refine Tr.ret ?_
          have H := Option.some.inj H
          subst H
          exact Fin.of _ [(false, [.lit (.int .i64 0)]), (false, [.lit (.bool false)])] (by kernel_rfl) rfl rfl
      · have H := bifT h2 H
        refine LAt.runU tOk 10 (by kernel_rfl) ?_
        refine LAt.doneU [38, 7, 6, 2] [] (by kernel_rfl) ?_
        refine Tr.cond (b := true) (by kernel_rfl) (fun _ => ?_) (fun h => nomatch h)
        refine Tr.rs ?_
        refine LAt.runU tOk 2 (by kernel_rfl) ?_
        refine LAt.doneU [7, 6, 2] [] (by kernel_rfl) ?_
        refine Tr.ret ?_
        have H := Option.some.inj H
        subst H
        exact Fin.of _ [(false, [.lit (.int .i64 0)]), (false, [.lit (.bool false)])] (by kernel_rfl) rfl rfl
  · have H := bifT h1 H
    refine Tr.cond (b := true) (by kernel_rfl) (fun _ => ?_) (fun h => nomatch h)
    refine Tr.rs ?_
    refine LAt.runU tOk 2 (by kernel_rfl) ?_
    refine LAt.doneU [7, 6, 3, 1, 2] [3] (by kernel_rfl) ?_
    refine Tr.ret ?_
    have H := Option.some.inj H
    subst H
    exact Fin.of _ [(false, [.lit (.int .i64 0)]), (false, [.lit (.bool false)])] (by kernel_rfl) rfl rfl

def spec_DrawShownTagF (n : Nat) (x0 : (List Int)) : Option (Vtab × Int × Int) :=
  ((spec_l1NewF n x0).bind fun r1 => ((spec_l9TabF n r1).bind fun r2 => ((spec_l1IntF n r2.2 [1, 2, 3, 9]).bind fun r3 => ((spec_l1IntF n r3.2 [0, 1, 2, 3, (-1), 9]).bind fun r4 => (some (r2.1, r3.1, r4.1))))))
/-- loop.example/g00326/spec.DrawShownTag -/
theorem spec_DrawShownTag (n : Nat) (x0 : (List Int)) (r : Vtab × Int × Int) (H : spec_DrawShownTagF n x0 = some r) : LCall Try.prog 47 [.val false [.sl false 1 (CV.frzEs (x0.map byteRow))]] [.val true (Vtab.row r.1), .val false [.lit (.int .i64 r.2.1)], .val false [.lit (.int .i64 r.2.2)]] [] := by
  refine LCall.of_body tOk Try.func47 rfl (c := (.seq (.region 0 (rg Try.f47 0) false) (.seq (.region 1 (rg Try.f47 1) false) (.seq (.region 2 (rg Try.f47 2) false) .ret)))) (by kernel_rfl) (Nat.le_of_ble_eq_true (by kernel_rfl)) 0 (rs := [.cell 2 40, .tmp 3, .tmp 4]) rfl [] .nil [(true, (Vtab.row r.1)), (false, [.lit (.int .i64 r.2.1)]), (false, [.lit (.int .i64 r.2.2)])] [] [] fun cx => ?_
  show Tr _ _ _ ⟨16, 0, [(0, .val false [.sl false 1 (CV.frzEs (x0.map byteRow))])], []⟩ _
  unfold spec_DrawShownTagF at H
  refine Tr.rs ?_
  refine LAt.runU tOk 3 (by kernel_rfl) ?_
  refine LAt.doneU [4, 3, 2, 0] [2] (by kernel_rfl) ?_
  refine Tr.rs ?_
  refine LAt.runU tOk 1 (by kernel_rfl) ?_
  obtain ⟨r1, er1, H⟩ := bind_some H
  refine LAt.callU tOk [.rd] (f := 75) (av := #[.tmp 6]) (ats := #[61]) (d := (some 7)) (ty := 90) (g := none) (by kernel_rfl) (by kernel_rfl) (by kernel_rfl) [] (spec_l1New n x0 r1 er1) (by kernel_rfl) (.inl rfl) ?_
  refine LAt.runU tOk 1 (by kernel_rfl) ?_
  refine LAt.doneU [5, 4, 3, 2] [7, 2] (by kernel_rfl) ?_
  refine Tr.rs ?_
  refine LAt.runU tOk 1 (by kernel_rfl) ?_
  obtain ⟨r2, er2, H⟩ := bind_some H
  refine LAt.callL tOk [.lend] (f := 78) (av := #[.tmp 8]) (ats := #[90]) (d := (some 9)) (ty := 40) (g := none) (by kernel_rfl) (by kernel_rfl) (by kernel_rfl) [] (spec_l9Tab n r1 r2 er2) (by kernel_rfl) (.inl rfl) ?_
  refine LAt.runU tOk 2 (by kernel_rfl) ?_
  obtain ⟨r3, er3, H⟩ := bind_some H
  refine LAt.callL tOk [.lend, .rd] (f := 79) (av := #[.tmp 10, .tmp 11]) (ats := #[90, 33]) (d := (some 12)) (ty := 3) (g := none) (by kernel_rfl) (by kernel_rfl) (by kernel_rfl) [] (spec_l1Int n r2.2 [1, 2, 3, 9] r3 er3) (by kernel_rfl) (.inl rfl) ?_
  refine LAt.runU tOk 2 (by kernel_rfl) ?_
  obtain ⟨r4, er4, H⟩ := bind_some H
  refine LAt.callL tOk [.lend, .rd] (f := 79) (av := #[.tmp 13, .tmp 14]) (ats := #[90, 33]) (d := (some 15)) (ty := 3) (g := none) (by kernel_rfl) (by kernel_rfl) (by kernel_rfl) [] (spec_l1Int n r3.2 [0, 1, 2, 3, (-1), 9] r4 er4) (by kernel_rfl) (.inl rfl) ?_
  refine LAt.runU tOk 3 (by kernel_rfl) ?_
  refine LAt.doneU [4, 3, 2] [2] (by kernel_rfl) ?_
  refine Tr.ret ?_
  have H := Option.some.inj H
  subst H
  exact Fin.of _ [(true, (Vtab.row r2.1)), (false, [.lit (.int .i64 r3.1)]), (false, [.lit (.int .i64 r4.1)])] (by kernel_rfl) rfl rfl

def spec_DrawRowAtF (n : Nat) (x0 : (List Int)) : Option (Vtab × Int) :=
  ((spec_l1NewF n x0).bind fun r1 => ((spec_l9TabF n r1).bind fun r2 => ((spec_l1IntF n r2.2 [1, 2, 3, 0, 9]).bind fun r3 => (some (r2.1, r3.1)))))
/-- loop.example/g00326/spec.DrawRowAt -/
theorem spec_DrawRowAt (n : Nat) (x0 : (List Int)) (r : Vtab × Int) (H : spec_DrawRowAtF n x0 = some r) : LCall Try.prog 80 [.val false [.sl false 1 (CV.frzEs (x0.map byteRow))]] [.val true (Vtab.row r.1), .val false [.lit (.int .i64 r.2)]] [] := by
  refine LCall.of_body tOk Try.func80 rfl (c := (.seq (.region 0 (rg Try.f80 0) false) (.seq (.region 1 (rg Try.f80 1) false) (.seq (.region 2 (rg Try.f80 2) false) .ret)))) (by kernel_rfl) (Nat.le_of_ble_eq_true (by kernel_rfl)) 0 (rs := [.cell 2 40, .tmp 3]) rfl [] .nil [(true, (Vtab.row r.1)), (false, [.lit (.int .i64 r.2)])] [] [] fun cx => ?_
  show Tr _ _ _ ⟨12, 0, [(0, .val false [.sl false 1 (CV.frzEs (x0.map byteRow))])], []⟩ _
  unfold spec_DrawRowAtF at H
  refine Tr.rs ?_
  refine LAt.runU tOk 2 (by kernel_rfl) ?_
  refine LAt.doneU [3, 2, 0] [2] (by kernel_rfl) ?_
  refine Tr.rs ?_
  refine LAt.runU tOk 1 (by kernel_rfl) ?_
  obtain ⟨r1, er1, H⟩ := bind_some H
  refine LAt.callU tOk [.rd] (f := 75) (av := #[.tmp 5]) (ats := #[61]) (d := (some 6)) (ty := 90) (g := none) (by kernel_rfl) (by kernel_rfl) (by kernel_rfl) [] (spec_l1New n x0 r1 er1) (by kernel_rfl) (.inl rfl) ?_
  refine LAt.runU tOk 1 (by kernel_rfl) ?_
  refine LAt.doneU [4, 3, 2] [6, 2] (by kernel_rfl) ?_
  refine Tr.rs ?_
  refine LAt.runU tOk 1 (by kernel_rfl) ?_
  obtain ⟨r2, er2, H⟩ := bind_some H
  refine LAt.callL tOk [.lend] (f := 78) (av := #[.tmp 7]) (ats := #[90]) (d := (some 8)) (ty := 40) (g := none) (by kernel_rfl) (by kernel_rfl) (by kernel_rfl) [] (spec_l9Tab n r1 r2 er2) (by kernel_rfl) (.inl rfl) ?_
  refine LAt.runU tOk 2 (by kernel_rfl) ?_
  obtain ⟨r3, er3, H⟩ := bind_some H
  refine LAt.callL tOk [.lend, .rd] (f := 79) (av := #[.tmp 9, .tmp 10]) (ats := #[90, 33]) (d := (some 11)) (ty := 3) (g := none) (by kernel_rfl) (by kernel_rfl) (by kernel_rfl) [] (spec_l1Int n r2.2 [1, 2, 3, 0, 9] r3 er3) (by kernel_rfl) (.inl rfl) ?_
  refine LAt.runU tOk 2 (by kernel_rfl) ?_
  refine LAt.doneU [3, 2] [2] (by kernel_rfl) ?_
  refine Tr.ret ?_
  have H := Option.some.inj H
  subst H
  exact Fin.of _ [(true, (Vtab.row r2.1)), (false, [.lit (.int .i64 r3.1)])] (by kernel_rfl) rfl rfl

def spec_DrawEgressOfF (n : Nat) (x0 : (List Int)) : Option (Vtab × Int) :=
  ((spec_DrawRowAtF n x0).bind fun r1 => (some (r1.1, r1.2)))
/-- loop.example/g00326/spec.DrawEgressOf -/
theorem spec_DrawEgressOf (n : Nat) (x0 : (List Int)) (r : Vtab × Int) (H : spec_DrawEgressOfF n x0 = some r) : LCall Try.prog 48 [.val false [.sl false 1 (CV.frzEs (x0.map byteRow))]] [.val true (Vtab.row r.1), .val false [.lit (.int .i64 r.2)]] [] := by
  refine LCall.of_body tOk Try.func48 rfl (c := (.seq (.region 0 (rg Try.f48 0) false) (.seq (.region 1 (rg Try.f48 1) false) .ret))) (by kernel_rfl) (Nat.le_of_ble_eq_true (by kernel_rfl)) 0 (rs := [.cell 2 40, .tmp 3]) rfl [] .nil [(true, (Vtab.row r.1)), (false, [.lit (.int .i64 r.2)])] [] [] fun cx => ?_
  show Tr _ _ _ ⟨8, 0, [(0, .val false [.sl false 1 (CV.frzEs (x0.map byteRow))])], []⟩ _
  unfold spec_DrawEgressOfF at H
  refine Tr.rs ?_
  refine LAt.runU tOk 2 (by kernel_rfl) ?_
  refine LAt.doneU [3, 2, 0] [2] (by kernel_rfl) ?_
  refine Tr.rs ?_
  refine LAt.runU tOk 1 (by kernel_rfl) ?_
  obtain ⟨r1, er1, H⟩ := bind_some H
  refine LAt.callU tOk [.rd] (f := 80) (av := #[.tmp 4]) (ats := #[61]) (d := (some 5)) (ty := 72) (g := none) (by kernel_rfl) (by kernel_rfl) (by kernel_rfl) [] (spec_DrawRowAt n x0 r1 er1) (by kernel_rfl) (.inl rfl) ?_
  refine LAt.runU tOk 4 (by kernel_rfl) ?_
  refine LAt.doneU [3, 2] [2] (by kernel_rfl) ?_
  refine Tr.ret ?_
  have H := Option.some.inj H
  subst H
  exact Fin.of _ [(true, (Vtab.row r1.1)), (false, [.lit (.int .i64 r1.2)])] (by kernel_rfl) rfl rfl

def impl_EgressOfF (n : Nat) (x0 : Vtab) (x1 : Int) : Option (Int) :=
  ((impl_RowAtF n x0 x1).bind fun r1 => (bif (decide (r1 < 0)) then (some 0) else ((idx x0.Rows r1).bind fun v2 => (some v2.Members))))
/-- loop.example/g00326/impl.EgressOf -/
theorem impl_EgressOf (n : Nat) (x0 : Vtab) (x1 : Int) (r : Int) (H : impl_EgressOfF n x0 x1 = some r) : LCall Try.prog 20 [.val true (CV.frzRow (Vtab.row x0)), .val false [.lit (.int .i64 x1)]] [.val false [.lit (.int .i64 r)]] [] := by
  refine LCall.of_body tOk Try.func20 rfl (c := (.seq (.region 0 (rg Try.f20 0) false) (.seq (.region 1 (rg Try.f20 1) false) (.seq (.seq (.region 2 (rg Try.f20 2) false) (.cond (.tmp 10) (.seq (.region 3 (rg Try.f20 3) false) .ret) .skip)) (.seq (.region 4 (rg Try.f20 4) false) .ret))))) (by kernel_rfl) (Nat.le_of_ble_eq_true (by kernel_rfl)) 0 (rs := [.tmp 4]) rfl [] .nil [(false, [.lit (.int .i64 r)])] [] [] fun cx => ?_
  show Tr _ _ _ ⟨17, 0, [(0, .val true (CV.frzRow (Vtab.row x0))), (1, .val false [.lit (.int .i64 x1)])], []⟩ _
  unfold impl_EgressOfF at H
  refine Tr.rs ?_
  refine LAt.runU tOk 2 (by kernel_rfl) ?_
  refine LAt.doneU [4, 2, 1] [2] (by kernel_rfl) ?_
  refine Tr.rs ?_
  refine LAt.runU tOk 2 (by kernel_rfl) ?_
  obtain ⟨r1, er1, H⟩ := bind_some H
  refine LAt.callU tOk [.rd, .rd] (f := 61) (av := #[.tmp 6, .tmp 7]) (ats := #[40, 3]) (d := (some 8)) (ty := 3) (g := none) (by kernel_rfl) (by kernel_rfl) (by kernel_rfl) [] (impl_RowAt n x0 x1 r1 er1) (by kernel_rfl) (.inl rfl) ?_
  refine LAt.runU tOk 1 (by kernel_rfl) ?_
  refine LAt.doneU [5, 4, 2] [2] (by kernel_rfl) ?_
  refine Tr.seq ?_
  refine Tr.rs ?_
  refine LAt.runU tOk 2 (by kernel_rfl) ?_
  refine LAt.doneU [10, 5, 4, 2] [2] (by kernel_rfl) ?_
  refine Tr.to ⟨17, 0, [(10, .val false [.lit (.bool (decide (r1 < 0)))]), (5, .val false [.lit (.int .i64 r1)]), (4, .val false [.lit (.int .i64 0)]), (2, .adr (.box 2) [(0, 0)] 2 0)], [(2, (CV.frzRow (Vtab.row x0)))]⟩ (by kernel_rfl) ?_
  cases h1 : (decide (r1 < 0))
  · have H := bifF h1 H
    refine Tr.cond (b := false) (by kernel_rfl) (fun h => nomatch h) (fun _ => ?_)
    refine Tr.skip ?_
    show Tr _ _ _ _ _
    refine Tr.rs ?_
    refine LAt.runU tOk 3 (by kernel_rfl) ?_
    obtain ⟨v2, ev2, H⟩ := bind_some H
    refine LAt.indexF tOk (t := 38) (ty := 0) (x := (.tmp 12)) (y := (.tmp 13)) (d := 14) (g := none) ⟨(.slot 12), [], 0, false, 3, (CV.frzEs (x0.Rows.map Vrow.row))⟩ r1 (Vrow.row v2) _ (by kernel_rfl) (by kernel_rfl) (by kernel_rfl) (by kernel_rfl) rfl (idx_isF ev2) rfl ?_
    refine LAt.runU tOk 3 (by kernel_rfl) ?_
    refine LAt.doneU [4] [] (by kernel_rfl) ?_
    refine Tr.ret ?_
    have H := Option.some.inj H
    subst H
    exact Fin.of _ [(false, [.lit (.int .i64 v2.Members)])] (by kernel_rfl) rfl rfl
  · have H := bifT h1 H
    refine Tr.cond (b := true) (by kernel_rfl) (fun _ => ?_) (fun h => nomatch h)
    refine Tr.rs ?_
    refine LAt.runU tOk 1 (by kernel_rfl) ?_
    refine LAt.doneU [4, 5, 2] [2] (by kernel_rfl) ?_
    refine Tr.ret ?_
    have H := Option.some.inj H
    subst H
    exact Fin.of _ [(false, [.lit (.int .i64 0)])] (by kernel_rfl) rfl rfl

def laws_bitF (n : Nat) (x0 : Int) (x1 : Int) : Option (Bool) :=
  (bif (decide (x1 ≥ 0)) then (bif (decide (x1 < 8)) then (bif (decide ((0 : Int) ≤ (IntKind.wrap .u64 x1))) then (some ((IntKind.wrap .i64 (BitVec.ofInt (IntKind.bits .i64) (Int.fdiv x0 (2 ^ min (((IntKind.wrap .u64 x1) : Int)).toNat (IntKind.bits .i64))) &&& BitVec.ofInt (IntKind.bits .i64) 1).toNat) == 1)) else none) else (some false)) else (some false))
/-- loop.example/g00326/laws.bit -/
theorem laws_bit (n : Nat) (x0 : Int) (x1 : Int) (r : Bool) (H : laws_bitF n x0 x1 = some r) : LCall Try.prog 42 [.val false [.lit (.int .i64 x0)], .val false [.lit (.int .i64 x1)]] [.val false [.lit (.bool r)]] [] := by
  refine LCall.of_body tOk Try.func42 rfl (c := (.seq (.region 0 (rg Try.f42 0) false) (.seq (.region 1 (rg Try.f42 1) false) .ret))) (by kernel_rfl) (Nat.le_of_ble_eq_true (by kernel_rfl)) 0 (rs := [.tmp 4]) rfl [] .nil [(false, [.lit (.bool r)])] [] [] fun cx => ?_
  show Tr _ _ _ ⟨19, 0, [(0, .val false [.lit (.int .i64 x0)]), (1, .val false [.lit (.int .i64 x1)])], []⟩ _
  unfold laws_bitF at H
  refine Tr.rs ?_
  refine LAt.runU tOk 1 (by kernel_rfl) ?_
  refine LAt.doneU [4, 0, 1] [] (by kernel_rfl) ?_
  refine Tr.rs ?_
  refine LAt.runU tOk 3 (by kernel_rfl) ?_
  refine LAt.to ⟨19, 0, [(7, .val false [.lit (.bool (decide (x1 ≥ 0)))]), (6, .val false [.lit (.bool (decide (x1 ≥ 0)))]), (5, .val false [.lit (.int .i64 x1)]), (4, .val false [.lit (.bool false)]), (0, .val false [.lit (.int .i64 x0)]), (1, .val false [.lit (.int .i64 x1)])], []⟩ (by kernel_rfl) ?_
  cases h1 : (decide (x1 ≥ 0))
  · have H := bifF h1 H
    refine LAt.runU tOk 12 (by kernel_rfl) ?_
    refine LAt.doneU [4] [] (by kernel_rfl) ?_
    refine Tr.ret ?_
    have H := Option.some.inj H
    subst H
    exact Fin.of _ [(false, [.lit (.bool false)])] (by kernel_rfl) rfl rfl
  · have H := bifT h1 H
    refine LAt.runU tOk 4 (by kernel_rfl) ?_
    refine LAt.to ⟨19, 0, [(11, .val false [.lit (.bool (decide (x1 < 8)))]), (10, .val false [.lit (.bool (decide (x1 < 8)))]), (9, .val false [.lit (.bool (decide (x1 < 8)))]), (8, .val false [.lit (.int .i64 x1)]), (7, .val false [.lit (.bool true)]), (6, .val false [.lit (.bool true)]), (5, .val false [.lit (.int .i64 x1)]), (4, .val false [.lit (.bool false)]), (0, .val false [.lit (.int .i64 x0)]), (1, .val false [.lit (.int .i64 x1)])], []⟩ (by kernel_rfl) ?_
    cases h2 : (decide (x1 < 8))
    · have H := bifF h2 H
      refine LAt.runU tOk 8 (by kernel_rfl) ?_
      refine LAt.doneU [4] [] (by kernel_rfl) ?_
      refine Tr.ret ?_
      have H := Option.some.inj H
      subst H
      exact Fin.of _ [(false, [.lit (.bool false)])] (by kernel_rfl) rfl rfl
    · have H := bifT h2 H
      refine LAt.runU tOk 3 (by kernel_rfl) ?_
      obtain ⟨hg1, H⟩ := guard_some H
      refine LAt.binC tOk (op := .shr) (t := 3) (ty := 86) (ty' := 3) (x := (.tmp 12)) (y := (.tmp 14)) (d := 15) (g := (some (6, true))) (.int .i64 x0) (.int .u64 (IntKind.wrap .u64 x1)) (.int .i64 (Int.fdiv x0 (2 ^ min (((IntKind.wrap .u64 x1) : Int)).toNat (IntKind.bits .i64)))) _ (by kernel_rfl) (by kernel_rfl) (by kernel_rfl) (by kernel_rfl) (by kernel_rfl) (φ := (0 : Int) ≤ (IntKind.wrap .u64 x1)) (by kernel_rfl) (of_decide_eq_true hg1) rfl ?_
      refine LAt.runU tOk 4 (by kernel_rfl) ?_
      refine LAt.doneU [4] [] (by kernel_rfl) ?_
      refine Tr.ret ?_
      have H := Option.some.inj H
      subst H
      exact Fin.of _ [(false, [.lit (.bool ((IntKind.wrap .i64 (BitVec.ofInt (IntKind.bits .i64) (Int.fdiv x0 (2 ^ min (((IntKind.wrap .u64 x1) : Int)).toNat (IntKind.bits .i64))) &&& BitVec.ofInt (IntKind.bits .i64) 1).toNat) == 1))])] (by kernel_rfl) rfl rfl

def impl_ShownTagF (n : Nat) (x0 : Vtab) (x1 : Int) (x2 : Int) : Option (Int) :=
  ((impl_RowAtF n x0 x1).bind fun r1 => (bif (decide (r1 < 0)) then (some 0) else ((idx x0.Rows r1).bind fun v2 => ((impl_hasPortF n v2.Bare x2).bind fun r3 => (bif r3 then (some 0) else (some x1))))))
/-- loop.example/g00326/impl.ShownTag -/
theorem impl_ShownTag (n : Nat) (x0 : Vtab) (x1 : Int) (x2 : Int) (r : Int) (H : impl_ShownTagF n x0 x1 x2 = some r) : LCall Try.prog 49 [.val true (CV.frzRow (Vtab.row x0)), .val false [.lit (.int .i64 x1)], .val false [.lit (.int .i64 x2)]] [.val false [.lit (.int .i64 r)]] [] := by
  refine LCall.of_body tOk Try.func49 rfl (c := (.seq (.region 0 (rg Try.f49 0) false) (.seq (.region 1 (rg Try.f49 1) false) (.seq (.seq (.region 2 (rg Try.f49 2) false) (.cond (.tmp 22) (.seq (.region 3 (rg Try.f49 3) false) .ret) .skip)) (.seq (.region 4 (rg Try.f49 4) false) .ret))))) (by kernel_rfl) (Nat.le_of_ble_eq_true (by kernel_rfl)) 0 (rs := [.tmp 6]) rfl [] .nil [(false, [.lit (.int .i64 r)])] [] [] fun cx => ?_
  show Tr _ _ _ ⟨24, 0, [(0, .val true (CV.frzRow (Vtab.row x0))), (1, .val false [.lit (.int .i64 x1)]), (2, .val false [.lit (.int .i64 x2)])], []⟩ _
  unfold impl_ShownTagF at H
  refine Tr.rs ?_
  refine LAt.runU tOk 2 (by kernel_rfl) ?_
  refine LAt.doneU [6, 3, 1, 2] [3] (by kernel_rfl) ?_
  refine Tr.rs ?_
  refine LAt.runU tOk 2 (by kernel_rfl) ?_
  obtain ⟨r1, er1, H⟩ := bind_some H
  refine LAt.callU tOk [.rd, .rd] (f := 61) (av := #[.tmp 8, .tmp 9]) (ats := #[40, 3]) (d := (some 10)) (ty := 3) (g := none) (by kernel_rfl) (by kernel_rfl) (by kernel_rfl) [] (impl_RowAt n x0 x1 r1 er1) (by kernel_rfl) (.inl rfl) ?_
  refine LAt.runU tOk 1 (by kernel_rfl) ?_
  refine LAt.doneU [7, 6, 3, 1, 2] [3] (by kernel_rfl) ?_
  refine Tr.seq ?_
  refine Tr.rs ?_
  refine LAt.runU tOk 3 (by kernel_rfl) ?_
  refine LAt.to ⟨24, 0, [(13, .val false [.lit (.bool (decide (r1 < 0)))]), (12, .val false [.lit (.bool (decide (r1 < 0)))]), (11, .val false [.lit (.int .i64 r1)]), (7, .val false [.lit (.int .i64 r1)]), (6, .val false [.lit (.int .i64 0)]), (3, .adr (.box 3) [(0, 0)] 2 0), (1, .val false [.lit (.int .i64 x1)]), (2, .val false [.lit (.int .i64 x2)])], [(3, (CV.frzRow (Vtab.row x0)))]⟩ (by kernel_rfl) ?_
  cases h1 : (decide (r1 < 0))
  · have H := bifF h1 H
    refine LAt.runU tOk 3 (by kernel_rfl) ?_
    obtain ⟨v2, ev2, H⟩ := bind_some H
    refine LAt.indexF tOk (t := 38) (ty := 0) (x := (.tmp 15)) (y := (.tmp 16)) (d := 17) (g := (some (2, false))) ⟨(.slot 15), [], 0, false, 3, (CV.frzEs (x0.Rows.map Vrow.row))⟩ r1 (Vrow.row v2) _ (by kernel_rfl) (by kernel_rfl) (by kernel_rfl) (by kernel_rfl) rfl (idx_isF ev2) rfl ?_
    refine LAt.runU tOk 3 (by kernel_rfl) ?_
    obtain ⟨r3, er3, H⟩ := bind_some H
    refine LAt.callU tOk [.rd, .rd] (f := 70) (av := #[.tmp 19, .tmp 20]) (ats := #[3, 3]) (d := (some 21)) (ty := 4) (g := (some (2, false))) (by kernel_rfl) (by kernel_rfl) (by kernel_rfl) [] (impl_hasPort n v2.Bare x2 r3 er3) (by kernel_rfl) (.inl rfl) ?_
    refine LAt.runU tOk 1 (by kernel_rfl) ?_
    refine LAt.doneU [22, 6, 1] [] (by kernel_rfl) ?_
    refine Tr.to ⟨24, 0, [(22, .val false [.lit (.bool r3)]), (6, .val false [.lit (.int .i64 0)]), (1, .val false [.lit (.int .i64 x1)])], []⟩ (by kernel_rfl) ?_
    cases h2 : r3
    · have H := bifF h2 H
      refine Tr.cond (b := false) (by kernel_rfl) (fun h => nomatch h) (fun _ => ?_)
      refine Tr.skip ?_
      show Tr _ _ _ _ _
      refine Tr.rs ?_
      refine LAt.runU tOk 2 (by kernel_rfl) ?_
      refine LAt.doneU [6] [] (by kernel_rfl) ?_
      refine Tr.ret ?_
      have H := Option.some.inj H
      subst H
      exact Fin.of _ [(false, [.lit (.int .i64 x1)])] (by kernel_rfl) rfl rfl
    · have H := bifT h2 H
      refine Tr.cond (b := true) (by kernel_rfl) (fun _ => ?_) (fun h => nomatch h)
      refine Tr.rs ?_
      refine LAt.runU tOk 1 (by kernel_rfl) ?_
      refine LAt.doneU [6, 1] [] (by kernel_rfl) ?_
      refine Tr.ret ?_
      have H := Option.some.inj H
      subst H
      exact Fin.of _ [(false, [.lit (.int .i64 0)])] (by kernel_rfl) rfl rfl
  · have H := bifT h1 H
    refine LAt.runU tOk 9 (by kernel_rfl) ?_
    refine LAt.doneU [22, 6, 1] [] (by kernel_rfl) ?_
    refine Tr.cond (b := true) (by kernel_rfl) (fun _ => ?_) (fun h => nomatch h)
    refine Tr.rs ?_
    refine LAt.runU tOk 1 (by kernel_rfl) ?_
    refine LAt.doneU [6, 1] [] (by kernel_rfl) ?_
    refine Tr.ret ?_
    have H := Option.some.inj H
    subst H
    exact Fin.of _ [(false, [.lit (.int .i64 0)])] (by kernel_rfl) rfl rfl

def spec_ShownTagF (n : Nat) (x0 : Vtab) (x1 : Int) (x2 : Int) : Option (Int) :=
  ((spec_RowAtF n x0 x1).bind fun r1 => (bif (decide (r1 < 0)) then (some 0) else ((idx x0.Rows r1).bind fun v2 => ((spec_l9BitF n v2.Bare x2).bind fun r3 => (bif r3 then (some 0) else (some x1))))))
/-- loop.example/g00326/spec.ShownTag -/
theorem spec_ShownTag (n : Nat) (x0 : Vtab) (x1 : Int) (x2 : Int) (r : Int) (H : spec_ShownTagF n x0 x1 x2 = some r) : LCall Try.prog 50 [.val true (CV.frzRow (Vtab.row x0)), .val false [.lit (.int .i64 x1)], .val false [.lit (.int .i64 x2)]] [.val false [.lit (.int .i64 r)]] [] := by
  refine LCall.of_body tOk Try.func50 rfl (c := (.seq (.region 0 (rg Try.f50 0) false) (.seq (.region 1 (rg Try.f50 1) false) (.seq (.seq (.region 2 (rg Try.f50 2) false) (.cond (.tmp 22) (.seq (.region 3 (rg Try.f50 3) false) .ret) .skip)) (.seq (.region 4 (rg Try.f50 4) false) .ret))))) (by kernel_rfl) (Nat.le_of_ble_eq_true (by kernel_rfl)) 0 (rs := [.tmp 6]) rfl [] .nil [(false, [.lit (.int .i64 r)])] [] [] fun cx => ?_
  show Tr _ _ _ ⟨24, 0, [(0, .val true (CV.frzRow (Vtab.row x0))), (1, .val false [.lit (.int .i64 x1)]), (2, .val false [.lit (.int .i64 x2)])], []⟩ _
  unfold spec_ShownTagF at H
  refine Tr.rs ?_
  refine LAt.runU tOk 2 (by kernel_rfl) ?_
  refine LAt.doneU [6, 3, 1, 2] [3] (by kernel_rfl) ?_
  refine Tr.rs ?_
  refine LAt.runU tOk 2 (by kernel_rfl) ?_
  obtain ⟨r1, er1, H⟩ := bind_some H
  refine LAt.callU tOk [.rd, .rd] (f := 58) (av := #[.tmp 8, .tmp 9]) (ats := #[40, 3]) (d := (some 10)) (ty := 3) (g := none) (by kernel_rfl) (by kernel_rfl) (by kernel_rfl) [] (spec_RowAt n x0 x1 r1 er1) (by kernel_rfl) (.inl rfl) ?_
  refine LAt.runU tOk 1 (by kernel_rfl) ?_
  refine LAt.doneU [7, 6, 3, 1, 2] [3] (by kernel_rfl) ?_
  refine Tr.seq ?_
  refine Tr.rs ?_
  refine LAt.runU tOk 3 (by kernel_rfl) ?_
  refine LAt.to ⟨24, 0, [(13, .val false [.lit (.bool (decide (r1 < 0)))]), (12, .val false [.lit (.bool (decide (r1 < 0)))]), (11, .val false [.lit (.int .i64 r1)]), (7, .val false [.lit (.int .i64 r1)]), (6, .val false [.lit (.int .i64 0)]), (3, .adr (.box 3) [(0, 0)] 2 0), (1, .val false [.lit (.int .i64 x1)]), (2, .val false [.lit (.int .i64 x2)])], [(3, (CV.frzRow (Vtab.row x0)))]⟩ (by kernel_rfl) ?_
  cases h1 : (decide (r1 < 0))
  · have H := bifF h1 H
    refine LAt.runU tOk 3 (by kernel_rfl) ?_
    obtain ⟨v2, ev2, H⟩ := bind_some H
    refine LAt.indexF tOk (t := 38) (ty := 0) (x := (.tmp 15)) (y := (.tmp 16)) (d := 17) (g := (some (2, false))) ⟨(.slot 15), [], 0, false, 3, (CV.frzEs (x0.Rows.map Vrow.row))⟩ r1 (Vrow.row v2) _ (by kernel_rfl) (by kernel_rfl) (by kernel_rfl) (by kernel_rfl) rfl (idx_isF ev2) rfl ?_
    refine LAt.runU tOk 3 (by kernel_rfl) ?_
    obtain ⟨r3, er3, H⟩ := bind_some H
    refine LAt.callU tOk [.rd, .rd] (f := 69) (av := #[.tmp 19, .tmp 20]) (ats := #[3, 3]) (d := (some 21)) (ty := 4) (g := (some (2, false))) (by kernel_rfl) (by kernel_rfl) (by kernel_rfl) [] (spec_l9Bit n v2.Bare x2 r3 er3) (by kernel_rfl) (.inl rfl) ?_
    refine LAt.runU tOk 1 (by kernel_rfl) ?_
    refine LAt.doneU [22, 6, 1] [] (by kernel_rfl) ?_
    refine Tr.to ⟨24, 0, [(22, .val false [.lit (.bool r3)]), (6, .val false [.lit (.int .i64 0)]), (1, .val false [.lit (.int .i64 x1)])], []⟩ (by kernel_rfl) ?_
    cases h2 : r3
    · have H := bifF h2 H
      refine Tr.cond (b := false) (by kernel_rfl) (fun h => nomatch h) (fun _ => ?_)
      refine Tr.skip ?_
      show Tr _ _ _ _ _
      refine Tr.rs ?_
      refine LAt.runU tOk 2 (by kernel_rfl) ?_
      refine LAt.doneU [6] [] (by kernel_rfl) ?_
      refine Tr.ret ?_
      have H := Option.some.inj H
      subst H
      exact Fin.of _ [(false, [.lit (.int .i64 x1)])] (by kernel_rfl) rfl rfl
    · have H := bifT h2 H
      refine Tr.cond (b := true) (by kernel_rfl) (fun _ => ?_) (fun h => nomatch h)
      refine Tr.rs ?_
      refine LAt.runU tOk 1 (by kernel_rfl) ?_
      refine LAt.doneU [6, 1] [] (by kernel_rfl) ?_
      refine Tr.ret ?_
      have H := Option.some.inj H
      subst H
      exact Fin.of _ [(false, [.lit (.int .i64 0)])] (by kernel_rfl) rfl rfl
  · have H := bifT h1 H
    refine LAt.runU tOk 9 (by kernel_rfl) ?_
    refine LAt.doneU [22, 6, 1] [] (by kernel_rfl) ?_
    refine Tr.cond (b := true) (by kernel_rfl) (fun _ => ?_) (fun h => nomatch h)
    refine Tr.rs ?_
    refine LAt.runU tOk 1 (by kernel_rfl) ?_
    refine LAt.doneU [6, 1] [] (by kernel_rfl) ?_
    refine Tr.ret ?_
    have H := Option.some.inj H
    subst H
    exact Fin.of _ [(false, [.lit (.int .i64 0)])] (by kernel_rfl) rfl rfl

def spec_EgressOfF (n : Nat) (x0 : Vtab) (x1 : Int) : Option (Int) :=
  ((spec_RowAtF n x0 x1).bind fun r1 => (bif (decide (r1 < 0)) then (some 0) else ((idx x0.Rows r1).bind fun v2 => (some v2.Members))))
/-- loop.example/g00326/spec.EgressOf -/
theorem spec_EgressOf (n : Nat) (x0 : Vtab) (x1 : Int) (r : Int) (H : spec_EgressOfF n x0 x1 = some r) : LCall Try.prog 18 [.val true (CV.frzRow (Vtab.row x0)), .val false [.lit (.int .i64 x1)]] [.val false [.lit (.int .i64 r)]] [] := by
  refine LCall.of_body tOk Try.func18 rfl (c := (.seq (.region 0 (rg Try.f18 0) false) (.seq (.region 1 (rg Try.f18 1) false) (.seq (.seq (.region 2 (rg Try.f18 2) false) (.cond (.tmp 10) (.seq (.region 3 (rg Try.f18 3) false) .ret) .skip)) (.seq (.region 4 (rg Try.f18 4) false) .ret))))) (by kernel_rfl) (Nat.le_of_ble_eq_true (by kernel_rfl)) 0 (rs := [.tmp 4]) rfl [] .nil [(false, [.lit (.int .i64 r)])] [] [] fun cx => ?_
  show Tr _ _ _ ⟨17, 0, [(0, .val true (CV.frzRow (Vtab.row x0))), (1, .val false [.lit (.int .i64 x1)])], []⟩ _
  unfold spec_EgressOfF at H
  refine Tr.rs ?_
  refine LAt.runU tOk 2 (by kernel_rfl) ?_
  refine LAt.doneU [4, 2, 1] [2] (by kernel_rfl) ?_
  refine Tr.rs ?_
  refine LAt.runU tOk 2 (by kernel_rfl) ?_
  obtain ⟨r1, er1, H⟩ := bind_some H
  refine LAt.callU tOk [.rd, .rd] (f := 58) (av := #[.tmp 6, .tmp 7]) (ats := #[40, 3]) (d := (some 8)) (ty := 3) (g := none) (by kernel_rfl) (by kernel_rfl) (by kernel_rfl) [] (spec_RowAt n x0 x1 r1 er1) (by kernel_rfl) (.inl rfl) ?_
  refine LAt.runU tOk 1 (by kernel_rfl) ?_
  refine LAt.doneU [5, 4, 2] [2] (by kernel_rfl) ?_
  refine Tr.seq ?_
  refine Tr.rs ?_
  refine LAt.runU tOk 2 (by kernel_rfl) ?_
  refine LAt.doneU [10, 5, 4, 2] [2] (by kernel_rfl) ?_
  refine Tr.to ⟨17, 0, [(10, .val false [.lit (.bool (decide (r1 < 0)))]), (5, .val false [.lit (.int .i64 r1)]), (4, .val false [.lit (.int .i64 0)]), (2, .adr (.box 2) [(0, 0)] 2 0)], [(2, (CV.frzRow (Vtab.row x0)))]⟩ (by kernel_rfl) ?_
  cases h1 : (decide (r1 < 0))
  · have H := bifF h1 H
    refine Tr.cond (b := false) (by kernel_rfl) (fun h => nomatch h) (fun _ => ?_)
    refine Tr.skip ?_
    show Tr _ _ _ _ _
    refine Tr.rs ?_
    refine LAt.runU tOk 3 (by kernel_rfl) ?_
    obtain ⟨v2, ev2, H⟩ := bind_some H
    refine LAt.indexF tOk (t := 38) (ty := 0) (x := (.tmp 12)) (y := (.tmp 13)) (d := 14) (g := none) ⟨(.slot 12), [], 0, false, 3, (CV.frzEs (x0.Rows.map Vrow.row))⟩ r1 (Vrow.row v2) _ (by kernel_rfl) (by kernel_rfl) (by kernel_rfl) (by kernel_rfl) rfl (idx_isF ev2) rfl ?_
    refine LAt.runU tOk 3 (by kernel_rfl) ?_
    refine LAt.doneU [4] [] (by kernel_rfl) ?_
    refine Tr.ret ?_
    have H := Option.some.inj H
    subst H
    exact Fin.of _ [(false, [.lit (.int .i64 v2.Members)])] (by kernel_rfl) rfl rfl
  · have H := bifT h1 H
    refine Tr.cond (b := true) (by kernel_rfl) (fun _ => ?_) (fun h => nomatch h)
    refine Tr.rs ?_
    refine LAt.runU tOk 1 (by kernel_rfl) ?_
    refine LAt.doneU [4, 5, 2] [2] (by kernel_rfl) ?_
    refine Tr.ret ?_
    have H := Option.some.inj H
    subst H
    exact Fin.of _ [(false, [.lit (.int .i64 0)])] (by kernel_rfl) rfl rfl

def laws_FnClasses_J1 (n : Nat) (r5 : Vtab × Int × Int) (r6 : Vtab × Int) : Option (Bool) :=
  ((impl_ShownTagF n r5.1 r5.2.1 r5.2.2).bind fun r7 => ((spec_ShownTagF n r5.1 r5.2.1 r5.2.2).bind fun r8 => (bif (r7 == r8) then (bif (r7 == 0) then ((impl_EgressOfF n r6.1 r6.2).bind fun r11 => ((spec_EgressOfF n r6.1 r6.2).bind fun r12 => (some (r11 == r12)))) else (bif (r7 == r5.2.1) then ((impl_EgressOfF n r6.1 r6.2).bind fun r9 => ((spec_EgressOfF n r6.1 r6.2).bind fun r10 => (some (r9 == r10)))) else (some false))) else (some false))))
def laws_FnClassesF (n : Nat) (x0 : (List Int)) : Option (Bool) :=
  ((laws_bigF n x0).bind fun r1 => (bif r1 then (some true) else ((spec_DrawClassOfF n x0).bind fun r2 => ((impl_ClassOfF n r2.1 r2.2.1 r2.2.2).bind fun r3 => ((spec_ClassOfF n r2.1 r2.2.1 r2.2.2).bind fun r4 => ((spec_DrawShownTagF n x0).bind fun r5 => ((spec_DrawEgressOfF n x0).bind fun r6 => (bif (!(r3.2 == r4.2)) then (some false) else (bif (r3.1 != r4.1) then (some false) else (bif r3.2 then ((impl_EgressOfF n r2.1 r3.1).bind fun r13 => ((laws_bitF n r13 r2.2.1).bind fun r14 => (bif (!r14) then (some false) else (laws_FnClasses_J1 n r5 r6)))) else (laws_FnClasses_J1 n r5 r6)))))))))))
/-- loop.example/g00326/laws.FnClasses -/
theorem laws_FnClasses (n : Nat) (x0 : (List Int)) (r : Bool) (H : laws_FnClassesF n x0 = some r) : LCall Try.prog 13 [.val false [.sl false 1 (CV.frzEs (x0.map byteRow))]] [.val false [.lit (.bool r)]] [] := by
  refine LCall.of_body tOk Try.func13 rfl (c := (.seq (.region 0 (rg Try.f13 0) false) (.seq (.seq (.region 1 (rg Try.f13 1) false) (.cond (.tmp 17) (.seq (.region 2 (rg Try.f13 2) false) .ret) .skip)) (.seq (.region 3 (rg Try.f13 3) false) (.seq (.region 4 (rg Try.f13 4) false) (.seq (.region 5 (rg Try.f13 5) false) (.seq (.region 6 (rg Try.f13 6) false) (.seq (.region 7 (rg Try.f13 7) false) (.seq (.seq (.region 8 (rg Try.f13 8) false) (.cond (.tmp 67) (.seq (.region 9 (rg Try.f13 9) false) .ret) .skip)) (.seq (.region 10 (rg Try.f13 10) false) (.seq (.region 11 (rg Try.f13 11) true) .ret))))))))))) (by kernel_rfl) (Nat.le_of_ble_eq_true (by kernel_rfl)) 0 (rs := [.tmp 2]) rfl [] .nil [(false, [.lit (.bool r)])] [] [] fun cx => ?_
  show Tr _ _ _ ⟨96, 0, [(0, .val false [.sl false 1 (CV.frzEs (x0.map byteRow))])], []⟩ _
  unfold laws_FnClassesF at H
  refine Tr.rs ?_
  refine LAt.runU tOk 1 (by kernel_rfl) ?_
  refine LAt.doneU [2, 0] [] (by kernel_rfl) ?_
  refine Tr.seq ?_
  refine Tr.rs ?_
  refine LAt.runU tOk 1 (by kernel_rfl) ?_
  obtain ⟨r1, er1, H⟩ := bind_some H
  refine LAt.callU tOk [.rd] (f := 38) (av := #[.tmp 16]) (ats := #[61]) (d := (some 17)) (ty := 4) (g := none) (by kernel_rfl) (by kernel_rfl) (by kernel_rfl) [] (laws_big n x0 r1 er1) (by kernel_rfl) (.inl rfl) ?_
  refine LAt.doneU [17, 2, 0] [] (by kernel_rfl) ?_
  refine Tr.to ⟨96, 0, [(17, .val false [.lit (.bool r1)]), (2, .val false [.lit (.bool false)]), (0, .val false [.sl false 1 (CV.frzEs (x0.map byteRow))])], []⟩ (by kernel_rfl) ?_
  cases h1 : r1
  · have H := bifF h1 H
    refine Tr.cond (b := false) (by kernel_rfl) (fun h => nomatch h) (fun _ => ?_)
    refine Tr.skip ?_
    show Tr _ _ _ _ _
    refine Tr.rs ?_
    refine LAt.runU tOk 1 (by kernel_rfl) ?_
    obtain ⟨r2, er2, H⟩ := bind_some H
    refine LAt.callU tOk [.rd] (f := 46) (av := #[.tmp 19]) (ats := #[61]) (d := (some 20)) (ty := 70) (g := none) (by kernel_rfl) (by kernel_rfl) (by kernel_rfl) [] (spec_DrawClassOf n x0 r2 er2) (by kernel_rfl) (.inl rfl) ?_
    refine LAt.movT tOk (ty := 70) (t := 20) (d := 18) (g := none) [(true, (Vtab.row r2.1)), (false, [.lit (.int .i64 r2.2.1)]), (false, [.lit (.int .i64 r2.2.2)])] _ (by kernel_rfl) (.inl rfl) (by kernel_rfl) (by kernel_rfl) (by kernel_rfl) (by kernel_rfl) rfl ?_
    refine LAt.runU tOk 7 (by kernel_rfl) ?_
    refine LAt.doneU [5, 4, 3, 2, 0] [3] (by kernel_rfl) ?_
    refine Tr.rs ?_
    refine LAt.runU tOk 3 (by kernel_rfl) ?_
    obtain ⟨r3, er3, H⟩ := bind_some H
    refine LAt.callU tOk [.rd, .rd, .rd] (f := 27) (av := #[.tmp 25, .tmp 26, .tmp 27]) (ats := #[40, 3, 3]) (d := (some 28)) (ty := 46) (g := none) (by kernel_rfl) (by kernel_rfl) (by kernel_rfl) [.box 3] (impl_ClassOf n r2.1 r2.2.1 r2.2.2 r3 er3) (by kernel_rfl) (.inr (rets_cons (mine_cons mine_lit mine_nil) (rets_cons (mine_cons mine_lit mine_nil) rets_nil))) ?_
    refine LAt.movT tOk (ty := 46) (t := 28) (d := 24) (g := none) [(false, [.lit (.int .i64 r3.1)]), (false, [.lit (.bool r3.2)])] _ (by kernel_rfl) (.inl rfl) (by kernel_rfl) (by kernel_rfl) (by kernel_rfl) (by kernel_rfl) rfl ?_
    refine LAt.runU tOk 4 (by kernel_rfl) ?_
    refine LAt.doneU [7, 6, 5, 4, 3, 2, 0] [3] (by kernel_rfl) ?_
    refine Tr.rs ?_
    refine LAt.runU tOk 3 (by kernel_rfl) ?_
    obtain ⟨r4, er4, H⟩ := bind_some H
    refine LAt.callU tOk [.rd, .rd, .rd] (f := 26) (av := #[.tmp 32, .tmp 33, .tmp 34]) (ats := #[40, 3, 3]) (d := (some 35)) (ty := 46) (g := none) (by kernel_rfl) (by kernel_rfl) (by kernel_rfl) [.box 3] (spec_ClassOf n r2.1 r2.2.1 r2.2.2 r4 er4) (by kernel_rfl) (.inr (rets_cons (mine_cons mine_lit mine_nil) (rets_cons (mine_cons mine_lit mine_nil) rets_nil))) ?_
    refine LAt.movT tOk (ty := 46) (t := 35) (d := 31) (g := none) [(false, [.lit (.int .i64 r4.1)]), (false, [.lit (.bool r4.2)])] _ (by kernel_rfl) (.inl rfl) (by kernel_rfl) (by kernel_rfl) (by kernel_rfl) (by kernel_rfl) rfl ?_
    refine LAt.runU tOk 4 (by kernel_rfl) ?_
    refine LAt.doneU [9, 8, 7, 6, 4, 3, 2, 0] [3] (by kernel_rfl) ?_
    refine Tr.rs ?_
    refine LAt.runU tOk 1 (by kernel_rfl) ?_
    obtain ⟨r5, er5, H⟩ := bind_some H
    refine LAt.callU tOk [.rd] (f := 47) (av := #[.tmp 39]) (ats := #[61]) (d := (some 40)) (ty := 70) (g := none) (by kernel_rfl) (by kernel_rfl) (by kernel_rfl) [] (spec_DrawShownTag n x0 r5 er5) (by kernel_rfl) (.inl rfl) ?_
    refine LAt.movT tOk (ty := 70) (t := 40) (d := 38) (g := none) [(true, (Vtab.row r5.1)), (false, [.lit (.int .i64 r5.2.1)]), (false, [.lit (.int .i64 r5.2.2)])] _ (by kernel_rfl) (.inl rfl) (by kernel_rfl) (by kernel_rfl) (by kernel_rfl) (by kernel_rfl) rfl ?_
    refine LAt.runU tOk 7 (by kernel_rfl) ?_
    refine LAt.doneU [12, 11, 10, 9, 8, 7, 6, 4, 3, 2, 0] [10, 3] (by kernel_rfl) ?_
    refine Tr.rs ?_
    refine LAt.runU tOk 1 (by kernel_rfl) ?_
    obtain ⟨r6, er6, H⟩ := bind_some H
    refine LAt.callU tOk [.rd] (f := 48) (av := #[.tmp 45]) (ats := #[61]) (d := (some 46)) (ty := 72) (g := none) (by kernel_rfl) (by kernel_rfl) (by kernel_rfl) [] (spec_DrawEgressOf n x0 r6 er6) (by kernel_rfl) (.inl rfl) ?_
    refine LAt.movT tOk (ty := 72) (t := 46) (d := 44) (g := none) [(true, (Vtab.row r6.1)), (false, [.lit (.int .i64 r6.2)])] _ (by kernel_rfl) (.inl rfl) (by kernel_rfl) (by kernel_rfl) (by kernel_rfl) (by kernel_rfl) rfl ?_
    refine LAt.runU tOk 5 (by kernel_rfl) ?_
    refine LAt.doneU [14, 13, 12, 11, 10, 9, 8, 7, 6, 4, 3, 2] [13, 10, 3] (by kernel_rfl) ?_
    refine Tr.seq ?_
    refine Tr.mid (ι := Unit) (fun v => ⟨96, 0, [(14, .val false [.lit (.int .i64 r6.2)]), (13, .adr (.box 13) [(0, 0)] 2 0), (12, .val false [.lit (.int .i64 r5.2.2)]), (11, .val false [.lit (.int .i64 r5.2.1)]), (10, .adr (.box 10) [(0, 0)] 2 0), (2, .val false [.lit (.bool false)])], [(13, (Vtab.row r6.1)), (10, (Vtab.row r5.1))]⟩) (fun v => laws_FnClasses_J1 n r5 r6 = some r) ?_ ?_
    · refine Tr.rs ?_
      refine LAt.runU tOk 4 (by kernel_rfl) ?_
      refine LAt.to ⟨96, 0, [(52, .val false [.lit (.bool (!(r3.2 == r4.2)))]), (51, .val false [.lit (.bool (!(r3.2 == r4.2)))]), (50, .val false [.lit (.bool r4.2)]), (49, .val false [.lit (.bool r3.2)]), (14, .val false [.lit (.int .i64 r6.2)]), (13, .adr (.box 13) [(0, 0)] 2 0), (12, .val false [.lit (.int .i64 r5.2.2)]), (11, .val false [.lit (.int .i64 r5.2.1)]), (10, .adr (.box 10) [(0, 0)] 2 0), (9, .val false [.lit (.bool r4.2)]), (8, .val false [.lit (.int .i64 r4.1)]), (7, .val false [.lit (.bool r3.2)]), (6, .val false [.lit (.int .i64 r3.1)]), (4, .val false [.lit (.int .i64 r2.2.1)]), (3, .adr (.box 3) [(0, 0)] 2 0), (2, .val false [.lit (.bool false)])], [(13, (Vtab.row r6.1)), (10, (Vtab.row r5.1)), (3, (Vtab.row r2.1))]⟩ (by kernel_rfl) ?_
      cases h5 : (!(r3.2 == r4.2))
      · have H := bifF h5 H
        refine LAt.runU tOk 5 (by kernel_rfl) ?_
        refine LAt.to ⟨96, 0, [(57, .val false [.lit (.bool (r3.1 != r4.1))]), (56, .val false [.lit (.bool (r3.1 != r4.1))]), (55, .val false [.lit (.bool (r3.1 != r4.1))]), (54, .val false [.lit (.int .i64 r4.1)]), (53, .val false [.lit (.int .i64 r3.1)]), (52, .val false [.lit (.bool false)]), (51, .val false [.lit (.bool false)]), (50, .val false [.lit (.bool r4.2)]), (49, .val false [.lit (.bool r3.2)]), (14, .val false [.lit (.int .i64 r6.2)]), (13, .adr (.box 13) [(0, 0)] 2 0), (12, .val false [.lit (.int .i64 r5.2.2)]), (11, .val false [.lit (.int .i64 r5.2.1)]), (10, .adr (.box 10) [(0, 0)] 2 0), (9, .val false [.lit (.bool r4.2)]), (8, .val false [.lit (.int .i64 r4.1)]), (7, .val false [.lit (.bool r3.2)]), (6, .val false [.lit (.int .i64 r3.1)]), (4, .val false [.lit (.int .i64 r2.2.1)]), (3, .adr (.box 3) [(0, 0)] 2 0), (2, .val false [.lit (.bool false)])], [(13, (Vtab.row r6.1)), (10, (Vtab.row r5.1)), (3, (Vtab.row r2.1))]⟩ (by kernel_rfl) ?_
        cases h6 : (r3.1 != r4.1)
        · have H := bifF h6 H
          refine LAt.runU tOk 2 (by kernel_rfl) ?_
          refine LAt.to ⟨96, 0, [(59, .val false [.lit (.bool r3.2)]), (58, .val false [.lit (.bool r3.2)]), (57, .val false [.lit (.bool false)]), (56, .val false [.lit (.bool false)]), (55, .val false [.lit (.bool false)]), (54, .val false [.lit (.int .i64 r4.1)]), (53, .val false [.lit (.int .i64 r3.1)]), (52, .val false [.lit (.bool false)]), (51, .val false [.lit (.bool false)]), (50, .val false [.lit (.bool r4.2)]), (49, .val false [.lit (.bool r3.2)]), (14, .val false [.lit (.int .i64 r6.2)]), (13, .adr (.box 13) [(0, 0)] 2 0), (12, .val false [.lit (.int .i64 r5.2.2)]), (11, .val false [.lit (.int .i64 r5.2.1)]), (10, .adr (.box 10) [(0, 0)] 2 0), (9, .val false [.lit (.bool r4.2)]), (8, .val false [.lit (.int .i64 r4.1)]), (7, .val false [.lit (.bool r3.2)]), (6, .val false [.lit (.int .i64 r3.1)]), (4, .val false [.lit (.int .i64 r2.2.1)]), (3, .adr (.box 3) [(0, 0)] 2 0), (2, .val false [.lit (.bool false)])], [(13, (Vtab.row r6.1)), (10, (Vtab.row r5.1)), (3, (Vtab.row r2.1))]⟩ (by kernel_rfl) ?_
          cases h7 : r3.2
          · have H := bifF h7 H
            refine LAt.runU tOk 8 (by kernel_rfl) ?_
            refine LAt.doneU [67, 14, 13, 12, 11, 10, 2] [13, 10] (by kernel_rfl) ?_
            refine Tr.cond (b := false) (by kernel_rfl) (fun h => nomatch h) (fun _ => ?_)
            refine Tr.skip ?_
            exact Exists.intro () (And.intro H (St.sub_of [14, 13, 12, 11, 10, 2] [13, 10] (by kernel_rfl)))
          · have H := bifT h7 H
            refine LAt.runU tOk 2 (by kernel_rfl) ?_
            obtain ⟨r13, er13, H⟩ := bind_some H
            refine LAt.callU tOk [.rd, .rd] (f := 20) (av := #[.tmp 60, .tmp 61]) (ats := #[40, 3]) (d := (some 62)) (ty := 3) (g := (some (10, true))) (by kernel_rfl) (by kernel_rfl) (by kernel_rfl) [.box 3] (impl_EgressOf n r2.1 r3.1 r13 er13) (by kernel_rfl) (.inr (rets_cons (mine_cons mine_lit mine_nil) rets_nil)) ?_
            refine LAt.runU tOk 1 (by kernel_rfl) ?_
            obtain ⟨r14, er14, H⟩ := bind_some H
            refine LAt.callU tOk [.rd, .rd] (f := 42) (av := #[.tmp 62, .tmp 63]) (ats := #[3, 3]) (d := (some 64)) (ty := 4) (g := (some (10, true))) (by kernel_rfl) (by kernel_rfl) (by kernel_rfl) [] (laws_bit n r13 r2.2.1 r14 er14) (by kernel_rfl) (.inl rfl) ?_
            refine LAt.runU tOk 3 (by kernel_rfl) ?_
            refine LAt.doneU [67, 14, 13, 12, 11, 10, 2] [13, 10] (by kernel_rfl) ?_
            refine Tr.to ⟨96, 0, [(67, .val false [.lit (.bool (!r14))]), (14, .val false [.lit (.int .i64 r6.2)]), (13, .adr (.box 13) [(0, 0)] 2 0), (12, .val false [.lit (.int .i64 r5.2.2)]), (11, .val false [.lit (.int .i64 r5.2.1)]), (10, .adr (.box 10) [(0, 0)] 2 0), (2, .val false [.lit (.bool false)])], [(13, (Vtab.row r6.1)), (10, (Vtab.row r5.1))]⟩ (by kernel_rfl) ?_
            cases h8 : (!r14)
            · have H := bifF h8 H
              refine Tr.cond (b := false) (by kernel_rfl) (fun h => nomatch h) (fun _ => ?_)
              refine Tr.skip ?_
              exact Exists.intro () (And.intro H (St.sub_of [14, 13, 12, 11, 10, 2] [13, 10] (by kernel_rfl)))
            · have H := bifT h8 H
              refine Tr.cond (b := true) (by kernel_rfl) (fun _ => ?_) (fun h => nomatch h)
              refine Tr.rs ?_
              refine LAt.runU tOk 1 (by kernel_rfl) ?_
              refine LAt.doneU [2, 14, 13, 12, 11, 10] [13, 10] (by kernel_rfl) ?_
              refine Tr.ret ?_
              have H := Option.some.inj H
              subst H
              exact Fin.of _ [(false, [.lit (.bool false)])] (by kernel_rfl) rfl rfl
        · have H := bifT h6 H
          refine LAt.runU tOk 10 (by kernel_rfl) ?_
          refine LAt.doneU [67, 14, 13, 12, 11, 10, 2] [13, 10] (by kernel_rfl) ?_
          refine Tr.cond (b := true) (by kernel_rfl) (fun _ => ?_) (fun h => nomatch h)
          refine Tr.rs ?_
          refine LAt.runU tOk 1 (by kernel_rfl) ?_
          refine LAt.doneU [2, 14, 13, 12, 11, 10] [13, 10] (by kernel_rfl) ?_
          refine Tr.ret ?_
          have H := Option.some.inj H
          subst H
          exact Fin.of _ [(false, [.lit (.bool false)])] (by kernel_rfl) rfl rfl
      · have H := bifT h5 H
        refine LAt.runU tOk 15 (by kernel_rfl) ?_
        refine LAt.doneU [67, 14, 13, 12, 11, 10, 2] [13, 10] (by kernel_rfl) ?_
        refine Tr.cond (b := true) (by kernel_rfl) (fun _ => ?_) (fun h => nomatch h)
        refine Tr.rs ?_
        refine LAt.runU tOk 1 (by kernel_rfl) ?_
        refine LAt.doneU [2, 14, 13, 12, 11, 10] [13, 10] (by kernel_rfl) ?_
        refine Tr.ret ?_
        have H := Option.some.inj H
        subst H
        exact Fin.of _ [(false, [.lit (.bool false)])] (by kernel_rfl) rfl rfl
    · rintro _ H
      have H : (laws_FnClasses_J1 n r5 r6) = some r := H
      unfold laws_FnClasses_J1 at H
      show Tr _ _ _ _ _
      refine Tr.rs ?_
      refine LAt.runU tOk 3 (by kernel_rfl) ?_
      obtain ⟨r7, er7, H⟩ := bind_some H
      refine LAt.callU tOk [.rd, .rd, .rd] (f := 49) (av := #[.tmp 68, .tmp 69, .tmp 70]) (ats := #[40, 3, 3]) (d := (some 71)) (ty := 3) (g := none) (by kernel_rfl) (by kernel_rfl) (by kernel_rfl) [.box 10] (impl_ShownTag n r5.1 r5.2.1 r5.2.2 r7 er7) (by kernel_rfl) (.inr (rets_cons (mine_cons mine_lit mine_nil) rets_nil)) ?_
      refine LAt.runU tOk 1 (by kernel_rfl) ?_
      refine LAt.doneU [15, 14, 13, 12, 11, 10, 2] [13, 10] (by kernel_rfl) ?_
      obtain ⟨r8, er8, H⟩ := bind_some H
      refine Tr.to ⟨96, 0, [(15, .val false [.lit (.int .i64 r7)]), (14, .val false [.lit (.int .i64 r6.2)]), (13, .adr (.box 13) [(0, 0)] 2 0), (12, .val false [.lit (.int .i64 r5.2.2)]), (11, .val false [.lit (.int .i64 r5.2.1)]), (10, .adr (.box 10) [(0, 0)] 2 0), (2, .val false [.lit (.bool false)])], [(13, (Vtab.row r6.1)), (10, (Vtab.row r5.1))]⟩ (by kernel_rfl) ?_
      cases h2 : (r7 == r8)
      · have H := bifF h2 H
        refine Tr.draws mixed 25 (by kernel_rfl) ⟨96, 0, [(2, .val false [.lit (.bool false)])], []⟩ (fun cx => ?_) ?_
        · refine AT.runU tOk [(0, []), (1, [4]), (2, []), (3, [])] 21 [⟨[4], 40, 10, 73⟩] [3, 2, 1, 0] rfl (by kernel_rfl) (fun cx => ?_)
          refine AT.big1 tOk 4 (by kernel_rfl) (by kernel_rfl) ?_
          refine LAt.callU tOk [.rd, .rd, .rd] (f := 50) (av := #[.tmp 73, .tmp 74, .tmp 75]) (ats := #[40, 3, 3]) (d := (some 76)) (ty := 3) (g := none) (by kernel_rfl) (by kernel_rfl) (by kernel_rfl) [.box 10] (spec_ShownTag n r5.1 r5.2.1 r5.2.2 r8 er8) (by kernel_rfl) (.inr (rets_cons (mine_cons mine_lit mine_nil) rets_nil)) ?_
          refine LAt.fin (by kernel_rfl) (And.intro (And.intro (by kernel_rfl) (by kernel_rfl)) ?_)
          refine AT.runU tOk [(5, []), (6, [])] 18 [⟨[4], 40, 10, 73⟩] [6, 5, 4, 3, 2, 1, 0] rfl (by kernel_rfl) (fun cx => ?_)
          refine AT.to ⟨96, 0, [(78, .val false [.lit (.bool (r7 == r8))]), (77, .val false [.lit (.bool (r7 == r8))]), (76, .val false [.lit (.int .i64 r8)]), (75, .val false [.lit (.int .i64 r5.2.2)]), (74, .val false [.lit (.int .i64 r5.2.1)]), (73, .ref (.box 10) [(0, 0)] 2 0 2 true), (72, .val false [.lit (.int .i64 r7)]), (15, .val false [.lit (.int .i64 r7)]), (14, .val false [.lit (.int .i64 r6.2)]), (13, .adr (.box 13) [(0, 0)] 2 0), (12, .val false [.lit (.int .i64 r5.2.2)]), (11, .val false [.lit (.int .i64 r5.2.1)]), (10, .adr (.box 10) [(0, 0)] 2 0), (2, .val false [.lit (.bool false)])], [(13, (Vtab.row r6.1)), (10, (Vtab.row r5.1))]⟩ (by kernel_rfl) ?_
          rw [h2]
          refine AT.runU tOk [(7, []), (8, []), (9, []), (10, []), (11, []), (12, []), (13, []), (14, []), (15, []), (16, []), (17, []), (18, []), (19, []), (20, []), (21, []), (22, []), (23, []), (24, [])] 0 [⟨[4], 40, 10, 73⟩] [24, 23, 22, 21, 20, 19, 18, 17, 16, 15, 14, 13, 12, 11, 10, 9, 8, 7, 6, 5, 4, 3, 2, 1, 0] rfl (by kernel_rfl) (fun cx => ?_)
          exact AT.done [2] [] _ (by kernel_rfl) (by kernel_rfl) rfl
        · refine Tr.ret ?_
          have H := Option.some.inj H
          subst H
          exact Fin.of _ [(false, [.lit (.bool false)])] (by kernel_rfl) rfl rfl
      · have H := bifT h2 H
        refine Tr.to ⟨96, 0, [(15, .val false [.lit (.int .i64 r7)]), (14, .val false [.lit (.int .i64 r6.2)]), (13, .adr (.box 13) [(0, 0)] 2 0), (12, .val false [.lit (.int .i64 r5.2.2)]), (11, .val false [.lit (.int .i64 r5.2.1)]), (10, .adr (.box 10) [(0, 0)] 2 0), (2, .val false [.lit (.bool false)])], [(13, (Vtab.row r6.1)), (10, (Vtab.row r5.1))]⟩ (by kernel_rfl) ?_
        cases h3 : (r7 == 0)
        · have H := bifF h3 H
          refine Tr.to ⟨96, 0, [(15, .val false [.lit (.int .i64 r7)]), (14, .val false [.lit (.int .i64 r6.2)]), (13, .adr (.box 13) [(0, 0)] 2 0), (12, .val false [.lit (.int .i64 r5.2.2)]), (11, .val false [.lit (.int .i64 r5.2.1)]), (10, .adr (.box 10) [(0, 0)] 2 0), (2, .val false [.lit (.bool false)])], [(13, (Vtab.row r6.1)), (10, (Vtab.row r5.1))]⟩ (by kernel_rfl) ?_
          cases h4 : (r7 == r5.2.1)
          · have H := bifF h4 H
            refine Tr.draws mixed 25 (by kernel_rfl) ⟨96, 0, [(2, .val false [.lit (.bool false)])], []⟩ (fun cx => ?_) ?_
            · refine AT.runU tOk [(0, []), (1, [4]), (2, []), (3, [])] 21 [⟨[4], 40, 10, 73⟩] [3, 2, 1, 0] rfl (by kernel_rfl) (fun cx => ?_)
              refine AT.big1 tOk 4 (by kernel_rfl) (by kernel_rfl) ?_
              refine LAt.callU tOk [.rd, .rd, .rd] (f := 50) (av := #[.tmp 73, .tmp 74, .tmp 75]) (ats := #[40, 3, 3]) (d := (some 76)) (ty := 3) (g := none) (by kernel_rfl) (by kernel_rfl) (by kernel_rfl) [.box 10] (spec_ShownTag n r5.1 r5.2.1 r5.2.2 r8 er8) (by kernel_rfl) (.inr (rets_cons (mine_cons mine_lit mine_nil) rets_nil)) ?_
              refine LAt.fin (by kernel_rfl) (And.intro (And.intro (by kernel_rfl) (by kernel_rfl)) ?_)
              refine AT.runU tOk [(5, []), (6, [])] 18 [⟨[4], 40, 10, 73⟩] [6, 5, 4, 3, 2, 1, 0] rfl (by kernel_rfl) (fun cx => ?_)
              refine AT.to ⟨96, 0, [(78, .val false [.lit (.bool (r7 == r8))]), (77, .val false [.lit (.bool (r7 == r8))]), (76, .val false [.lit (.int .i64 r8)]), (75, .val false [.lit (.int .i64 r5.2.2)]), (74, .val false [.lit (.int .i64 r5.2.1)]), (73, .ref (.box 10) [(0, 0)] 2 0 2 true), (72, .val false [.lit (.int .i64 r7)]), (15, .val false [.lit (.int .i64 r7)]), (14, .val false [.lit (.int .i64 r6.2)]), (13, .adr (.box 13) [(0, 0)] 2 0), (12, .val false [.lit (.int .i64 r5.2.2)]), (11, .val false [.lit (.int .i64 r5.2.1)]), (10, .adr (.box 10) [(0, 0)] 2 0), (2, .val false [.lit (.bool false)])], [(13, (Vtab.row r6.1)), (10, (Vtab.row r5.1))]⟩ (by kernel_rfl) ?_
              rw [h2]
              refine AT.runU tOk [(7, []), (8, []), (9, [])] 15 [⟨[4], 40, 10, 73⟩] [9, 8, 7, 6, 5, 4, 3, 2, 1, 0] rfl (by kernel_rfl) (fun cx => ?_)
              refine AT.to ⟨96, 0, [(81, .val false [.lit (.bool (r7 == 0))]), (80, .val false [.lit (.bool (r7 == 0))]), (79, .val false [.lit (.int .i64 r7)]), (78, .val false [.lit (.bool true)]), (77, .val false [.lit (.bool true)]), (76, .val false [.lit (.int .i64 r8)]), (75, .val false [.lit (.int .i64 r5.2.2)]), (74, .val false [.lit (.int .i64 r5.2.1)]), (73, .ref (.box 10) [(0, 0)] 2 0 2 true), (72, .val false [.lit (.int .i64 r7)]), (15, .val false [.lit (.int .i64 r7)]), (14, .val false [.lit (.int .i64 r6.2)]), (13, .adr (.box 13) [(0, 0)] 2 0), (12, .val false [.lit (.int .i64 r5.2.2)]), (11, .val false [.lit (.int .i64 r5.2.1)]), (10, .adr (.box 10) [(0, 0)] 2 0), (2, .val false [.lit (.bool false)])], [(13, (Vtab.row r6.1)), (10, (Vtab.row r5.1))]⟩ (by kernel_rfl) ?_
              rw [h3]
              refine AT.runU tOk [(10, []), (11, []), (12, []), (13, []), (14, []), (15, [])] 9 [⟨[4], 40, 10, 73⟩] [15, 14, 13, 12, 11, 10, 9, 8, 7, 6, 5, 4, 3, 2, 1, 0] rfl (by kernel_rfl) (fun cx => ?_)
              refine AT.to ⟨96, 0, [(87, .val false [.lit (.bool (r7 == r5.2.1))]), (86, .val false [.lit (.bool (r7 == r5.2.1))]), (85, .val false [.lit (.bool (r7 == r5.2.1))]), (84, .val false [.lit (.bool (r7 == r5.2.1))]), (83, .val false [.lit (.int .i64 r5.2.1)]), (82, .val false [.lit (.int .i64 r7)]), (81, .val false [.lit (.bool false)]), (80, .val false [.lit (.bool false)]), (79, .val false [.lit (.int .i64 r7)]), (78, .val false [.lit (.bool true)]), (77, .val false [.lit (.bool true)]), (76, .val false [.lit (.int .i64 r8)]), (75, .val false [.lit (.int .i64 r5.2.2)]), (74, .val false [.lit (.int .i64 r5.2.1)]), (73, .ref (.box 10) [(0, 0)] 2 0 2 true), (72, .val false [.lit (.int .i64 r7)]), (15, .val false [.lit (.int .i64 r7)]), (14, .val false [.lit (.int .i64 r6.2)]), (13, .adr (.box 13) [(0, 0)] 2 0), (12, .val false [.lit (.int .i64 r5.2.2)]), (11, .val false [.lit (.int .i64 r5.2.1)]), (10, .adr (.box 10) [(0, 0)] 2 0), (2, .val false [.lit (.bool false)])], [(13, (Vtab.row r6.1)), (10, (Vtab.row r5.1))]⟩ (by kernel_rfl) ?_
              rw [h4]
              refine AT.runU tOk [(16, []), (17, []), (18, []), (19, []), (20, []), (21, []), (22, []), (23, []), (24, [])] 0 [⟨[4], 40, 10, 73⟩] [24, 23, 22, 21, 20, 19, 18, 17, 16, 15, 14, 13, 12, 11, 10, 9, 8, 7, 6, 5, 4, 3, 2, 1, 0] rfl (by kernel_rfl) (fun cx => ?_)
              exact AT.done [2] [] _ (by kernel_rfl) (by kernel_rfl) rfl
            · refine Tr.ret ?_
              have H := Option.some.inj H
              subst H
              exact Fin.of _ [(false, [.lit (.bool false)])] (by kernel_rfl) rfl rfl
          · have H := bifT h4 H
            obtain ⟨r9, er9, H⟩ := bind_some H
            obtain ⟨r10, er10, H⟩ := bind_some H
            refine Tr.draws mixed 25 (by kernel_rfl) ⟨96, 0, [(2, .val false [.lit (.bool (r9 == r10))])], []⟩ (fun cx => ?_) ?_
            · refine AT.runU tOk [(0, []), (1, [4, 18, 21]), (2, []), (3, [])] 21 [⟨[4, 18, 21], 40, 10, 73⟩] [3, 2, 1, 0] rfl (by kernel_rfl) (fun cx => ?_)
              refine AT.big1 tOk 4 (by kernel_rfl) (by kernel_rfl) ?_
              refine LAt.callU tOk [.rd, .rd, .rd] (f := 50) (av := #[.tmp 73, .tmp 74, .tmp 75]) (ats := #[40, 3, 3]) (d := (some 76)) (ty := 3) (g := none) (by kernel_rfl) (by kernel_rfl) (by kernel_rfl) [.box 10] (spec_ShownTag n r5.1 r5.2.1 r5.2.2 r8 er8) (by kernel_rfl) (.inr (rets_cons (mine_cons mine_lit mine_nil) rets_nil)) ?_
              refine LAt.fin (by kernel_rfl) (And.intro (And.intro (by kernel_rfl) (by kernel_rfl)) ?_)
              refine AT.runU tOk [(5, []), (6, [])] 18 [⟨[4, 18, 21], 40, 10, 73⟩] [6, 5, 4, 3, 2, 1, 0] rfl (by kernel_rfl) (fun cx => ?_)
              refine AT.to ⟨96, 0, [(78, .val false [.lit (.bool (r7 == r8))]), (77, .val false [.lit (.bool (r7 == r8))]), (76, .val false [.lit (.int .i64 r8)]), (75, .val false [.lit (.int .i64 r5.2.2)]), (74, .val false [.lit (.int .i64 r5.2.1)]), (73, .ref (.box 10) [(0, 0)] 2 0 2 true), (72, .val false [.lit (.int .i64 r7)]), (15, .val false [.lit (.int .i64 r7)]), (14, .val false [.lit (.int .i64 r6.2)]), (13, .adr (.box 13) [(0, 0)] 2 0), (12, .val false [.lit (.int .i64 r5.2.2)]), (11, .val false [.lit (.int .i64 r5.2.1)]), (10, .adr (.box 10) [(0, 0)] 2 0), (2, .val false [.lit (.bool false)])], [(13, (Vtab.row r6.1)), (10, (Vtab.row r5.1))]⟩ (by kernel_rfl) ?_
              rw [h2]
              refine AT.runU tOk [(7, []), (8, []), (9, [])] 15 [⟨[4, 18, 21], 40, 10, 73⟩] [9, 8, 7, 6, 5, 4, 3, 2, 1, 0] rfl (by kernel_rfl) (fun cx => ?_)
              refine AT.to ⟨96, 0, [(81, .val false [.lit (.bool (r7 == 0))]), (80, .val false [.lit (.bool (r7 == 0))]), (79, .val false [.lit (.int .i64 r7)]), (78, .val false [.lit (.bool true)]), (77, .val false [.lit (.bool true)]), (76, .val false [.lit (.int .i64 r8)]), (75, .val false [.lit (.int .i64 r5.2.2)]), (74, .val false [.lit (.int .i64 r5.2.1)]), (73, .ref (.box 10) [(0, 0)] 2 0 2 true), (72, .val false [.lit (.int .i64 r7)]), (15, .val false [.lit (.int .i64 r7)]), (14, .val false [.lit (.int .i64 r6.2)]), (13, .adr (.box 13) [(0, 0)] 2 0), (12, .val false [.lit (.int .i64 r5.2.2)]), (11, .val false [.lit (.int .i64 r5.2.1)]), (10, .adr (.box 10) [(0, 0)] 2 0), (2, .val false [.lit (.bool false)])], [(13, (Vtab.row r6.1)), (10, (Vtab.row r5.1))]⟩ (by kernel_rfl) ?_
              rw [h3]
              refine AT.runU tOk [(10, []), (11, []), (12, []), (13, []), (14, []), (15, [])] 9 [⟨[4, 18, 21], 40, 10, 73⟩] [15, 14, 13, 12, 11, 10, 9, 8, 7, 6, 5, 4, 3, 2, 1, 0] rfl (by kernel_rfl) (fun cx => ?_)
              refine AT.to ⟨96, 0, [(87, .val false [.lit (.bool (r7 == r5.2.1))]), (86, .val false [.lit (.bool (r7 == r5.2.1))]), (85, .val false [.lit (.bool (r7 == r5.2.1))]), (84, .val false [.lit (.bool (r7 == r5.2.1))]), (83, .val false [.lit (.int .i64 r5.2.1)]), (82, .val false [.lit (.int .i64 r7)]), (81, .val false [.lit (.bool false)]), (80, .val false [.lit (.bool false)]), (79, .val false [.lit (.int .i64 r7)]), (78, .val false [.lit (.bool true)]), (77, .val false [.lit (.bool true)]), (76, .val false [.lit (.int .i64 r8)]), (75, .val false [.lit (.int .i64 r5.2.2)]), (74, .val false [.lit (.int .i64 r5.2.1)]), (73, .ref (.box 10) [(0, 0)] 2 0 2 true), (72, .val false [.lit (.int .i64 r7)]), (15, .val false [.lit (.int .i64 r7)]), (14, .val false [.lit (.int .i64 r6.2)]), (13, .adr (.box 13) [(0, 0)] 2 0), (12, .val false [.lit (.int .i64 r5.2.2)]), (11, .val false [.lit (.int .i64 r5.2.1)]), (10, .adr (.box 10) [(0, 0)] 2 0), (2, .val false [.lit (.bool false)])], [(13, (Vtab.row r6.1)), (10, (Vtab.row r5.1))]⟩ (by kernel_rfl) ?_
              rw [h4]
              refine AT.runU tOk [(16, [18, 21]), (17, []), (19, [21]), (20, [])] 5 [⟨[21], 40, 13, 91⟩, ⟨[18, 21], 40, 13, 88⟩, ⟨[4, 18, 21], 40, 10, 73⟩] [20, 19, 17, 16, 15, 14, 13, 12, 11, 10, 9, 8, 7, 6, 5, 4, 3, 2, 1, 0] rfl (by kernel_rfl) (fun cx => ?_)
              refine AT.big1 tOk 18 (by kernel_rfl) (by kernel_rfl) ?_
              refine LAt.callU tOk [.rd, .rd] (f := 20) (av := #[.tmp 88, .tmp 89]) (ats := #[40, 3]) (d := (some 90)) (ty := 3) (g := (some (15, true))) (by kernel_rfl) (by kernel_rfl) (by kernel_rfl) [.box 13] (impl_EgressOf n r6.1 r6.2 r9 er9) (by kernel_rfl) (.inr (rets_cons (mine_cons mine_lit mine_nil) rets_nil)) ?_
              refine LAt.fin (by kernel_rfl) (And.intro (And.intro (by kernel_rfl) (by kernel_rfl)) ?_)
              refine AT.big1 tOk 21 (by kernel_rfl) (by kernel_rfl) ?_
              refine LAt.callU tOk [.rd, .rd] (f := 18) (av := #[.tmp 91, .tmp 92]) (ats := #[40, 3]) (d := (some 93)) (ty := 3) (g := (some (15, true))) (by kernel_rfl) (by kernel_rfl) (by kernel_rfl) [.box 13] (spec_EgressOf n r6.1 r6.2 r10 er10) (by kernel_rfl) (.inr (rets_cons (mine_cons mine_lit mine_nil) rets_nil)) ?_
              refine LAt.fin (by kernel_rfl) (And.intro (And.intro (by kernel_rfl) (by kernel_rfl)) ?_)
              refine AT.runU tOk [(22, []), (23, []), (24, [])] 0 [⟨[21], 40, 13, 91⟩, ⟨[18, 21], 40, 13, 88⟩, ⟨[4, 18, 21], 40, 10, 73⟩] [24, 23, 22, 21, 18, 20, 19, 17, 16, 15, 14, 13, 12, 11, 10, 9, 8, 7, 6, 5, 4, 3, 2, 1, 0] rfl (by kernel_rfl) (fun cx => ?_)
              exact AT.done [2] [] _ (by kernel_rfl) (by kernel_rfl) rfl
            · refine Tr.ret ?_
              have H := Option.some.inj H
              subst H
              exact Fin.of _ [(false, [.lit (.bool (r9 == r10))])] (by kernel_rfl) rfl rfl
        · have H := bifT h3 H
          obtain ⟨r11, er11, H⟩ := bind_some H
          obtain ⟨r12, er12, H⟩ := bind_some H
          refine Tr.draws mixed 25 (by kernel_rfl) ⟨96, 0, [(2, .val false [.lit (.bool (r11 == r12))])], []⟩ (fun cx => ?_) ?_
          · refine AT.runU tOk [(0, []), (1, [4, 18, 21]), (2, []), (3, [])] 21 [⟨[4, 18, 21], 40, 10, 73⟩] [3, 2, 1, 0] rfl (by kernel_rfl) (fun cx => ?_)
            refine AT.big1 tOk 4 (by kernel_rfl) (by kernel_rfl) ?_
            refine LAt.callU tOk [.rd, .rd, .rd] (f := 50) (av := #[.tmp 73, .tmp 74, .tmp 75]) (ats := #[40, 3, 3]) (d := (some 76)) (ty := 3) (g := none) (by kernel_rfl) (by kernel_rfl) (by kernel_rfl) [.box 10] (spec_ShownTag n r5.1 r5.2.1 r5.2.2 r8 er8) (by kernel_rfl) (.inr (rets_cons (mine_cons mine_lit mine_nil) rets_nil)) ?_
            refine LAt.fin (by kernel_rfl) (And.intro (And.intro (by kernel_rfl) (by kernel_rfl)) ?_)
            refine AT.runU tOk [(5, []), (6, [])] 18 [⟨[4, 18, 21], 40, 10, 73⟩] [6, 5, 4, 3, 2, 1, 0] rfl (by kernel_rfl) (fun cx => ?_)
            refine AT.to ⟨96, 0, [(78, .val false [.lit (.bool (r7 == r8))]), (77, .val false [.lit (.bool (r7 == r8))]), (76, .val false [.lit (.int .i64 r8)]), (75, .val false [.lit (.int .i64 r5.2.2)]), (74, .val false [.lit (.int .i64 r5.2.1)]), (73, .ref (.box 10) [(0, 0)] 2 0 2 true), (72, .val false [.lit (.int .i64 r7)]), (15, .val false [.lit (.int .i64 r7)]), (14, .val false [.lit (.int .i64 r6.2)]), (13, .adr (.box 13) [(0, 0)] 2 0), (12, .val false [.lit (.int .i64 r5.2.2)]), (11, .val false [.lit (.int .i64 r5.2.1)]), (10, .adr (.box 10) [(0, 0)] 2 0), (2, .val false [.lit (.bool false)])], [(13, (Vtab.row r6.1)), (10, (Vtab.row r5.1))]⟩ (by kernel_rfl) ?_
            rw [h2]
            refine AT.runU tOk [(7, []), (8, []), (9, [])] 15 [⟨[4, 18, 21], 40, 10, 73⟩] [9, 8, 7, 6, 5, 4, 3, 2, 1, 0] rfl (by kernel_rfl) (fun cx => ?_)
            refine AT.to ⟨96, 0, [(81, .val false [.lit (.bool (r7 == 0))]), (80, .val false [.lit (.bool (r7 == 0))]), (79, .val false [.lit (.int .i64 r7)]), (78, .val false [.lit (.bool true)]), (77, .val false [.lit (.bool true)]), (76, .val false [.lit (.int .i64 r8)]), (75, .val false [.lit (.int .i64 r5.2.2)]), (74, .val false [.lit (.int .i64 r5.2.1)]), (73, .ref (.box 10) [(0, 0)] 2 0 2 true), (72, .val false [.lit (.int .i64 r7)]), (15, .val false [.lit (.int .i64 r7)]), (14, .val false [.lit (.int .i64 r6.2)]), (13, .adr (.box 13) [(0, 0)] 2 0), (12, .val false [.lit (.int .i64 r5.2.2)]), (11, .val false [.lit (.int .i64 r5.2.1)]), (10, .adr (.box 10) [(0, 0)] 2 0), (2, .val false [.lit (.bool false)])], [(13, (Vtab.row r6.1)), (10, (Vtab.row r5.1))]⟩ (by kernel_rfl) ?_
            rw [h3]
            refine AT.runU tOk [(10, []), (11, []), (12, []), (13, []), (14, []), (15, []), (16, [18, 21]), (17, []), (19, [21]), (20, [])] 5 [⟨[21], 40, 13, 91⟩, ⟨[18, 21], 40, 13, 88⟩, ⟨[4, 18, 21], 40, 10, 73⟩] [20, 19, 17, 16, 15, 14, 13, 12, 11, 10, 9, 8, 7, 6, 5, 4, 3, 2, 1, 0] rfl (by kernel_rfl) (fun cx => ?_)
            refine AT.big1 tOk 18 (by kernel_rfl) (by kernel_rfl) ?_
            refine LAt.callU tOk [.rd, .rd] (f := 20) (av := #[.tmp 88, .tmp 89]) (ats := #[40, 3]) (d := (some 90)) (ty := 3) (g := (some (15, true))) (by kernel_rfl) (by kernel_rfl) (by kernel_rfl) [.box 13] (impl_EgressOf n r6.1 r6.2 r11 er11) (by kernel_rfl) (.inr (rets_cons (mine_cons mine_lit mine_nil) rets_nil)) ?_
            refine LAt.fin (by kernel_rfl) (And.intro (And.intro (by kernel_rfl) (by kernel_rfl)) ?_)
            refine AT.big1 tOk 21 (by kernel_rfl) (by kernel_rfl) ?_
            refine LAt.callU tOk [.rd, .rd] (f := 18) (av := #[.tmp 91, .tmp 92]) (ats := #[40, 3]) (d := (some 93)) (ty := 3) (g := (some (15, true))) (by kernel_rfl) (by kernel_rfl) (by kernel_rfl) [.box 13] (spec_EgressOf n r6.1 r6.2 r12 er12) (by kernel_rfl) (.inr (rets_cons (mine_cons mine_lit mine_nil) rets_nil)) ?_
            refine LAt.fin (by kernel_rfl) (And.intro (And.intro (by kernel_rfl) (by kernel_rfl)) ?_)
            refine AT.runU tOk [(22, []), (23, []), (24, [])] 0 [⟨[21], 40, 13, 91⟩, ⟨[18, 21], 40, 13, 88⟩, ⟨[4, 18, 21], 40, 10, 73⟩] [24, 23, 22, 21, 18, 20, 19, 17, 16, 15, 14, 13, 12, 11, 10, 9, 8, 7, 6, 5, 4, 3, 2, 1, 0] rfl (by kernel_rfl) (fun cx => ?_)
            exact AT.done [2] [] _ (by kernel_rfl) (by kernel_rfl) rfl
          · refine Tr.ret ?_
            have H := Option.some.inj H
            subst H
            exact Fin.of _ [(false, [.lit (.bool (r11 == r12))])] (by kernel_rfl) rfl rfl
  · have H := bifT h1 H
    refine Tr.cond (b := true) (by kernel_rfl) (fun _ => ?_) (fun h => nomatch h)
    refine Tr.rs ?_
    refine LAt.runU tOk 1 (by kernel_rfl) ?_
    refine LAt.doneU [2, 0] [] (by kernel_rfl) ?_
    refine Tr.ret ?_
    have H := Option.some.inj H
    subst H
    exact Fin.of _ [(false, [.lit (.bool true)])] (by kernel_rfl) rfl rfl
end Go.Proofs.Ytnhmckiejhbmcaa.Tw
