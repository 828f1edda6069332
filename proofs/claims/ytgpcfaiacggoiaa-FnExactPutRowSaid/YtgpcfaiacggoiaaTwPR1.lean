/- Functions of the program, over trees. -/
import Derived.Test.YtgpcfaiacggoiaaProg
import Derived.Test.YtgpcfaiacggoiaaTlRule
import Derived.Test.YtgpcfaiacggoiaaTlU3
import Derived.Test.YtgpcfaiacggoiaaTwPR0
import Derived.WalkKit
set_option linter.unusedVariables false
set_option linter.unusedSimpArgs false
set_option maxRecDepth 100000
set_option maxHeartbeats 1000000
namespace Go.Proofs.Ytgpcfaiacggoiaa.Tw
open Go Go.TL Go.Proofs


def impl_withRow_J1 (n : Nat) (r1 : Vtab) (x0 : Vtab) (x1 : Vrow) (y4 : Int) : Option (Vtab) :=
  (bif (decide ((0 : Int) ≤ 0) && (decide ((0 : Int) ≤ y4) && decide ((y4 : Int) ≤ (x0.Rows.length : Int)))) then (bif (decide (([] : List Vrow).length + ((x0.Rows.drop ((0 : Int)).toNat).take (((y4 : Int)).toNat - ((0 : Int)).toNat)).length ≤ 268435456)) then (bif (decide ((([] : List Vrow) ++ ((x0.Rows.drop ((0 : Int)).toNat).take (((y4 : Int)).toNat - ((0 : Int)).toNat))).length + [x1].length ≤ 268435456)) then (bif (decide ((0 : Int) ≤ y4) && (decide ((y4 : Int) ≤ (x0.Rows.length : Int)) && decide (((x0.Rows.length : Int) : Int) ≤ (x0.Rows.length : Int)))) then (bif (decide (((([] : List Vrow) ++ ((x0.Rows.drop ((0 : Int)).toNat).take (((y4 : Int)).toNat - ((0 : Int)).toNat))) ++ [x1]).length + ((x0.Rows.drop ((y4 : Int)).toNat).take ((((x0.Rows.length : Int) : Int)).toNat - ((y4 : Int)).toNat)).length ≤ 268435456)) then (some (⟨(((([] : List Vrow) ++ ((x0.Rows.drop ((0 : Int)).toNat).take (((y4 : Int)).toNat - ((0 : Int)).toNat))) ++ [x1]) ++ ((x0.Rows.drop ((y4 : Int)).toNat).take ((((x0.Rows.length : Int) : Int)).toNat - ((y4 : Int)).toNat))), r1.Pvid⟩ : Vtab)) else none) else none) else none) else none) else none)
def impl_withRow_L2 (n : Nat) : Nat → Vtab → Vrow → Int → Option ((Int) ⊕ (Vtab))
  | 0, _, _, _ => none
  | mo10 + 1, x0, x1, y3 => (bif (decide (y3 < (x0.Rows.length : Int))) then ((idx x0.Rows y3).bind fun v11 => (bif (decide (v11.Id ≤ x1.Id)) then (impl_withRow_L2 n mo10 x0 x1 (IntKind.wrap .i64 (y3 + 1))) else (some (Sum.inl y3)))) else (some (Sum.inl y3)))
def impl_withRowF (n : Nat) (x0 : Vtab) (x1 : Vrow) : Option (Vtab) :=
  ((impl_copyVtabF n x0).bind fun r1 => ((impl_RowAtF n x0 x1.Id).bind fun r2 => (bif (decide (r2 ≥ 0)) then ((idx r1.Rows r2).bind fun v12 => (some (⟨(r1.Rows.set (r2.toNat) x1), r1.Pvid⟩ : Vtab))) else ((impl_withRow_L2 n n x0 x1 0).bind fun o => match o with | .inl y4 => (impl_withRow_J1 n r1 x0 x1 y4) | .inr r => some r))))
/-- loop.example/g00326/impl.withRow -/
theorem impl_withRow (n : Nat) (x0 : Vtab) (x1 : Vrow) (r : Vtab) (H : impl_withRowF n x0 x1 = some r) : LCall Try.prog 107 [.val true (CV.frzRow (Vtab.row x0)), .val true (CV.frzRow (Vrow.row x1))] [.val true (Vtab.row r)] [] := by
  refine LCall.of_body tOk Try.func107 rfl (c := (.seq (.region 0 (rg Try.f107 0) false) (.seq (.region 1 (rg Try.f107 1) false) (.seq (.seq (.region 2 (rg Try.f107 2) false) (.seq (.region 3 (rg Try.f107 3) false) (.cond (.tmp 15) (.seq (.region 4 (rg Try.f107 4) false) (.seq (.region 5 (rg Try.f107 5) false) .ret)) .skip))) (.seq (.region 6 (rg Try.f107 6) false) (.seq (.block 0 (.loop (.seq (.seq (.region 7 (rg Try.f107 7) true) (.cond (.tmp 37) .skip (.exit 0))) (.block 1 (.region 8 (rg Try.f107 8) false))))) (.seq (.region 9 (rg Try.f107 9) true) (.seq (.region 10 (rg Try.f107 10) false) .ret)))))))) (by kernel_rfl) (Nat.le_of_ble_eq_true (by kernel_rfl)) 0 (rs := [.cell 4 29]) rfl [] .nil [(true, (Vtab.row r))] [] [] fun cx => ?_
  show Tr _ _ _ ⟨55, 0, [(0, .val true (CV.frzRow (Vtab.row x0))), (1, .val true (Vrow.row x1))], []⟩ _
  unfold impl_withRowF at H
  refine Tr.rs ?_
  refine LAt.runU tOk 3 (by kernel_rfl) ?_
  refine LAt.doneU [4, 3, 2] [4, 3, 2] (by kernel_rfl) ?_
  refine Tr.rs ?_
  refine LAt.runU tOk 1 (by kernel_rfl) ?_
  obtain ⟨r1, er1, H⟩ := bind_some H
  refine LAt.callU tOk [.rd] (f := 81) (av := #[.tmp 8]) (ats := #[29]) (d := (some 9)) (ty := 29) (g := none) (by kernel_rfl) (by kernel_rfl) (by kernel_rfl) [] (impl_copyVtab n x0 r1 er1) (by kernel_rfl) (.inl rfl) ?_
  refine LAt.runU tOk 2 (by kernel_rfl) ?_
  refine LAt.doneU [5, 4, 3, 2] [5, 4, 3, 2] (by kernel_rfl) ?_
  refine Tr.seq ?_
  refine Tr.rs ?_
  refine LAt.runU tOk 3 (by kernel_rfl) ?_
  obtain ⟨r2, er2, H⟩ := bind_some H
  refine LAt.callU tOk [.rd, .rd] (f := 40) (av := #[.tmp 10, .tmp 12]) (ats := #[29, 3]) (d := (some 13)) (ty := 3) (g := none) (by kernel_rfl) (by kernel_rfl) (by kernel_rfl) [] (impl_RowAt n x0 x1.Id r2 er2) (by kernel_rfl) (.inl rfl) ?_
  refine LAt.runU tOk 1 (by kernel_rfl) ?_
  refine LAt.doneU [6, 5, 4, 3, 2] [5, 4, 3, 2] (by kernel_rfl) ?_
  refine Tr.rs ?_
  refine LAt.runU tOk 2 (by kernel_rfl) ?_
  refine LAt.doneU [15, 6, 5, 4, 3, 2] [5, 4, 3, 2] (by kernel_rfl) ?_
  refine Tr.to ⟨55, 0, [(15, .val false [.lit (.bool (decide (r2 ≥ 0)))]), (6, .val false [.lit (.int .i64 r2)]), (5, .adr (.box 5) [(0, 0)] 2 0), (4, .adr (.box 4) [(0, 0)] 2 0), (3, .adr (.box 3) [(0, 0)] 3 0), (2, .adr (.box 2) [(0, 0)] 2 0)], [(5, (Vtab.row r1)), (4, [.sl true 3 (([] : List Vrow).map Vrow.row), .sl true 1 (([] : List Int).map intRow)]), (3, (Vrow.row x1)), (2, (CV.frzRow (Vtab.row x0)))]⟩ (by kernel_rfl) ?_
  cases h1 : (decide (r2 ≥ 0))
  · have H := bifF h1 H
    refine Tr.cond (b := false) (by kernel_rfl) (fun h => nomatch h) (fun _ => ?_)
    refine Tr.skip ?_
    show Tr _ _ _ _ _
    refine Tr.rs ?_
    refine LAt.runU tOk 1 (by kernel_rfl) ?_
    refine LAt.doneU [7, 5, 4, 3, 2] [5, 4, 3, 2] (by kernel_rfl) ?_
    refine Tr.seq ?_
    obtain ⟨o10, eo10, Ho10⟩ := bind_some H
    clear H
    refine Tr.mid (ι := Int) (fun v => ⟨55, 0, [(7, .val false [.lit (.int .i64 v)]), (5, .adr (.box 5) [(0, 0)] 2 0), (4, .adr (.box 4) [(0, 0)] 2 0), (3, .adr (.box 3) [(0, 0)] 3 0), (2, .adr (.box 2) [(0, 0)] 2 0)], [(5, (Vtab.row r1)), (4, [.sl true 3 (([] : List Vrow).map Vrow.row), .sl true 1 (([] : List Int).map intRow)]), (3, (Vrow.row x1)), (2, (CV.frzRow (Vtab.row x0)))]⟩) (fun v => impl_withRow_J1 n r1 x0 x1 v = some r) ?_ ?_
    · refine Tr.block ?_
      refine Tr.loop (ι := Nat × (Int)) (fun v => ⟨55, 0, [(7, .val false [.lit (.int .i64 v.2)]), (5, .adr (.box 5) [(0, 0)] 2 0), (4, .adr (.box 4) [(0, 0)] 2 0), (3, .adr (.box 3) [(0, 0)] 3 0), (2, .adr (.box 2) [(0, 0)] 2 0)], [(5, (Vtab.row r1)), (4, [.sl true 3 (([] : List Vrow).map Vrow.row), .sl true 1 (([] : List Int).map intRow)]), (3, (Vrow.row x1)), (2, (CV.frzRow (Vtab.row x0)))]⟩) (fun v => impl_withRow_L2 n v.1 x0 x1 v.2 = some o10) (fun v => v.1) (n, 0) eo10 (St.sub_of [7, 5, 4, 3, 2] [5, 4, 3, 2] (by kernel_rfl)) ?_
      rintro ⟨mo10, y3⟩ H
      have H : impl_withRow_L2 n mo10 x0 x1 y3 = some o10 := H
      obtain _ | mo10 := mo10
      · cases (show (none : Option _) = some o10 from H)
      · rw [impl_withRow_L2] at H
        refine Tr.seq ?_
        refine Tr.to ⟨55, 0, [(7, .val false [.lit (.int .i64 y3)]), (5, .adr (.box 5) [(0, 0)] 2 0), (4, .adr (.box 4) [(0, 0)] 2 0), (3, .adr (.box 3) [(0, 0)] 3 0), (2, .adr (.box 2) [(0, 0)] 2 0)], [(5, (Vtab.row r1)), (4, [.sl true 3 (([] : List Vrow).map Vrow.row), .sl true 1 (([] : List Int).map intRow)]), (3, (Vrow.row x1)), (2, (CV.frzRow (Vtab.row x0)))]⟩ (by kernel_rfl) ?_
        cases h2 : (decide (y3 < (x0.Rows.length : Int)))
        · have H := bifF h2 H
          refine Tr.draws mixed 16 (by kernel_rfl) ⟨55, 0, [(37, .val false [.lit (.bool false)]), (36, .tup []), (35, .tup []), (34, .tup []), (33, .tup []), (32, .tup []), (31, .tup []), (30, .tup []), (29, .tup []), (28, .tup []), (27, .val false [.lit (.bool false)]), (26, .val false [.lit (.bool false)]), (25, .val false [.lit (.int .i64 (x0.Rows.length : Int))]), (24, .ref (.box 2) [(0, 0)] 2 0 1 false), (23, .adr (.box 2) [(0, 0)] 2 0), (22, .val false [.lit (.int .i64 y3)]), (7, .val false [.lit (.int .i64 y3)]), (5, .adr (.box 5) [(0, 0)] 2 0), (4, .adr (.box 4) [(0, 0)] 2 0), (3, .adr (.box 3) [(0, 0)] 3 0), (2, .adr (.box 2) [(0, 0)] 2 0)], [(5, (Vtab.row r1)), (4, [.sl true 3 (([] : List Vrow).map Vrow.row), .sl true 1 (([] : List Int).map intRow)]), (3, (Vrow.row x1)), (2, (CV.frzRow (Vtab.row x0)))]⟩ (fun cx => ?_) ?_
          · refine AT.runU tOk [(0, []), (1, []), (2, [])] 13 [⟨[], 27, 23, 24⟩] [2, 1, 0] rfl (by kernel_rfl) (fun cx => ?_)
            refine AT.lenE tOk 3 (t := 27) (ty := 3) (e := 56) (x := (.tmp 24)) (d := 25) (g := none) ⟨(.box 2), [(0, 0)], 0, false, 3, (CV.frzEs (x0.Rows.map Vrow.row))⟩ (x0.Rows).length _ (by kernel_rfl) (by kernel_rfl) (by kernel_rfl) (by kernel_rfl) (by kernel_rfl) (by kernel_rfl) (by kernel_rfl) (frz_len _ _) rfl (fun cx => ?_)
            refine AT.runU tOk [(4, []), (5, [])] 10 [⟨[], 27, 23, 24⟩] [5, 4, 3, 2, 1, 0] rfl (by kernel_rfl) (fun cx => ?_)
            refine AT.to ⟨55, 0, [(27, .val false [.lit (.bool (decide (y3 < (x0.Rows.length : Int))))]), (26, .val false [.lit (.bool (decide (y3 < (x0.Rows.length : Int))))]), (25, .val false [.lit (.int .i64 (x0.Rows.length : Int))]), (24, .ref (.box 2) [(0, 0)] 2 0 1 false), (23, .adr (.box 2) [(0, 0)] 2 0), (22, .val false [.lit (.int .i64 y3)]), (7, .val false [.lit (.int .i64 y3)]), (5, .adr (.box 5) [(0, 0)] 2 0), (4, .adr (.box 4) [(0, 0)] 2 0), (3, .adr (.box 3) [(0, 0)] 3 0), (2, .adr (.box 2) [(0, 0)] 2 0)], [(5, (Vtab.row r1)), (4, [.sl true 3 (([] : List Vrow).map Vrow.row), .sl true 1 (([] : List Int).map intRow)]), (3, (Vrow.row x1)), (2, (CV.frzRow (Vtab.row x0)))]⟩ (by kernel_rfl) ?_
            rw [h2]
            refine AT.runU tOk [(6, []), (7, []), (8, []), (9, []), (10, []), (11, []), (12, []), (13, []), (14, []), (15, [])] 0 [⟨[], 27, 23, 24⟩] [15, 14, 13, 12, 11, 10, 9, 8, 7, 6, 5, 4, 3, 2, 1, 0] rfl (by kernel_rfl) (fun cx => ?_)
            exact AT.done [37, 36, 35, 34, 33, 32, 31, 30, 29, 28, 27, 26, 25, 24, 23, 22, 7, 5, 4, 3, 2] [5, 4, 3, 2] _ (by kernel_rfl) (by kernel_rfl) rfl
          · refine Tr.cond (b := false) (by kernel_rfl) (fun h => nomatch h) (fun _ => ?_)
            refine Tr.exit ?_
            refine And.intro (fun _ => ?_) (fun h => absurd rfl h)
            have H := Option.some.inj H
            subst H
            have H := Ho10
            dsimp only at H
            exact Exists.intro y3 (And.intro H (St.sub_of [7, 5, 4, 3, 2] [5, 4, 3, 2] (by kernel_rfl)))
        · have H := bifT h2 H
          obtain ⟨v11, ev11, H⟩ := bind_some H
          refine Tr.draws mixed 16 (by kernel_rfl) ⟨55, 0, [(37, .val false [.lit (.bool (decide (v11.Id ≤ x1.Id)))]), (36, .val false [.lit (.bool (decide (v11.Id ≤ x1.Id)))]), (35, .val false [.lit (.int .i64 x1.Id)]), (34, .adr (.box 3) [(0, 0)] 3 0), (33, .val false [.lit (.int .i64 v11.Id)]), (32, .fad ((Vrow.row v11))), (31, .fad ((Vrow.row v11))), (30, .val false [.lit (.int .i64 y3)]), (29, .ref (.box 2) [(0, 0)] 2 0 1 false), (28, .adr (.box 2) [(0, 0)] 2 0), (27, .val false [.lit (.bool true)]), (26, .val false [.lit (.bool true)]), (25, .val false [.lit (.int .i64 (x0.Rows.length : Int))]), (24, .ref (.box 2) [(0, 0)] 2 0 1 false), (23, .adr (.box 2) [(0, 0)] 2 0), (22, .val false [.lit (.int .i64 y3)]), (7, .val false [.lit (.int .i64 y3)]), (5, .adr (.box 5) [(0, 0)] 2 0), (4, .adr (.box 4) [(0, 0)] 2 0), (3, .adr (.box 3) [(0, 0)] 3 0), (2, .adr (.box 2) [(0, 0)] 2 0)], [(5, (Vtab.row r1)), (4, [.sl true 3 (([] : List Vrow).map Vrow.row), .sl true 1 (([] : List Int).map intRow)]), (3, (Vrow.row x1)), (2, (CV.frzRow (Vtab.row x0)))]⟩ (fun cx => ?_) ?_
          · refine AT.runU tOk [(0, []), (1, []), (2, [])] 13 [⟨[], 27, 23, 24⟩] [2, 1, 0] rfl (by kernel_rfl) (fun cx => ?_)
            refine AT.lenE tOk 3 (t := 27) (ty := 3) (e := 56) (x := (.tmp 24)) (d := 25) (g := none) ⟨(.box 2), [(0, 0)], 0, false, 3, (CV.frzEs (x0.Rows.map Vrow.row))⟩ (x0.Rows).length _ (by kernel_rfl) (by kernel_rfl) (by kernel_rfl) (by kernel_rfl) (by kernel_rfl) (by kernel_rfl) (by kernel_rfl) (frz_len _ _) rfl (fun cx => ?_)
            refine AT.runU tOk [(4, []), (5, [])] 10 [⟨[], 27, 23, 24⟩] [5, 4, 3, 2, 1, 0] rfl (by kernel_rfl) (fun cx => ?_)
            refine AT.to ⟨55, 0, [(27, .val false [.lit (.bool (decide (y3 < (x0.Rows.length : Int))))]), (26, .val false [.lit (.bool (decide (y3 < (x0.Rows.length : Int))))]), (25, .val false [.lit (.int .i64 (x0.Rows.length : Int))]), (24, .ref (.box 2) [(0, 0)] 2 0 1 false), (23, .adr (.box 2) [(0, 0)] 2 0), (22, .val false [.lit (.int .i64 y3)]), (7, .val false [.lit (.int .i64 y3)]), (5, .adr (.box 5) [(0, 0)] 2 0), (4, .adr (.box 4) [(0, 0)] 2 0), (3, .adr (.box 3) [(0, 0)] 3 0), (2, .adr (.box 2) [(0, 0)] 2 0)], [(5, (Vtab.row r1)), (4, [.sl true 3 (([] : List Vrow).map Vrow.row), .sl true 1 (([] : List Int).map intRow)]), (3, (Vrow.row x1)), (2, (CV.frzRow (Vtab.row x0)))]⟩ (by kernel_rfl) ?_
            rw [h2]
            refine AT.runU tOk [(6, []), (7, []), (8, [])] 7 [⟨[], 27, 28, 29⟩, ⟨[], 27, 23, 24⟩] [8, 7, 6, 5, 4, 3, 2, 1, 0] rfl (by kernel_rfl) (fun cx => ?_)
            refine AT.indexF tOk 9 (t := 27) (ty := 0) (x := (.tmp 29)) (y := (.tmp 30)) (d := 31) (g := (some (5, true))) ⟨(.box 2), [(0, 0)], 0, false, 3, (CV.frzEs (x0.Rows.map Vrow.row))⟩ y3 (Vrow.row v11) _ (by kernel_rfl) (by kernel_rfl) (by kernel_rfl) (by kernel_rfl) (by kernel_rfl) (by kernel_rfl) rfl (idx_isF ev11) rfl (fun cx => ?_)
            refine AT.runU tOk [(10, []), (11, []), (12, []), (13, []), (14, []), (15, [])] 0 [⟨[], 3, 34, 35⟩, ⟨[], 27, 28, 29⟩, ⟨[], 27, 23, 24⟩] [15, 14, 13, 12, 11, 10, 9, 8, 7, 6, 5, 4, 3, 2, 1, 0] rfl (by kernel_rfl) (fun cx => ?_)
            exact AT.done [37, 36, 35, 34, 33, 32, 31, 30, 29, 28, 27, 26, 25, 24, 23, 22, 7, 5, 4, 3, 2] [5, 4, 3, 2] _ (by kernel_rfl) (by kernel_rfl) rfl
          · refine Tr.to ⟨55, 0, [(37, .val false [.lit (.bool (decide (v11.Id ≤ x1.Id)))]), (36, .val false [.lit (.bool (decide (v11.Id ≤ x1.Id)))]), (35, .val false [.lit (.int .i64 x1.Id)]), (34, .adr (.box 3) [(0, 0)] 3 0), (33, .val false [.lit (.int .i64 v11.Id)]), (32, .fad ((Vrow.row v11))), (31, .fad ((Vrow.row v11))), (30, .val false [.lit (.int .i64 y3)]), (29, .ref (.box 2) [(0, 0)] 2 0 1 false), (28, .adr (.box 2) [(0, 0)] 2 0), (27, .val false [.lit (.bool true)]), (26, .val false [.lit (.bool true)]), (25, .val false [.lit (.int .i64 (x0.Rows.length : Int))]), (24, .ref (.box 2) [(0, 0)] 2 0 1 false), (23, .adr (.box 2) [(0, 0)] 2 0), (22, .val false [.lit (.int .i64 y3)]), (7, .val false [.lit (.int .i64 y3)]), (5, .adr (.box 5) [(0, 0)] 2 0), (4, .adr (.box 4) [(0, 0)] 2 0), (3, .adr (.box 3) [(0, 0)] 3 0), (2, .adr (.box 2) [(0, 0)] 2 0)], [(5, (Vtab.row r1)), (4, [.sl true 3 (([] : List Vrow).map Vrow.row), .sl true 1 (([] : List Int).map intRow)]), (3, (Vrow.row x1)), (2, (CV.frzRow (Vtab.row x0)))]⟩ (by kernel_rfl) ?_
            cases h3 : (decide (v11.Id ≤ x1.Id))
            · have H := bifF h3 H
              refine Tr.cond (b := false) (by kernel_rfl) (fun h => nomatch h) (fun _ => ?_)
              refine Tr.exit ?_
              refine And.intro (fun _ => ?_) (fun h => absurd rfl h)
              have H := Option.some.inj H
              subst H
              have H := Ho10
              dsimp only at H
              exact Exists.intro y3 (And.intro H (St.sub_of [7, 5, 4, 3, 2] [5, 4, 3, 2] (by kernel_rfl)))
            · have H := bifT h3 H
              refine Tr.cond (b := true) (by kernel_rfl) (fun _ => ?_) (fun h => nomatch h)
              refine Tr.skip ?_
              show Tr _ _ _ _ _
              refine Tr.block ?_
              refine Tr.at ?_
              refine LAt.runU tOk 3 (by kernel_rfl) ?_
              refine LAt.doneU [7, 39, 38, 37, 36, 35, 34, 33, 32, 31, 30, 29, 28, 27, 26, 25, 24, 23, 22, 5, 4, 3, 2] [5, 4, 3, 2] (by kernel_rfl) ?_
              exact Exists.intro (mo10, (IntKind.wrap .i64 (y3 + 1))) (And.intro H (And.intro (Nat.lt_succ_self mo10) (St.sub_of [7, 5, 4, 3, 2] [5, 4, 3, 2] (by kernel_rfl))))
    · rintro y4 H
      have H : (impl_withRow_J1 n r1 x0 x1 y4) = some r := H
      unfold impl_withRow_J1 at H
      show Tr _ _ _ _ _
      obtain ⟨hg5, H⟩ := guard_some H
      obtain ⟨hg6, H⟩ := guard_some H
      obtain ⟨hg7, H⟩ := guard_some H
      obtain ⟨hg8, H⟩ := guard_some H
      obtain ⟨hg9, H⟩ := guard_some H
      refine Tr.draws mixed 15 (by kernel_rfl) ⟨55, 0, [(5, .adr (.box 5) [(0, 0)] 2 0), (4, .adr (.box 4) [(0, 0)] 2 0)], [(5, [.sl true 3 ((((([] : List Vrow) ++ ((x0.Rows.drop ((0 : Int)).toNat).take (((y4 : Int)).toNat - ((0 : Int)).toNat))) ++ [x1]) ++ ((x0.Rows.drop ((y4 : Int)).toNat).take ((((x0.Rows.length : Int) : Int)).toNat - ((y4 : Int)).toNat))).map Vrow.row), .sl true 1 (r1.Pvid.map intRow)]), (4, [.sl true 3 (([] : List Vrow).map Vrow.row), .sl true 1 (([] : List Int).map intRow)])]⟩ (fun cx => ?_) ?_
      · refine AT.runU tOk [(0, []), (1, [3, 4, 7, 12, 14]), (2, []), (5, [6, 7, 12, 14]), (8, []), (9, [11, 12, 14]), (10, [])] 8 [⟨[11, 12, 14], 27, 48, 49⟩, ⟨[6, 7, 12, 14], 56, 3, 45⟩, ⟨[3, 4, 7, 12, 14], 27, 40, 41⟩] [10, 9, 8, 5, 2, 1, 0] rfl (by kernel_rfl) (fun cx => ?_)
        refine AT.big3 tOk 3 6 11 (by kernel_rfl) (And.intro (by kernel_rfl) ?_) (And.intro (by kernel_rfl) ?_) (And.intro (by kernel_rfl) ?_)
        · refine LAt.cutG tOk (t := 27) (ty := 27) (e := 56) (x := (.tmp 41)) (lo := none) (hi := (some (.tmp 42))) (d := 43) (g := none) ⟨.st [(0, 1, 3), (1, 1, 3), (2, 1, 3)], 3, 24, [.lit (.int .i64 0), .lit (.int .i64 0), .lit (.int .i64 0)]⟩ Vrow.row x0.Rows ⟨(.box 2), [(0, 0)], 0, false, 3, (CV.frzEs (x0.Rows.map Vrow.row))⟩ 0 y4 (by kernel_rfl) (by kernel_rfl) (by kernel_rfl) (by kernel_rfl) (by kernel_rfl) (by kernel_rfl) rfl (by kernel_rfl) rfl (by kernel_rfl) (by kernel_rfl) hg5 ?_
          refine LAt.fin (by kernel_rfl) (And.intro (And.intro (by kernel_rfl) (by kernel_rfl)) ?_)
          refine AT.big3 tOk 4 6 11 (by kernel_rfl) (And.intro (by kernel_rfl) ?_) (And.intro (by kernel_rfl) ?_) (And.intro (by kernel_rfl) ?_)
          · refine LAt.appCU tOk (t := 27) (ty := 27) (e := 56) (x := (.const (.slice none 0 0))) (y := (.tmp 43)) (d := 44) (g := none) ⟨.st [(0, 1, 3), (1, 1, 3), (2, 1, 3)], 3, 24, [.lit (.int .i64 0), .lit (.int .i64 0), .lit (.int .i64 0)]⟩ Vrow.row ([] : List Vrow) ((x0.Rows.drop ((0 : Int)).toNat).take (((y4 : Int)).toNat - ((0 : Int)).toNat)) ⟨(.slot 43), [], 0, false, 3, (CV.frzEs (((x0.Rows.drop ((0 : Int)).toNat).take (((y4 : Int)).toNat - ((0 : Int)).toNat)).map Vrow.row))⟩ (by kernel_rfl) (by kernel_rfl) (by kernel_rfl) (by kernel_rfl) (by kernel_rfl) (by kernel_rfl) (by kernel_rfl) (by kernel_rfl) (by kernel_rfl) (by kernel_rfl) (by kernel_rfl) (.inr rfl) (fun _ => rfl) (fun _ => rfl) hg6 ?_
            refine LAt.fin (by kernel_rfl) (And.intro (And.intro (by kernel_rfl) (by kernel_rfl)) ?_)
            refine AT.big2 tOk 6 11 (by kernel_rfl) (And.intro (by kernel_rfl) ?_) (And.intro (by kernel_rfl) ?_)
            · refine LAt.runU tOk 1 (by kernel_rfl) ?_
              refine LAt.fin (by kernel_rfl) (And.intro (And.intro (by kernel_rfl) (by kernel_rfl)) ?_)
              refine AT.big2 tOk 7 11 (by kernel_rfl) (And.intro (by kernel_rfl) ?_) (And.intro (by kernel_rfl) ?_)
              · refine LAt.appMU tOk (t := 27) (ty := 27) (e := 56) (x := (.tmp 44)) (y := (.tmp 46)) (d := 47) (g := none) ⟨.st [(0, 1, 3), (1, 1, 3), (2, 1, 3)], 3, 24, [.lit (.int .i64 0), .lit (.int .i64 0), .lit (.int .i64 0)]⟩ Vrow.row (([] : List Vrow) ++ ((x0.Rows.drop ((0 : Int)).toNat).take (((y4 : Int)).toNat - ((0 : Int)).toNat))) [x1] (by kernel_rfl) (by kernel_rfl) (by kernel_rfl) (by kernel_rfl) (by kernel_rfl) (by kernel_rfl) (by kernel_rfl) (by kernel_rfl) (by kernel_rfl) (by kernel_rfl) hg7 ?_
                refine LAt.fin (by kernel_rfl) (And.intro (And.intro (by kernel_rfl) (by kernel_rfl)) ?_)
                refine AT.big1 tOk 11 (by kernel_rfl) (by kernel_rfl) ?_
                refine LAt.cutG tOk (t := 27) (ty := 27) (e := 56) (x := (.tmp 49)) (lo := (some (.tmp 50))) (hi := none) (d := 51) (g := none) ⟨.st [(0, 1, 3), (1, 1, 3), (2, 1, 3)], 3, 24, [.lit (.int .i64 0), .lit (.int .i64 0), .lit (.int .i64 0)]⟩ Vrow.row x0.Rows ⟨(.box 2), [(0, 0)], 0, false, 3, (CV.frzEs (x0.Rows.map Vrow.row))⟩ y4 (x0.Rows.length : Int) (by kernel_rfl) (by kernel_rfl) (by kernel_rfl) (by kernel_rfl) (by kernel_rfl) (by kernel_rfl) rfl (by kernel_rfl) rfl (by kernel_rfl) (by kernel_rfl) hg8 ?_
                refine LAt.fin (by kernel_rfl) (And.intro (And.intro (by kernel_rfl) (by kernel_rfl)) ?_)
                refine AT.big1 tOk 12 (by kernel_rfl) (by kernel_rfl) ?_
                refine LAt.appCU tOk (t := 27) (ty := 27) (e := 56) (x := (.tmp 47)) (y := (.tmp 51)) (d := 52) (g := none) ⟨.st [(0, 1, 3), (1, 1, 3), (2, 1, 3)], 3, 24, [.lit (.int .i64 0), .lit (.int .i64 0), .lit (.int .i64 0)]⟩ Vrow.row ((([] : List Vrow) ++ ((x0.Rows.drop ((0 : Int)).toNat).take (((y4 : Int)).toNat - ((0 : Int)).toNat))) ++ [x1]) ((x0.Rows.drop ((y4 : Int)).toNat).take ((((x0.Rows.length : Int) : Int)).toNat - ((y4 : Int)).toNat)) ⟨(.slot 51), [], 0, false, 3, (CV.frzEs (((x0.Rows.drop ((y4 : Int)).toNat).take ((((x0.Rows.length : Int) : Int)).toNat - ((y4 : Int)).toNat)).map Vrow.row))⟩ (by kernel_rfl) (by kernel_rfl) (by kernel_rfl) (by kernel_rfl) (by kernel_rfl) (by kernel_rfl) (by kernel_rfl) (by kernel_rfl) (by kernel_rfl) (by kernel_rfl) (by kernel_rfl) (.inr rfl) (fun _ => rfl) (fun _ => rfl) hg9 ?_
                refine LAt.fin (by kernel_rfl) (And.intro (And.intro (by kernel_rfl) (by kernel_rfl)) ?_)
                refine AT.runU tOk [(13, [])] 1 [⟨[11, 12, 14], 27, 48, 49⟩, ⟨[6, 7, 12, 14], 56, 3, 45⟩, ⟨[3, 4, 7, 12, 14], 27, 40, 41⟩] [13, 12, 11, 7, 6, 4, 3, 10, 9, 8, 5, 2, 1, 0] rfl (by kernel_rfl) (fun cx => ?_)
                refine AT.big1 tOk 14 (by kernel_rfl) (by kernel_rfl) ?_
                refine LAt.runU tOk 1 (by kernel_rfl) ?_
                refine LAt.fin (by kernel_rfl) (And.intro (And.intro (by kernel_rfl) (by kernel_rfl)) ?_)
                exact AT.done [5, 4] [5, 4] _ (by kernel_rfl) (by kernel_rfl) rfl
              · refine LAt.cutG tOk (t := 27) (ty := 27) (e := 56) (x := (.tmp 49)) (lo := (some (.tmp 50))) (hi := none) (d := 51) (g := none) ⟨.st [(0, 1, 3), (1, 1, 3), (2, 1, 3)], 3, 24, [.lit (.int .i64 0), .lit (.int .i64 0), .lit (.int .i64 0)]⟩ Vrow.row x0.Rows ⟨(.box 2), [(0, 0)], 0, false, 3, (CV.frzEs (x0.Rows.map Vrow.row))⟩ y4 (x0.Rows.length : Int) (by kernel_rfl) (by kernel_rfl) (by kernel_rfl) (by kernel_rfl) (by kernel_rfl) (by kernel_rfl) rfl (by kernel_rfl) rfl (by kernel_rfl) (by kernel_rfl) hg8 ?_
                refine LAt.fin (by kernel_rfl) (And.intro (And.intro (by kernel_rfl) (by kernel_rfl)) ?_)
                refine AT.big1 tOk 7 (by kernel_rfl) (by kernel_rfl) ?_
                refine LAt.appMU tOk (t := 27) (ty := 27) (e := 56) (x := (.tmp 44)) (y := (.tmp 46)) (d := 47) (g := none) ⟨.st [(0, 1, 3), (1, 1, 3), (2, 1, 3)], 3, 24, [.lit (.int .i64 0), .lit (.int .i64 0), .lit (.int .i64 0)]⟩ Vrow.row (([] : List Vrow) ++ ((x0.Rows.drop ((0 : Int)).toNat).take (((y4 : Int)).toNat - ((0 : Int)).toNat))) [x1] (by kernel_rfl) (by kernel_rfl) (by kernel_rfl) (by kernel_rfl) (by kernel_rfl) (by kernel_rfl) (by kernel_rfl) (by kernel_rfl) (by kernel_rfl) (by kernel_rfl) hg7 ?_
                refine LAt.fin (by kernel_rfl) (And.intro (And.intro (by kernel_rfl) (by kernel_rfl)) ?_)
                refine AT.big1 tOk 12 (by kernel_rfl) (by kernel_rfl) ?_
                refine LAt.appCU tOk (t := 27) (ty := 27) (e := 56) (x := (.tmp 47)) (y := (.tmp 51)) (d := 52) (g := none) ⟨.st [(0, 1, 3), (1, 1, 3), (2, 1, 3)], 3, 24, [.lit (.int .i64 0), .lit (.int .i64 0), .lit (.int .i64 0)]⟩ Vrow.row ((([] : List Vrow) ++ ((x0.Rows.drop ((0 : Int)).toNat).take (((y4 : Int)).toNat - ((0 : Int)).toNat))) ++ [x1]) ((x0.Rows.drop ((y4 : Int)).toNat).take ((((x0.Rows.length : Int) : Int)).toNat - ((y4 : Int)).toNat)) ⟨(.slot 51), [], 0, false, 3, (CV.frzEs (((x0.Rows.drop ((y4 : Int)).toNat).take ((((x0.Rows.length : Int) : Int)).toNat - ((y4 : Int)).toNat)).map Vrow.row))⟩ (by kernel_rfl) (by kernel_rfl) (by kernel_rfl) (by kernel_rfl) (by kernel_rfl) (by kernel_rfl) (by kernel_rfl) (by kernel_rfl) (by kernel_rfl) (by kernel_rfl) (by kernel_rfl) (.inr rfl) (fun _ => rfl) (fun _ => rfl) hg9 ?_
                refine LAt.fin (by kernel_rfl) (And.intro (And.intro (by kernel_rfl) (by kernel_rfl)) ?_)
                refine AT.runU tOk [(13, [])] 1 [⟨[11, 12, 14], 27, 48, 49⟩, ⟨[6, 7, 12, 14], 56, 3, 45⟩, ⟨[3, 4, 7, 12, 14], 27, 40, 41⟩] [13, 12, 7, 11, 6, 4, 3, 10, 9, 8, 5, 2, 1, 0] rfl (by kernel_rfl) (fun cx => ?_)
                refine AT.big1 tOk 14 (by kernel_rfl) (by kernel_rfl) ?_
                refine LAt.runU tOk 1 (by kernel_rfl) ?_
                refine LAt.fin (by kernel_rfl) (And.intro (And.intro (by kernel_rfl) (by kernel_rfl)) ?_)
                exact AT.done [5, 4] [5, 4] _ (by kernel_rfl) (by kernel_rfl) rfl
            · refine LAt.cutG tOk (t := 27) (ty := 27) (e := 56) (x := (.tmp 49)) (lo := (some (.tmp 50))) (hi := none) (d := 51) (g := none) ⟨.st [(0, 1, 3), (1, 1, 3), (2, 1, 3)], 3, 24, [.lit (.int .i64 0), .lit (.int .i64 0), .lit (.int .i64 0)]⟩ Vrow.row x0.Rows ⟨(.box 2), [(0, 0)], 0, false, 3, (CV.frzEs (x0.Rows.map Vrow.row))⟩ y4 (x0.Rows.length : Int) (by kernel_rfl) (by kernel_rfl) (by kernel_rfl) (by kernel_rfl) (by kernel_rfl) (by kernel_rfl) rfl (by kernel_rfl) rfl (by kernel_rfl) (by kernel_rfl) hg8 ?_
              refine LAt.fin (by kernel_rfl) (And.intro (And.intro (by kernel_rfl) (by kernel_rfl)) ?_)
              refine AT.big1 tOk 6 (by kernel_rfl) (by kernel_rfl) ?_
              refine LAt.runU tOk 1 (by kernel_rfl) ?_
              refine LAt.fin (by kernel_rfl) (And.intro (And.intro (by kernel_rfl) (by kernel_rfl)) ?_)
              refine AT.big1 tOk 7 (by kernel_rfl) (by kernel_rfl) ?_
              refine LAt.appMU tOk (t := 27) (ty := 27) (e := 56) (x := (.tmp 44)) (y := (.tmp 46)) (d := 47) (g := none) ⟨.st [(0, 1, 3), (1, 1, 3), (2, 1, 3)], 3, 24, [.lit (.int .i64 0), .lit (.int .i64 0), .lit (.int .i64 0)]⟩ Vrow.row (([] : List Vrow) ++ ((x0.Rows.drop ((0 : Int)).toNat).take (((y4 : Int)).toNat - ((0 : Int)).toNat))) [x1] (by kernel_rfl) (by kernel_rfl) (by kernel_rfl) (by kernel_rfl) (by kernel_rfl) (by kernel_rfl) (by kernel_rfl) (by kernel_rfl) (by kernel_rfl) (by kernel_rfl) hg7 ?_
              refine LAt.fin (by kernel_rfl) (And.intro (And.intro (by kernel_rfl) (by kernel_rfl)) ?_)
              refine AT.big1 tOk 12 (by kernel_rfl) (by kernel_rfl) ?_
              refine LAt.appCU tOk (t := 27) (ty := 27) (e := 56) (x := (.tmp 47)) (y := (.tmp 51)) (d := 52) (g := none) ⟨.st [(0, 1, 3), (1, 1, 3), (2, 1, 3)], 3, 24, [.lit (.int .i64 0), .lit (.int .i64 0), .lit (.int .i64 0)]⟩ Vrow.row ((([] : List Vrow) ++ ((x0.Rows.drop ((0 : Int)).toNat).take (((y4 : Int)).toNat - ((0 : Int)).toNat))) ++ [x1]) ((x0.Rows.drop ((y4 : Int)).toNat).take ((((x0.Rows.length : Int) : Int)).toNat - ((y4 : Int)).toNat)) ⟨(.slot 51), [], 0, false, 3, (CV.frzEs (((x0.Rows.drop ((y4 : Int)).toNat).take ((((x0.Rows.length : Int) : Int)).toNat - ((y4 : Int)).toNat)).map Vrow.row))⟩ (by kernel_rfl) (by kernel_rfl) (by kernel_rfl) (by kernel_rfl) (by kernel_rfl) (by kernel_rfl) (by kernel_rfl) (by kernel_rfl) (by kernel_rfl) (by kernel_rfl) (by kernel_rfl) (.inr rfl) (fun _ => rfl) (fun _ => rfl) hg9 ?_
              refine LAt.fin (by kernel_rfl) (And.intro (And.intro (by kernel_rfl) (by kernel_rfl)) ?_)
              refine AT.runU tOk [(13, [])] 1 [⟨[11, 12, 14], 27, 48, 49⟩, ⟨[6, 7, 12, 14], 56, 3, 45⟩, ⟨[3, 4, 7, 12, 14], 27, 40, 41⟩] [13, 12, 7, 6, 11, 4, 3, 10, 9, 8, 5, 2, 1, 0] rfl (by kernel_rfl) (fun cx => ?_)
              refine AT.big1 tOk 14 (by kernel_rfl) (by kernel_rfl) ?_
              refine LAt.runU tOk 1 (by kernel_rfl) ?_
              refine LAt.fin (by kernel_rfl) (And.intro (And.intro (by kernel_rfl) (by kernel_rfl)) ?_)
              exact AT.done [5, 4] [5, 4] _ (by kernel_rfl) (by kernel_rfl) rfl
          · refine LAt.runU tOk 1 (by kernel_rfl) ?_
            refine LAt.fin (by kernel_rfl) (And.intro (And.intro (by kernel_rfl) (by kernel_rfl)) ?_)
            refine AT.big2 tOk 4 11 (by kernel_rfl) (And.intro (by kernel_rfl) ?_) (And.intro (by kernel_rfl) ?_)
            · refine LAt.appCU tOk (t := 27) (ty := 27) (e := 56) (x := (.const (.slice none 0 0))) (y := (.tmp 43)) (d := 44) (g := none) ⟨.st [(0, 1, 3), (1, 1, 3), (2, 1, 3)], 3, 24, [.lit (.int .i64 0), .lit (.int .i64 0), .lit (.int .i64 0)]⟩ Vrow.row ([] : List Vrow) ((x0.Rows.drop ((0 : Int)).toNat).take (((y4 : Int)).toNat - ((0 : Int)).toNat)) ⟨(.slot 43), [], 0, false, 3, (CV.frzEs (((x0.Rows.drop ((0 : Int)).toNat).take (((y4 : Int)).toNat - ((0 : Int)).toNat)).map Vrow.row))⟩ (by kernel_rfl) (by kernel_rfl) (by kernel_rfl) (by kernel_rfl) (by kernel_rfl) (by kernel_rfl) (by kernel_rfl) (by kernel_rfl) (by kernel_rfl) (by kernel_rfl) (by kernel_rfl) (.inr rfl) (fun _ => rfl) (fun _ => rfl) hg6 ?_
              refine LAt.fin (by kernel_rfl) (And.intro (And.intro (by kernel_rfl) (by kernel_rfl)) ?_)
              refine AT.big2 tOk 7 11 (by kernel_rfl) (And.intro (by kernel_rfl) ?_) (And.intro (by kernel_rfl) ?_)
              · refine LAt.appMU tOk (t := 27) (ty := 27) (e := 56) (x := (.tmp 44)) (y := (.tmp 46)) (d := 47) (g := none) ⟨.st [(0, 1, 3), (1, 1, 3), (2, 1, 3)], 3, 24, [.lit (.int .i64 0), .lit (.int .i64 0), .lit (.int .i64 0)]⟩ Vrow.row (([] : List Vrow) ++ ((x0.Rows.drop ((0 : Int)).toNat).take (((y4 : Int)).toNat - ((0 : Int)).toNat))) [x1] (by kernel_rfl) (by kernel_rfl) (by kernel_rfl) (by kernel_rfl) (by kernel_rfl) (by kernel_rfl) (by kernel_rfl) (by kernel_rfl) (by kernel_rfl) (by kernel_rfl) hg7 ?_
                refine LAt.fin (by kernel_rfl) (And.intro (And.intro (by kernel_rfl) (by kernel_rfl)) ?_)
                refine AT.big1 tOk 11 (by kernel_rfl) (by kernel_rfl) ?_
                refine LAt.cutG tOk (t := 27) (ty := 27) (e := 56) (x := (.tmp 49)) (lo := (some (.tmp 50))) (hi := none) (d := 51) (g := none) ⟨.st [(0, 1, 3), (1, 1, 3), (2, 1, 3)], 3, 24, [.lit (.int .i64 0), .lit (.int .i64 0), .lit (.int .i64 0)]⟩ Vrow.row x0.Rows ⟨(.box 2), [(0, 0)], 0, false, 3, (CV.frzEs (x0.Rows.map Vrow.row))⟩ y4 (x0.Rows.length : Int) (by kernel_rfl) (by kernel_rfl) (by kernel_rfl) (by kernel_rfl) (by kernel_rfl) (by kernel_rfl) rfl (by kernel_rfl) rfl (by kernel_rfl) (by kernel_rfl) hg8 ?_
                refine LAt.fin (by kernel_rfl) (And.intro (And.intro (by kernel_rfl) (by kernel_rfl)) ?_)
                refine AT.big1 tOk 12 (by kernel_rfl) (by kernel_rfl) ?_
                refine LAt.appCU tOk (t := 27) (ty := 27) (e := 56) (x := (.tmp 47)) (y := (.tmp 51)) (d := 52) (g := none) ⟨.st [(0, 1, 3), (1, 1, 3), (2, 1, 3)], 3, 24, [.lit (.int .i64 0), .lit (.int .i64 0), .lit (.int .i64 0)]⟩ Vrow.row ((([] : List Vrow) ++ ((x0.Rows.drop ((0 : Int)).toNat).take (((y4 : Int)).toNat - ((0 : Int)).toNat))) ++ [x1]) ((x0.Rows.drop ((y4 : Int)).toNat).take ((((x0.Rows.length : Int) : Int)).toNat - ((y4 : Int)).toNat)) ⟨(.slot 51), [], 0, false, 3, (CV.frzEs (((x0.Rows.drop ((y4 : Int)).toNat).take ((((x0.Rows.length : Int) : Int)).toNat - ((y4 : Int)).toNat)).map Vrow.row))⟩ (by kernel_rfl) (by kernel_rfl) (by kernel_rfl) (by kernel_rfl) (by kernel_rfl) (by kernel_rfl) (by kernel_rfl) (by kernel_rfl) (by kernel_rfl) (by kernel_rfl) (by kernel_rfl) (.inr rfl) (fun _ => rfl) (fun _ => rfl) hg9 ?_
                refine LAt.fin (by kernel_rfl) (And.intro (And.intro (by kernel_rfl) (by kernel_rfl)) ?_)
                refine AT.runU tOk [(13, [])] 1 [⟨[11, 12, 14], 27, 48, 49⟩, ⟨[6, 7, 12, 14], 56, 3, 45⟩, ⟨[3, 4, 7, 12, 14], 27, 40, 41⟩] [13, 12, 11, 7, 4, 6, 3, 10, 9, 8, 5, 2, 1, 0] rfl (by kernel_rfl) (fun cx => ?_)
                refine AT.big1 tOk 14 (by kernel_rfl) (by kernel_rfl) ?_
                refine LAt.runU tOk 1 (by kernel_rfl) ?_
                refine LAt.fin (by kernel_rfl) (And.intro (And.intro (by kernel_rfl) (by kernel_rfl)) ?_)
                exact AT.done [5, 4] [5, 4] _ (by kernel_rfl) (by kernel_rfl) rfl
              · refine LAt.cutG tOk (t := 27) (ty := 27) (e := 56) (x := (.tmp 49)) (lo := (some (.tmp 50))) (hi := none) (d := 51) (g := none) ⟨.st [(0, 1, 3), (1, 1, 3), (2, 1, 3)], 3, 24, [.lit (.int .i64 0), .lit (.int .i64 0), .lit (.int .i64 0)]⟩ Vrow.row x0.Rows ⟨(.box 2), [(0, 0)], 0, false, 3, (CV.frzEs (x0.Rows.map Vrow.row))⟩ y4 (x0.Rows.length : Int) (by kernel_rfl) (by kernel_rfl) (by kernel_rfl) (by kernel_rfl) (by kernel_rfl) (by kernel_rfl) rfl (by kernel_rfl) rfl (by kernel_rfl) (by kernel_rfl) hg8 ?_
                refine LAt.fin (by kernel_rfl) (And.intro (And.intro (by kernel_rfl) (by kernel_rfl)) ?_)
                refine AT.big1 tOk 7 (by kernel_rfl) (by kernel_rfl) ?_
                refine LAt.appMU tOk (t := 27) (ty := 27) (e := 56) (x := (.tmp 44)) (y := (.tmp 46)) (d := 47) (g := none) ⟨.st [(0, 1, 3), (1, 1, 3), (2, 1, 3)], 3, 24, [.lit (.int .i64 0), .lit (.int .i64 0), .lit (.int .i64 0)]⟩ Vrow.row (([] : List Vrow) ++ ((x0.Rows.drop ((0 : Int)).toNat).take (((y4 : Int)).toNat - ((0 : Int)).toNat))) [x1] (by kernel_rfl) (by kernel_rfl) (by kernel_rfl) (by kernel_rfl) (by kernel_rfl) (by kernel_rfl) (by kernel_rfl) (by kernel_rfl) (by kernel_rfl) (by kernel_rfl) hg7 ?_
                refine LAt.fin (by kernel_rfl) (And.intro (And.intro (by kernel_rfl) (by kernel_rfl)) ?_)
                refine AT.big1 tOk 12 (by kernel_rfl) (by kernel_rfl) ?_
                refine LAt.appCU tOk (t := 27) (ty := 27) (e := 56) (x := (.tmp 47)) (y := (.tmp 51)) (d := 52) (g := none) ⟨.st [(0, 1, 3), (1, 1, 3), (2, 1, 3)], 3, 24, [.lit (.int .i64 0), .lit (.int .i64 0), .lit (.int .i64 0)]⟩ Vrow.row ((([] : List Vrow) ++ ((x0.Rows.drop ((0 : Int)).toNat).take (((y4 : Int)).toNat - ((0 : Int)).toNat))) ++ [x1]) ((x0.Rows.drop ((y4 : Int)).toNat).take ((((x0.Rows.length : Int) : Int)).toNat - ((y4 : Int)).toNat)) ⟨(.slot 51), [], 0, false, 3, (CV.frzEs (((x0.Rows.drop ((y4 : Int)).toNat).take ((((x0.Rows.length : Int) : Int)).toNat - ((y4 : Int)).toNat)).map Vrow.row))⟩ (by kernel_rfl) (by kernel_rfl) (by kernel_rfl) (by kernel_rfl) (by kernel_rfl) (by kernel_rfl) (by kernel_rfl) (by kernel_rfl) (by kernel_rfl) (by kernel_rfl) (by kernel_rfl) (.inr rfl) (fun _ => rfl) (fun _ => rfl) hg9 ?_
                refine LAt.fin (by kernel_rfl) (And.intro (And.intro (by kernel_rfl) (by kernel_rfl)) ?_)
                refine AT.runU tOk [(13, [])] 1 [⟨[11, 12, 14], 27, 48, 49⟩, ⟨[6, 7, 12, 14], 56, 3, 45⟩, ⟨[3, 4, 7, 12, 14], 27, 40, 41⟩] [13, 12, 7, 11, 4, 6, 3, 10, 9, 8, 5, 2, 1, 0] rfl (by kernel_rfl) (fun cx => ?_)
                refine AT.big1 tOk 14 (by kernel_rfl) (by kernel_rfl) ?_
                refine LAt.runU tOk 1 (by kernel_rfl) ?_
                refine LAt.fin (by kernel_rfl) (And.intro (And.intro (by kernel_rfl) (by kernel_rfl)) ?_)
                exact AT.done [5, 4] [5, 4] _ (by kernel_rfl) (by kernel_rfl) rfl
            · refine LAt.cutG tOk (t := 27) (ty := 27) (e := 56) (x := (.tmp 49)) (lo := (some (.tmp 50))) (hi := none) (d := 51) (g := none) ⟨.st [(0, 1, 3), (1, 1, 3), (2, 1, 3)], 3, 24, [.lit (.int .i64 0), .lit (.int .i64 0), .lit (.int .i64 0)]⟩ Vrow.row x0.Rows ⟨(.box 2), [(0, 0)], 0, false, 3, (CV.frzEs (x0.Rows.map Vrow.row))⟩ y4 (x0.Rows.length : Int) (by kernel_rfl) (by kernel_rfl) (by kernel_rfl) (by kernel_rfl) (by kernel_rfl) (by kernel_rfl) rfl (by kernel_rfl) rfl (by kernel_rfl) (by kernel_rfl) hg8 ?_
              refine LAt.fin (by kernel_rfl) (And.intro (And.intro (by kernel_rfl) (by kernel_rfl)) ?_)
              refine AT.big1 tOk 4 (by kernel_rfl) (by kernel_rfl) ?_
              refine LAt.appCU tOk (t := 27) (ty := 27) (e := 56) (x := (.const (.slice none 0 0))) (y := (.tmp 43)) (d := 44) (g := none) ⟨.st [(0, 1, 3), (1, 1, 3), (2, 1, 3)], 3, 24, [.lit (.int .i64 0), .lit (.int .i64 0), .lit (.int .i64 0)]⟩ Vrow.row ([] : List Vrow) ((x0.Rows.drop ((0 : Int)).toNat).take (((y4 : Int)).toNat - ((0 : Int)).toNat)) ⟨(.slot 43), [], 0, false, 3, (CV.frzEs (((x0.Rows.drop ((0 : Int)).toNat).take (((y4 : Int)).toNat - ((0 : Int)).toNat)).map Vrow.row))⟩ (by kernel_rfl) (by kernel_rfl) (by kernel_rfl) (by kernel_rfl) (by kernel_rfl) (by kernel_rfl) (by kernel_rfl) (by kernel_rfl) (by kernel_rfl) (by kernel_rfl) (by kernel_rfl) (.inr rfl) (fun _ => rfl) (fun _ => rfl) hg6 ?_
              refine LAt.fin (by kernel_rfl) (And.intro (And.intro (by kernel_rfl) (by kernel_rfl)) ?_)
              refine AT.big1 tOk 7 (by kernel_rfl) (by kernel_rfl) ?_
              refine LAt.appMU tOk (t := 27) (ty := 27) (e := 56) (x := (.tmp 44)) (y := (.tmp 46)) (d := 47) (g := none) ⟨.st [(0, 1, 3), (1, 1, 3), (2, 1, 3)], 3, 24, [.lit (.int .i64 0), .lit (.int .i64 0), .lit (.int .i64 0)]⟩ Vrow.row (([] : List Vrow) ++ ((x0.Rows.drop ((0 : Int)).toNat).take (((y4 : Int)).toNat - ((0 : Int)).toNat))) [x1] (by kernel_rfl) (by kernel_rfl) (by kernel_rfl) (by kernel_rfl) (by kernel_rfl) (by kernel_rfl) (by kernel_rfl) (by kernel_rfl) (by kernel_rfl) (by kernel_rfl) hg7 ?_
              refine LAt.fin (by kernel_rfl) (And.intro (And.intro (by kernel_rfl) (by kernel_rfl)) ?_)
              refine AT.big1 tOk 12 (by kernel_rfl) (by kernel_rfl) ?_
              refine LAt.appCU tOk (t := 27) (ty := 27) (e := 56) (x := (.tmp 47)) (y := (.tmp 51)) (d := 52) (g := none) ⟨.st [(0, 1, 3), (1, 1, 3), (2, 1, 3)], 3, 24, [.lit (.int .i64 0), .lit (.int .i64 0), .lit (.int .i64 0)]⟩ Vrow.row ((([] : List Vrow) ++ ((x0.Rows.drop ((0 : Int)).toNat).take (((y4 : Int)).toNat - ((0 : Int)).toNat))) ++ [x1]) ((x0.Rows.drop ((y4 : Int)).toNat).take ((((x0.Rows.length : Int) : Int)).toNat - ((y4 : Int)).toNat)) ⟨(.slot 51), [], 0, false, 3, (CV.frzEs (((x0.Rows.drop ((y4 : Int)).toNat).take ((((x0.Rows.length : Int) : Int)).toNat - ((y4 : Int)).toNat)).map Vrow.row))⟩ (by kernel_rfl) (by kernel_rfl) (by kernel_rfl) (by kernel_rfl) (by kernel_rfl) (by kernel_rfl) (by kernel_rfl) (by kernel_rfl) (by kernel_rfl) (by kernel_rfl) (by kernel_rfl) (.inr rfl) (fun _ => rfl) (fun _ => rfl) hg9 ?_
              refine LAt.fin (by kernel_rfl) (And.intro (And.intro (by kernel_rfl) (by kernel_rfl)) ?_)
              refine AT.runU tOk [(13, [])] 1 [⟨[11, 12, 14], 27, 48, 49⟩, ⟨[6, 7, 12, 14], 56, 3, 45⟩, ⟨[3, 4, 7, 12, 14], 27, 40, 41⟩] [13, 12, 7, 4, 11, 6, 3, 10, 9, 8, 5, 2, 1, 0] rfl (by kernel_rfl) (fun cx => ?_)
              refine AT.big1 tOk 14 (by kernel_rfl) (by kernel_rfl) ?_
              refine LAt.runU tOk 1 (by kernel_rfl) ?_
              refine LAt.fin (by kernel_rfl) (And.intro (And.intro (by kernel_rfl) (by kernel_rfl)) ?_)
              exact AT.done [5, 4] [5, 4] _ (by kernel_rfl) (by kernel_rfl) rfl
          · refine LAt.cutG tOk (t := 27) (ty := 27) (e := 56) (x := (.tmp 49)) (lo := (some (.tmp 50))) (hi := none) (d := 51) (g := none) ⟨.st [(0, 1, 3), (1, 1, 3), (2, 1, 3)], 3, 24, [.lit (.int .i64 0), .lit (.int .i64 0), .lit (.int .i64 0)]⟩ Vrow.row x0.Rows ⟨(.box 2), [(0, 0)], 0, false, 3, (CV.frzEs (x0.Rows.map Vrow.row))⟩ y4 (x0.Rows.length : Int) (by kernel_rfl) (by kernel_rfl) (by kernel_rfl) (by kernel_rfl) (by kernel_rfl) (by kernel_rfl) rfl (by kernel_rfl) rfl (by kernel_rfl) (by kernel_rfl) hg8 ?_
            refine LAt.fin (by kernel_rfl) (And.intro (And.intro (by kernel_rfl) (by kernel_rfl)) ?_)
            refine AT.big2 tOk 4 6 (by kernel_rfl) (And.intro (by kernel_rfl) ?_) (And.intro (by kernel_rfl) ?_)
            · refine LAt.appCU tOk (t := 27) (ty := 27) (e := 56) (x := (.const (.slice none 0 0))) (y := (.tmp 43)) (d := 44) (g := none) ⟨.st [(0, 1, 3), (1, 1, 3), (2, 1, 3)], 3, 24, [.lit (.int .i64 0), .lit (.int .i64 0), .lit (.int .i64 0)]⟩ Vrow.row ([] : List Vrow) ((x0.Rows.drop ((0 : Int)).toNat).take (((y4 : Int)).toNat - ((0 : Int)).toNat)) ⟨(.slot 43), [], 0, false, 3, (CV.frzEs (((x0.Rows.drop ((0 : Int)).toNat).take (((y4 : Int)).toNat - ((0 : Int)).toNat)).map Vrow.row))⟩ (by kernel_rfl) (by kernel_rfl) (by kernel_rfl) (by kernel_rfl) (by kernel_rfl) (by kernel_rfl) (by kernel_rfl) (by kernel_rfl) (by kernel_rfl) (by kernel_rfl) (by kernel_rfl) (.inr rfl) (fun _ => rfl) (fun _ => rfl) hg6 ?_
              refine LAt.fin (by kernel_rfl) (And.intro (And.intro (by kernel_rfl) (by kernel_rfl)) ?_)
              refine AT.big1 tOk 6 (by kernel_rfl) (by kernel_rfl) ?_
              refine LAt.runU tOk 1 (by kernel_rfl) ?_
              refine LAt.fin (by kernel_rfl) (And.intro (And.intro (by kernel_rfl) (by kernel_rfl)) ?_)
              refine AT.big1 tOk 7 (by kernel_rfl) (by kernel_rfl) ?_
              refine LAt.appMU tOk (t := 27) (ty := 27) (e := 56) (x := (.tmp 44)) (y := (.tmp 46)) (d := 47) (g := none) ⟨.st [(0, 1, 3), (1, 1, 3), (2, 1, 3)], 3, 24, [.lit (.int .i64 0), .lit (.int .i64 0), .lit (.int .i64 0)]⟩ Vrow.row (([] : List Vrow) ++ ((x0.Rows.drop ((0 : Int)).toNat).take (((y4 : Int)).toNat - ((0 : Int)).toNat))) [x1] (by kernel_rfl) (by kernel_rfl) (by kernel_rfl) (by kernel_rfl) (by kernel_rfl) (by kernel_rfl) (by kernel_rfl) (by kernel_rfl) (by kernel_rfl) (by kernel_rfl) hg7 ?_
              refine LAt.fin (by kernel_rfl) (And.intro (And.intro (by kernel_rfl) (by kernel_rfl)) ?_)
              refine AT.big1 tOk 12 (by kernel_rfl) (by kernel_rfl) ?_
              refine LAt.appCU tOk (t := 27) (ty := 27) (e := 56) (x := (.tmp 47)) (y := (.tmp 51)) (d := 52) (g := none) ⟨.st [(0, 1, 3), (1, 1, 3), (2, 1, 3)], 3, 24, [.lit (.int .i64 0), .lit (.int .i64 0), .lit (.int .i64 0)]⟩ Vrow.row ((([] : List Vrow) ++ ((x0.Rows.drop ((0 : Int)).toNat).take (((y4 : Int)).toNat - ((0 : Int)).toNat))) ++ [x1]) ((x0.Rows.drop ((y4 : Int)).toNat).take ((((x0.Rows.length : Int) : Int)).toNat - ((y4 : Int)).toNat)) ⟨(.slot 51), [], 0, false, 3, (CV.frzEs (((x0.Rows.drop ((y4 : Int)).toNat).take ((((x0.Rows.length : Int) : Int)).toNat - ((y4 : Int)).toNat)).map Vrow.row))⟩ (by kernel_rfl) (by kernel_rfl) (by kernel_rfl) (by kernel_rfl) (by kernel_rfl) (by kernel_rfl) (by kernel_rfl) (by kernel_rfl) (by kernel_rfl) (by kernel_rfl) (by kernel_rfl) (.inr rfl) (fun _ => rfl) (fun _ => rfl) hg9 ?_
              refine LAt.fin (by kernel_rfl) (And.intro (And.intro (by kernel_rfl) (by kernel_rfl)) ?_)
              refine AT.runU tOk [(13, [])] 1 [⟨[11, 12, 14], 27, 48, 49⟩, ⟨[6, 7, 12, 14], 56, 3, 45⟩, ⟨[3, 4, 7, 12, 14], 27, 40, 41⟩] [13, 12, 7, 6, 4, 11, 3, 10, 9, 8, 5, 2, 1, 0] rfl (by kernel_rfl) (fun cx => ?_)
              refine AT.big1 tOk 14 (by kernel_rfl) (by kernel_rfl) ?_
              refine LAt.runU tOk 1 (by kernel_rfl) ?_
              refine LAt.fin (by kernel_rfl) (And.intro (And.intro (by kernel_rfl) (by kernel_rfl)) ?_)
              exact AT.done [5, 4] [5, 4] _ (by kernel_rfl) (by kernel_rfl) rfl
            · refine LAt.runU tOk 1 (by kernel_rfl) ?_
              refine LAt.fin (by kernel_rfl) (And.intro (And.intro (by kernel_rfl) (by kernel_rfl)) ?_)
              refine AT.big1 tOk 4 (by kernel_rfl) (by kernel_rfl) ?_
              refine LAt.appCU tOk (t := 27) (ty := 27) (e := 56) (x := (.const (.slice none 0 0))) (y := (.tmp 43)) (d := 44) (g := none) ⟨.st [(0, 1, 3), (1, 1, 3), (2, 1, 3)], 3, 24, [.lit (.int .i64 0), .lit (.int .i64 0), .lit (.int .i64 0)]⟩ Vrow.row ([] : List Vrow) ((x0.Rows.drop ((0 : Int)).toNat).take (((y4 : Int)).toNat - ((0 : Int)).toNat)) ⟨(.slot 43), [], 0, false, 3, (CV.frzEs (((x0.Rows.drop ((0 : Int)).toNat).take (((y4 : Int)).toNat - ((0 : Int)).toNat)).map Vrow.row))⟩ (by kernel_rfl) (by kernel_rfl) (by kernel_rfl) (by kernel_rfl) (by kernel_rfl) (by kernel_rfl) (by kernel_rfl) (by kernel_rfl) (by kernel_rfl) (by kernel_rfl) (by kernel_rfl) (.inr rfl) (fun _ => rfl) (fun _ => rfl) hg6 ?_
              refine LAt.fin (by kernel_rfl) (And.intro (And.intro (by kernel_rfl) (by kernel_rfl)) ?_)
              refine AT.big1 tOk 7 (by kernel_rfl) (by kernel_rfl) ?_
              refine LAt.appMU tOk (t := 27) (ty := 27) (e := 56) (x := (.tmp 44)) (y := (.tmp 46)) (d := 47) (g := none) ⟨.st [(0, 1, 3), (1, 1, 3), (2, 1, 3)], 3, 24, [.lit (.int .i64 0), .lit (.int .i64 0), .lit (.int .i64 0)]⟩ Vrow.row (([] : List Vrow) ++ ((x0.Rows.drop ((0 : Int)).toNat).take (((y4 : Int)).toNat - ((0 : Int)).toNat))) [x1] (by kernel_rfl) (by kernel_rfl) (by kernel_rfl) (by kernel_rfl) (by kernel_rfl) (by kernel_rfl) (by kernel_rfl) (by kernel_rfl) (by kernel_rfl) (by kernel_rfl) hg7 ?_
              refine LAt.fin (by kernel_rfl) (And.intro (And.intro (by kernel_rfl) (by kernel_rfl)) ?_)
              refine AT.big1 tOk 12 (by kernel_rfl) (by kernel_rfl) ?_
              refine LAt.appCU tOk (t := 27) (ty := 27) (e := 56) (x := (.tmp 47)) (y := (.tmp 51)) (d := 52) (g := none) ⟨.st [(0, 1, 3), (1, 1, 3), (2, 1, 3)], 3, 24, [.lit (.int .i64 0), .lit (.int .i64 0), .lit (.int .i64 0)]⟩ Vrow.row ((([] : List Vrow) ++ ((x0.Rows.drop ((0 : Int)).toNat).take (((y4 : Int)).toNat - ((0 : Int)).toNat))) ++ [x1]) ((x0.Rows.drop ((y4 : Int)).toNat).take ((((x0.Rows.length : Int) : Int)).toNat - ((y4 : Int)).toNat)) ⟨(.slot 51), [], 0, false, 3, (CV.frzEs (((x0.Rows.drop ((y4 : Int)).toNat).take ((((x0.Rows.length : Int) : Int)).toNat - ((y4 : Int)).toNat)).map Vrow.row))⟩ (by kernel_rfl) (by kernel_rfl) (by kernel_rfl) (by kernel_rfl) (by kernel_rfl) (by kernel_rfl) (by kernel_rfl) (by kernel_rfl) (by kernel_rfl) (by kernel_rfl) (by kernel_rfl) (.inr rfl) (fun _ => rfl) (fun _ => rfl) hg9 ?_
              refine LAt.fin (by kernel_rfl) (And.intro (And.intro (by kernel_rfl) (by kernel_rfl)) ?_)
              refine AT.runU tOk [(13, [])] 1 [⟨[11, 12, 14], 27, 48, 49⟩, ⟨[6, 7, 12, 14], 56, 3, 45⟩, ⟨[3, 4, 7, 12, 14], 27, 40, 41⟩] [13, 12, 7, 4, 6, 11, 3, 10, 9, 8, 5, 2, 1, 0] rfl (by kernel_rfl) (fun cx => ?_)
              refine AT.big1 tOk 14 (by kernel_rfl) (by kernel_rfl) ?_
              refine LAt.runU tOk 1 (by kernel_rfl) ?_
              refine LAt.fin (by kernel_rfl) (And.intro (And.intro (by kernel_rfl) (by kernel_rfl)) ?_)
              exact AT.done [5, 4] [5, 4] _ (by kernel_rfl) (by kernel_rfl) rfl
        · refine LAt.runU tOk 1 (by kernel_rfl) ?_
          refine LAt.fin (by kernel_rfl) (And.intro (And.intro (by kernel_rfl) (by kernel_rfl)) ?_)
          refine AT.big2 tOk 3 11 (by kernel_rfl) (And.intro (by kernel_rfl) ?_) (And.intro (by kernel_rfl) ?_)
          · refine LAt.cutG tOk (t := 27) (ty := 27) (e := 56) (x := (.tmp 41)) (lo := none) (hi := (some (.tmp 42))) (d := 43) (g := none) ⟨.st [(0, 1, 3), (1, 1, 3), (2, 1, 3)], 3, 24, [.lit (.int .i64 0), .lit (.int .i64 0), .lit (.int .i64 0)]⟩ Vrow.row x0.Rows ⟨(.box 2), [(0, 0)], 0, false, 3, (CV.frzEs (x0.Rows.map Vrow.row))⟩ 0 y4 (by kernel_rfl) (by kernel_rfl) (by kernel_rfl) (by kernel_rfl) (by kernel_rfl) (by kernel_rfl) rfl (by kernel_rfl) rfl (by kernel_rfl) (by kernel_rfl) hg5 ?_
            refine LAt.fin (by kernel_rfl) (And.intro (And.intro (by kernel_rfl) (by kernel_rfl)) ?_)
            refine AT.big2 tOk 4 11 (by kernel_rfl) (And.intro (by kernel_rfl) ?_) (And.intro (by kernel_rfl) ?_)
            · refine LAt.appCU tOk (t := 27) (ty := 27) (e := 56) (x := (.const (.slice none 0 0))) (y := (.tmp 43)) (d := 44) (g := none) ⟨.st [(0, 1, 3), (1, 1, 3), (2, 1, 3)], 3, 24, [.lit (.int .i64 0), .lit (.int .i64 0), .lit (.int .i64 0)]⟩ Vrow.row ([] : List Vrow) ((x0.Rows.drop ((0 : Int)).toNat).take (((y4 : Int)).toNat - ((0 : Int)).toNat)) ⟨(.slot 43), [], 0, false, 3, (CV.frzEs (((x0.Rows.drop ((0 : Int)).toNat).take (((y4 : Int)).toNat - ((0 : Int)).toNat)).map Vrow.row))⟩ (by kernel_rfl) (by kernel_rfl) (by kernel_rfl) (by kernel_rfl) (by kernel_rfl) (by kernel_rfl) (by kernel_rfl) (by kernel_rfl) (by kernel_rfl) (by kernel_rfl) (by kernel_rfl) (.inr rfl) (fun _ => rfl) (fun _ => rfl) hg6 ?_
              refine LAt.fin (by kernel_rfl) (And.intro (And.intro (by kernel_rfl) (by kernel_rfl)) ?_)
              refine AT.big2 tOk 7 11 (by kernel_rfl) (And.intro (by kernel_rfl) ?_) (And.intro (by kernel_rfl) ?_)
              · refine LAt.appMU tOk (t := 27) (ty := 27) (e := 56) (x := (.tmp 44)) (y := (.tmp 46)) (d := 47) (g := none) ⟨.st [(0, 1, 3), (1, 1, 3), (2, 1, 3)], 3, 24, [.lit (.int .i64 0), .lit (.int .i64 0), .lit (.int .i64 0)]⟩ Vrow.row (([] : List Vrow) ++ ((x0.Rows.drop ((0 : Int)).toNat).take (((y4 : Int)).toNat - ((0 : Int)).toNat))) [x1] (by kernel_rfl) (by kernel_rfl) (by kernel_rfl) (by kernel_rfl) (by kernel_rfl) (by kernel_rfl) (by kernel_rfl) (by kernel_rfl) (by kernel_rfl) (by kernel_rfl) hg7 ?_
                refine LAt.fin (by kernel_rfl) (And.intro (And.intro (by kernel_rfl) (by kernel_rfl)) ?_)
                refine AT.big1 tOk 11 (by kernel_rfl) (by kernel_rfl) ?_
                refine LAt.cutG tOk (t := 27) (ty := 27) (e := 56) (x := (.tmp 49)) (lo := (some (.tmp 50))) (hi := none) (d := 51) (g := none) ⟨.st [(0, 1, 3), (1, 1, 3), (2, 1, 3)], 3, 24, [.lit (.int .i64 0), .lit (.int .i64 0), .lit (.int .i64 0)]⟩ Vrow.row x0.Rows ⟨(.box 2), [(0, 0)], 0, false, 3, (CV.frzEs (x0.Rows.map Vrow.row))⟩ y4 (x0.Rows.length : Int) (by kernel_rfl) (by kernel_rfl) (by kernel_rfl) (by kernel_rfl) (by kernel_rfl) (by kernel_rfl) rfl (by kernel_rfl) rfl (by kernel_rfl) (by kernel_rfl) hg8 ?_
                refine LAt.fin (by kernel_rfl) (And.intro (And.intro (by kernel_rfl) (by kernel_rfl)) ?_)
                refine AT.big1 tOk 12 (by kernel_rfl) (by kernel_rfl) ?_
                refine LAt.appCU tOk (t := 27) (ty := 27) (e := 56) (x := (.tmp 47)) (y := (.tmp 51)) (d := 52) (g := none) ⟨.st [(0, 1, 3), (1, 1, 3), (2, 1, 3)], 3, 24, [.lit (.int .i64 0), .lit (.int .i64 0), .lit (.int .i64 0)]⟩ Vrow.row ((([] : List Vrow) ++ ((x0.Rows.drop ((0 : Int)).toNat).take (((y4 : Int)).toNat - ((0 : Int)).toNat))) ++ [x1]) ((x0.Rows.drop ((y4 : Int)).toNat).take ((((x0.Rows.length : Int) : Int)).toNat - ((y4 : Int)).toNat)) ⟨(.slot 51), [], 0, false, 3, (CV.frzEs (((x0.Rows.drop ((y4 : Int)).toNat).take ((((x0.Rows.length : Int) : Int)).toNat - ((y4 : Int)).toNat)).map Vrow.row))⟩ (by kernel_rfl) (by kernel_rfl) (by kernel_rfl) (by kernel_rfl) (by kernel_rfl) (by kernel_rfl) (by kernel_rfl) (by kernel_rfl) (by kernel_rfl) (by kernel_rfl) (by kernel_rfl) (.inr rfl) (fun _ => rfl) (fun _ => rfl) hg9 ?_
                refine LAt.fin (by kernel_rfl) (And.intro (And.intro (by kernel_rfl) (by kernel_rfl)) ?_)
                refine AT.runU tOk [(13, [])] 1 [⟨[11, 12, 14], 27, 48, 49⟩, ⟨[6, 7, 12, 14], 56, 3, 45⟩, ⟨[3, 4, 7, 12, 14], 27, 40, 41⟩] [13, 12, 11, 7, 4, 3, 6, 10, 9, 8, 5, 2, 1, 0] rfl (by kernel_rfl) (fun cx => ?_)
                refine AT.big1 tOk 14 (by kernel_rfl) (by kernel_rfl) ?_
                refine LAt.runU tOk 1 (by kernel_rfl) ?_
                refine LAt.fin (by kernel_rfl) (And.intro (And.intro (by kernel_rfl) (by kernel_rfl)) ?_)
                exact AT.done [5, 4] [5, 4] _ (by kernel_rfl) (by kernel_rfl) rfl
              · refine LAt.cutG tOk (t := 27) (ty := 27) (e := 56) (x := (.tmp 49)) (lo := (some (.tmp 50))) (hi := none) (d := 51) (g := none) ⟨.st [(0, 1, 3), (1, 1, 3), (2, 1, 3)], 3, 24, [.lit (.int .i64 0), .lit (.int .i64 0), .lit (.int .i64 0)]⟩ Vrow.row x0.Rows ⟨(.box 2), [(0, 0)], 0, false, 3, (CV.frzEs (x0.Rows.map Vrow.row))⟩ y4 (x0.Rows.length : Int) (by kernel_rfl) (by kernel_rfl) (by kernel_rfl) (by kernel_rfl) (by kernel_rfl) (by kernel_rfl) rfl (by kernel_rfl) rfl (by kernel_rfl) (by kernel_rfl) hg8 ?_
                refine LAt.fin (by kernel_rfl) (And.intro (And.intro (by kernel_rfl) (by kernel_rfl)) ?_)
                refine AT.big1 tOk 7 (by kernel_rfl) (by kernel_rfl) ?_
                refine LAt.appMU tOk (t := 27) (ty := 27) (e := 56) (x := (.tmp 44)) (y := (.tmp 46)) (d := 47) (g := none) ⟨.st [(0, 1, 3), (1, 1, 3), (2, 1, 3)], 3, 24, [.lit (.int .i64 0), .lit (.int .i64 0), .lit (.int .i64 0)]⟩ Vrow.row (([] : List Vrow) ++ ((x0.Rows.drop ((0 : Int)).toNat).take (((y4 : Int)).toNat - ((0 : Int)).toNat))) [x1] (by kernel_rfl) (by kernel_rfl) (by kernel_rfl) (by kernel_rfl) (by kernel_rfl) (by kernel_rfl) (by kernel_rfl) (by kernel_rfl) (by kernel_rfl) (by kernel_rfl) hg7 ?_
                refine LAt.fin (by kernel_rfl) (And.intro (And.intro (by kernel_rfl) (by kernel_rfl)) ?_)
                refine AT.big1 tOk 12 (by kernel_rfl) (by kernel_rfl) ?_
                refine LAt.appCU tOk (t := 27) (ty := 27) (e := 56) (x := (.tmp 47)) (y := (.tmp 51)) (d := 52) (g := none) ⟨.st [(0, 1, 3), (1, 1, 3), (2, 1, 3)], 3, 24, [.lit (.int .i64 0), .lit (.int .i64 0), .lit (.int .i64 0)]⟩ Vrow.row ((([] : List Vrow) ++ ((x0.Rows.drop ((0 : Int)).toNat).take (((y4 : Int)).toNat - ((0 : Int)).toNat))) ++ [x1]) ((x0.Rows.drop ((y4 : Int)).toNat).take ((((x0.Rows.length : Int) : Int)).toNat - ((y4 : Int)).toNat)) ⟨(.slot 51), [], 0, false, 3, (CV.frzEs (((x0.Rows.drop ((y4 : Int)).toNat).take ((((x0.Rows.length : Int) : Int)).toNat - ((y4 : Int)).toNat)).map Vrow.row))⟩ (by kernel_rfl) (by kernel_rfl) (by kernel_rfl) (by kernel_rfl) (by kernel_rfl) (by kernel_rfl) (by kernel_rfl) (by kernel_rfl) (by kernel_rfl) (by kernel_rfl) (by kernel_rfl) (.inr rfl) (fun _ => rfl) (fun _ => rfl) hg9 ?_
                refine LAt.fin (by kernel_rfl) (And.intro (And.intro (by kernel_rfl) (by kernel_rfl)) ?_)
                refine AT.runU tOk [(13, [])] 1 [⟨[11, 12, 14], 27, 48, 49⟩, ⟨[6, 7, 12, 14], 56, 3, 45⟩, ⟨[3, 4, 7, 12, 14], 27, 40, 41⟩] [13, 12, 7, 11, 4, 3, 6, 10, 9, 8, 5, 2, 1, 0] rfl (by kernel_rfl) (fun cx => ?_)
                refine AT.big1 tOk 14 (by kernel_rfl) (by kernel_rfl) ?_
                refine LAt.runU tOk 1 (by kernel_rfl) ?_
                refine LAt.fin (by kernel_rfl) (And.intro (And.intro (by kernel_rfl) (by kernel_rfl)) ?_)
                exact AT.done [5, 4] [5, 4] _ (by kernel_rfl) (by kernel_rfl) rfl
            · refine LAt.cutG tOk (t := 27) (ty := 27) (e := 56) (x := (.tmp 49)) (lo := (some (.tmp 50))) (hi := none) (d := 51) (g := none) ⟨.st [(0, 1, 3), (1, 1, 3), (2, 1, 3)], 3, 24, [.lit (.int .i64 0), .lit (.int .i64 0), .lit (.int .i64 0)]⟩ Vrow.row x0.Rows ⟨(.box 2), [(0, 0)], 0, false, 3, (CV.frzEs (x0.Rows.map Vrow.row))⟩ y4 (x0.Rows.length : Int) (by kernel_rfl) (by kernel_rfl) (by kernel_rfl) (by kernel_rfl) (by kernel_rfl) (by kernel_rfl) rfl (by kernel_rfl) rfl (by kernel_rfl) (by kernel_rfl) hg8 ?_
              refine LAt.fin (by kernel_rfl) (And.intro (And.intro (by kernel_rfl) (by kernel_rfl)) ?_)
              refine AT.big1 tOk 4 (by kernel_rfl) (by kernel_rfl) ?_
              refine LAt.appCU tOk (t := 27) (ty := 27) (e := 56) (x := (.const (.slice none 0 0))) (y := (.tmp 43)) (d := 44) (g := none) ⟨.st [(0, 1, 3), (1, 1, 3), (2, 1, 3)], 3, 24, [.lit (.int .i64 0), .lit (.int .i64 0), .lit (.int .i64 0)]⟩ Vrow.row ([] : List Vrow) ((x0.Rows.drop ((0 : Int)).toNat).take (((y4 : Int)).toNat - ((0 : Int)).toNat)) ⟨(.slot 43), [], 0, false, 3, (CV.frzEs (((x0.Rows.drop ((0 : Int)).toNat).take (((y4 : Int)).toNat - ((0 : Int)).toNat)).map Vrow.row))⟩ (by kernel_rfl) (by kernel_rfl) (by kernel_rfl) (by kernel_rfl) (by kernel_rfl) (by kernel_rfl) (by kernel_rfl) (by kernel_rfl) (by kernel_rfl) (by kernel_rfl) (by kernel_rfl) (.inr rfl) (fun _ => rfl) (fun _ => rfl) hg6 ?_
              refine LAt.fin (by kernel_rfl) (And.intro (And.intro (by kernel_rfl) (by kernel_rfl)) ?_)
              refine AT.big1 tOk 7 (by kernel_rfl) (by kernel_rfl) ?_
              refine LAt.appMU tOk (t := 27) (ty := 27) (e := 56) (x := (.tmp 44)) (y := (.tmp 46)) (d := 47) (g := none) ⟨.st [(0, 1, 3), (1, 1, 3), (2, 1, 3)], 3, 24, [.lit (.int .i64 0), .lit (.int .i64 0), .lit (.int .i64 0)]⟩ Vrow.row (([] : List Vrow) ++ ((x0.Rows.drop ((0 : Int)).toNat).take (((y4 : Int)).toNat - ((0 : Int)).toNat))) [x1] (by kernel_rfl) (by kernel_rfl) (by kernel_rfl) (by kernel_rfl) (by kernel_rfl) (by kernel_rfl) (by kernel_rfl) (by kernel_rfl) (by kernel_rfl) (by kernel_rfl) hg7 ?_
              refine LAt.fin (by kernel_rfl) (And.intro (And.intro (by kernel_rfl) (by kernel_rfl)) ?_)
              refine AT.big1 tOk 12 (by kernel_rfl) (by kernel_rfl) ?_
              refine LAt.appCU tOk (t := 27) (ty := 27) (e := 56) (x := (.tmp 47)) (y := (.tmp 51)) (d := 52) (g := none) ⟨.st [(0, 1, 3), (1, 1, 3), (2, 1, 3)], 3, 24, [.lit (.int .i64 0), .lit (.int .i64 0), .lit (.int .i64 0)]⟩ Vrow.row ((([] : List Vrow) ++ ((x0.Rows.drop ((0 : Int)).toNat).take (((y4 : Int)).toNat - ((0 : Int)).toNat))) ++ [x1]) ((x0.Rows.drop ((y4 : Int)).toNat).take ((((x0.Rows.length : Int) : Int)).toNat - ((y4 : Int)).toNat)) ⟨(.slot 51), [], 0, false, 3, (CV.frzEs (((x0.Rows.drop ((y4 : Int)).toNat).take ((((x0.Rows.length : Int) : Int)).toNat - ((y4 : Int)).toNat)).map Vrow.row))⟩ (by kernel_rfl) (by kernel_rfl) (by kernel_rfl) (by kernel_rfl) (by kernel_rfl) (by kernel_rfl) (by kernel_rfl) (by kernel_rfl) (by kernel_rfl) (by kernel_rfl) (by kernel_rfl) (.inr rfl) (fun _ => rfl) (fun _ => rfl) hg9 ?_
              refine LAt.fin (by kernel_rfl) (And.intro (And.intro (by kernel_rfl) (by kernel_rfl)) ?_)
              refine AT.runU tOk [(13, [])] 1 [⟨[11, 12, 14], 27, 48, 49⟩, ⟨[6, 7, 12, 14], 56, 3, 45⟩, ⟨[3, 4, 7, 12, 14], 27, 40, 41⟩] [13, 12, 7, 4, 11, 3, 6, 10, 9, 8, 5, 2, 1, 0] rfl (by kernel_rfl) (fun cx => ?_)
              refine AT.big1 tOk 14 (by kernel_rfl) (by kernel_rfl) ?_
              refine LAt.runU tOk 1 (by kernel_rfl) ?_
              refine LAt.fin (by kernel_rfl) (And.intro (And.intro (by kernel_rfl) (by kernel_rfl)) ?_)
              exact AT.done [5, 4] [5, 4] _ (by kernel_rfl) (by kernel_rfl) rfl
          · refine LAt.cutG tOk (t := 27) (ty := 27) (e := 56) (x := (.tmp 49)) (lo := (some (.tmp 50))) (hi := none) (d := 51) (g := none) ⟨.st [(0, 1, 3), (1, 1, 3), (2, 1, 3)], 3, 24, [.lit (.int .i64 0), .lit (.int .i64 0), .lit (.int .i64 0)]⟩ Vrow.row x0.Rows ⟨(.box 2), [(0, 0)], 0, false, 3, (CV.frzEs (x0.Rows.map Vrow.row))⟩ y4 (x0.Rows.length : Int) (by kernel_rfl) (by kernel_rfl) (by kernel_rfl) (by kernel_rfl) (by kernel_rfl) (by kernel_rfl) rfl (by kernel_rfl) rfl (by kernel_rfl) (by kernel_rfl) hg8 ?_
            refine LAt.fin (by kernel_rfl) (And.intro (And.intro (by kernel_rfl) (by kernel_rfl)) ?_)
            refine AT.big1 tOk 3 (by kernel_rfl) (by kernel_rfl) ?_
            refine LAt.cutG tOk (t := 27) (ty := 27) (e := 56) (x := (.tmp 41)) (lo := none) (hi := (some (.tmp 42))) (d := 43) (g := none) ⟨.st [(0, 1, 3), (1, 1, 3), (2, 1, 3)], 3, 24, [.lit (.int .i64 0), .lit (.int .i64 0), .lit (.int .i64 0)]⟩ Vrow.row x0.Rows ⟨(.box 2), [(0, 0)], 0, false, 3, (CV.frzEs (x0.Rows.map Vrow.row))⟩ 0 y4 (by kernel_rfl) (by kernel_rfl) (by kernel_rfl) (by kernel_rfl) (by kernel_rfl) (by kernel_rfl) rfl (by kernel_rfl) rfl (by kernel_rfl) (by kernel_rfl) hg5 ?_
            refine LAt.fin (by kernel_rfl) (And.intro (And.intro (by kernel_rfl) (by kernel_rfl)) ?_)
            refine AT.big1 tOk 4 (by kernel_rfl) (by kernel_rfl) ?_
            refine LAt.appCU tOk (t := 27) (ty := 27) (e := 56) (x := (.const (.slice none 0 0))) (y := (.tmp 43)) (d := 44) (g := none) ⟨.st [(0, 1, 3), (1, 1, 3), (2, 1, 3)], 3, 24, [.lit (.int .i64 0), .lit (.int .i64 0), .lit (.int .i64 0)]⟩ Vrow.row ([] : List Vrow) ((x0.Rows.drop ((0 : Int)).toNat).take (((y4 : Int)).toNat - ((0 : Int)).toNat)) ⟨(.slot 43), [], 0, false, 3, (CV.frzEs (((x0.Rows.drop ((0 : Int)).toNat).take (((y4 : Int)).toNat - ((0 : Int)).toNat)).map Vrow.row))⟩ (by kernel_rfl) (by kernel_rfl) (by kernel_rfl) (by kernel_rfl) (by kernel_rfl) (by kernel_rfl) (by kernel_rfl) (by kernel_rfl) (by kernel_rfl) (by kernel_rfl) (by kernel_rfl) (.inr rfl) (fun _ => rfl) (fun _ => rfl) hg6 ?_
            refine LAt.fin (by kernel_rfl) (And.intro (And.intro (by kernel_rfl) (by kernel_rfl)) ?_)
            refine AT.big1 tOk 7 (by kernel_rfl) (by kernel_rfl) ?_
            refine LAt.appMU tOk (t := 27) (ty := 27) (e := 56) (x := (.tmp 44)) (y := (.tmp 46)) (d := 47) (g := none) ⟨.st [(0, 1, 3), (1, 1, 3), (2, 1, 3)], 3, 24, [.lit (.int .i64 0), .lit (.int .i64 0), .lit (.int .i64 0)]⟩ Vrow.row (([] : List Vrow) ++ ((x0.Rows.drop ((0 : Int)).toNat).take (((y4 : Int)).toNat - ((0 : Int)).toNat))) [x1] (by kernel_rfl) (by kernel_rfl) (by kernel_rfl) (by kernel_rfl) (by kernel_rfl) (by kernel_rfl) (by kernel_rfl) (by kernel_rfl) (by kernel_rfl) (by kernel_rfl) hg7 ?_
            refine LAt.fin (by kernel_rfl) (And.intro (And.intro (by kernel_rfl) (by kernel_rfl)) ?_)
            refine AT.big1 tOk 12 (by kernel_rfl) (by kernel_rfl) ?_
            refine LAt.appCU tOk (t := 27) (ty := 27) (e := 56) (x := (.tmp 47)) (y := (.tmp 51)) (d := 52) (g := none) ⟨.st [(0, 1, 3), (1, 1, 3), (2, 1, 3)], 3, 24, [.lit (.int .i64 0), .lit (.int .i64 0), .lit (.int .i64 0)]⟩ Vrow.row ((([] : List Vrow) ++ ((x0.Rows.drop ((0 : Int)).toNat).take (((y4 : Int)).toNat - ((0 : Int)).toNat))) ++ [x1]) ((x0.Rows.drop ((y4 : Int)).toNat).take ((((x0.Rows.length : Int) : Int)).toNat - ((y4 : Int)).toNat)) ⟨(.slot 51), [], 0, false, 3, (CV.frzEs (((x0.Rows.drop ((y4 : Int)).toNat).take ((((x0.Rows.length : Int) : Int)).toNat - ((y4 : Int)).toNat)).map Vrow.row))⟩ (by kernel_rfl) (by kernel_rfl) (by kernel_rfl) (by kernel_rfl) (by kernel_rfl) (by kernel_rfl) (by kernel_rfl) (by kernel_rfl) (by kernel_rfl) (by kernel_rfl) (by kernel_rfl) (.inr rfl) (fun _ => rfl) (fun _ => rfl) hg9 ?_
            refine LAt.fin (by kernel_rfl) (And.intro (And.intro (by kernel_rfl) (by kernel_rfl)) ?_)
            refine AT.runU tOk [(13, [])] 1 [⟨[11, 12, 14], 27, 48, 49⟩, ⟨[6, 7, 12, 14], 56, 3, 45⟩, ⟨[3, 4, 7, 12, 14], 27, 40, 41⟩] [13, 12, 7, 4, 3, 11, 6, 10, 9, 8, 5, 2, 1, 0] rfl (by kernel_rfl) (fun cx => ?_)
            refine AT.big1 tOk 14 (by kernel_rfl) (by kernel_rfl) ?_
            refine LAt.runU tOk 1 (by kernel_rfl) ?_
            refine LAt.fin (by kernel_rfl) (And.intro (And.intro (by kernel_rfl) (by kernel_rfl)) ?_)
            exact AT.done [5, 4] [5, 4] _ (by kernel_rfl) (by kernel_rfl) rfl
        · refine LAt.cutG tOk (t := 27) (ty := 27) (e := 56) (x := (.tmp 49)) (lo := (some (.tmp 50))) (hi := none) (d := 51) (g := none) ⟨.st [(0, 1, 3), (1, 1, 3), (2, 1, 3)], 3, 24, [.lit (.int .i64 0), .lit (.int .i64 0), .lit (.int .i64 0)]⟩ Vrow.row x0.Rows ⟨(.box 2), [(0, 0)], 0, false, 3, (CV.frzEs (x0.Rows.map Vrow.row))⟩ y4 (x0.Rows.length : Int) (by kernel_rfl) (by kernel_rfl) (by kernel_rfl) (by kernel_rfl) (by kernel_rfl) (by kernel_rfl) rfl (by kernel_rfl) rfl (by kernel_rfl) (by kernel_rfl) hg8 ?_
          refine LAt.fin (by kernel_rfl) (And.intro (And.intro (by kernel_rfl) (by kernel_rfl)) ?_)
          refine AT.big2 tOk 3 6 (by kernel_rfl) (And.intro (by kernel_rfl) ?_) (And.intro (by kernel_rfl) ?_)
          · refine LAt.cutG tOk (t := 27) (ty := 27) (e := 56) (x := (.tmp 41)) (lo := none) (hi := (some (.tmp 42))) (d := 43) (g := none) ⟨.st [(0, 1, 3), (1, 1, 3), (2, 1, 3)], 3, 24, [.lit (.int .i64 0), .lit (.int .i64 0), .lit (.int .i64 0)]⟩ Vrow.row x0.Rows ⟨(.box 2), [(0, 0)], 0, false, 3, (CV.frzEs (x0.Rows.map Vrow.row))⟩ 0 y4 (by kernel_rfl) (by kernel_rfl) (by kernel_rfl) (by kernel_rfl) (by kernel_rfl) (by kernel_rfl) rfl (by kernel_rfl) rfl (by kernel_rfl) (by kernel_rfl) hg5 ?_
            refine LAt.fin (by kernel_rfl) (And.intro (And.intro (by kernel_rfl) (by kernel_rfl)) ?_)
            refine AT.big2 tOk 4 6 (by kernel_rfl) (And.intro (by kernel_rfl) ?_) (And.intro (by kernel_rfl) ?_)
            · refine LAt.appCU tOk (t := 27) (ty := 27) (e := 56) (x := (.const (.slice none 0 0))) (y := (.tmp 43)) (d := 44) (g := none) ⟨.st [(0, 1, 3), (1, 1, 3), (2, 1, 3)], 3, 24, [.lit (.int .i64 0), .lit (.int .i64 0), .lit (.int .i64 0)]⟩ Vrow.row ([] : List Vrow) ((x0.Rows.drop ((0 : Int)).toNat).take (((y4 : Int)).toNat - ((0 : Int)).toNat)) ⟨(.slot 43), [], 0, false, 3, (CV.frzEs (((x0.Rows.drop ((0 : Int)).toNat).take (((y4 : Int)).toNat - ((0 : Int)).toNat)).map Vrow.row))⟩ (by kernel_rfl) (by kernel_rfl) (by kernel_rfl) (by kernel_rfl) (by kernel_rfl) (by kernel_rfl) (by kernel_rfl) (by kernel_rfl) (by kernel_rfl) (by kernel_rfl) (by kernel_rfl) (.inr rfl) (fun _ => rfl) (fun _ => rfl) hg6 ?_
              refine LAt.fin (by kernel_rfl) (And.intro (And.intro (by kernel_rfl) (by kernel_rfl)) ?_)
              refine AT.big1 tOk 6 (by kernel_rfl) (by kernel_rfl) ?_
              refine LAt.runU tOk 1 (by kernel_rfl) ?_
              refine LAt.fin (by kernel_rfl) (And.intro (And.intro (by kernel_rfl) (by kernel_rfl)) ?_)
              refine AT.big1 tOk 7 (by kernel_rfl) (by kernel_rfl) ?_
              refine LAt.appMU tOk (t := 27) (ty := 27) (e := 56) (x := (.tmp 44)) (y := (.tmp 46)) (d := 47) (g := none) ⟨.st [(0, 1, 3), (1, 1, 3), (2, 1, 3)], 3, 24, [.lit (.int .i64 0), .lit (.int .i64 0), .lit (.int .i64 0)]⟩ Vrow.row (([] : List Vrow) ++ ((x0.Rows.drop ((0 : Int)).toNat).take (((y4 : Int)).toNat - ((0 : Int)).toNat))) [x1] (by kernel_rfl) (by kernel_rfl) (by kernel_rfl) (by kernel_rfl) (by kernel_rfl) (by kernel_rfl) (by kernel_rfl) (by kernel_rfl) (by kernel_rfl) (by kernel_rfl) hg7 ?_
              refine LAt.fin (by kernel_rfl) (And.intro (And.intro (by kernel_rfl) (by kernel_rfl)) ?_)
              refine AT.big1 tOk 12 (by kernel_rfl) (by kernel_rfl) ?_
              refine LAt.appCU tOk (t := 27) (ty := 27) (e := 56) (x := (.tmp 47)) (y := (.tmp 51)) (d := 52) (g := none) ⟨.st [(0, 1, 3), (1, 1, 3), (2, 1, 3)], 3, 24, [.lit (.int .i64 0), .lit (.int .i64 0), .lit (.int .i64 0)]⟩ Vrow.row ((([] : List Vrow) ++ ((x0.Rows.drop ((0 : Int)).toNat).take (((y4 : Int)).toNat - ((0 : Int)).toNat))) ++ [x1]) ((x0.Rows.drop ((y4 : Int)).toNat).take ((((x0.Rows.length : Int) : Int)).toNat - ((y4 : Int)).toNat)) ⟨(.slot 51), [], 0, false, 3, (CV.frzEs (((x0.Rows.drop ((y4 : Int)).toNat).take ((((x0.Rows.length : Int) : Int)).toNat - ((y4 : Int)).toNat)).map Vrow.row))⟩ (by kernel_rfl) (by kernel_rfl) (by kernel_rfl) (by kernel_rfl) (by kernel_rfl) (by kernel_rfl) (by kernel_rfl) (by kernel_rfl) (by kernel_rfl) (by kernel_rfl) (by kernel_rfl) (.inr rfl) (fun _ => rfl) (fun _ => rfl) hg9 ?_
              refine LAt.fin (by kernel_rfl) (And.intro (And.intro (by kernel_rfl) (by kernel_rfl)) ?_)
              refine AT.runU tOk [(13, [])] 1 [⟨[11, 12, 14], 27, 48, 49⟩, ⟨[6, 7, 12, 14], 56, 3, 45⟩, ⟨[3, 4, 7, 12, 14], 27, 40, 41⟩] [13, 12, 7, 6, 4, 3, 11, 10, 9, 8, 5, 2, 1, 0] rfl (by kernel_rfl) (fun cx => ?_)
              refine AT.big1 tOk 14 (by kernel_rfl) (by kernel_rfl) ?_
              refine LAt.runU tOk 1 (by kernel_rfl) ?_
              refine LAt.fin (by kernel_rfl) (And.intro (And.intro (by kernel_rfl) (by kernel_rfl)) ?_)
              exact AT.done [5, 4] [5, 4] _ (by kernel_rfl) (by kernel_rfl) rfl
            · refine LAt.runU tOk 1 (by kernel_rfl) ?_
              refine LAt.fin (by kernel_rfl) (And.intro (And.intro (by kernel_rfl) (by kernel_rfl)) ?_)
              refine AT.big1 tOk 4 (by kernel_rfl) (by kernel_rfl) ?_
              refine LAt.appCU tOk (t := 27) (ty := 27) (e := 56) (x := (.const (.slice none 0 0))) (y := (.tmp 43)) (d := 44) (g := none) ⟨.st [(0, 1, 3), (1, 1, 3), (2, 1, 3)], 3, 24, [.lit (.int .i64 0), .lit (.int .i64 0), .lit (.int .i64 0)]⟩ Vrow.row ([] : List Vrow) ((x0.Rows.drop ((0 : Int)).toNat).take (((y4 : Int)).toNat - ((0 : Int)).toNat)) ⟨(.slot 43), [], 0, false, 3, (CV.frzEs (((x0.Rows.drop ((0 : Int)).toNat).take (((y4 : Int)).toNat - ((0 : Int)).toNat)).map Vrow.row))⟩ (by kernel_rfl) (by kernel_rfl) (by kernel_rfl) (by kernel_rfl) (by kernel_rfl) (by kernel_rfl) (by kernel_rfl) (by kernel_rfl) (by kernel_rfl) (by kernel_rfl) (by kernel_rfl) (.inr rfl) (fun _ => rfl) (fun _ => rfl) hg6 ?_
              refine LAt.fin (by kernel_rfl) (And.intro (And.intro (by kernel_rfl) (by kernel_rfl)) ?_)
              refine AT.big1 tOk 7 (by kernel_rfl) (by kernel_rfl) ?_
              refine LAt.appMU tOk (t := 27) (ty := 27) (e := 56) (x := (.tmp 44)) (y := (.tmp 46)) (d := 47) (g := none) ⟨.st [(0, 1, 3), (1, 1, 3), (2, 1, 3)], 3, 24, [.lit (.int .i64 0), .lit (.int .i64 0), .lit (.int .i64 0)]⟩ Vrow.row (([] : List Vrow) ++ ((x0.Rows.drop ((0 : Int)).toNat).take (((y4 : Int)).toNat - ((0 : Int)).toNat))) [x1] (by kernel_rfl) (by kernel_rfl) (by kernel_rfl) (by kernel_rfl) (by kernel_rfl) (by kernel_rfl) (by kernel_rfl) (by kernel_rfl) (by kernel_rfl) (by kernel_rfl) hg7 ?_
              refine LAt.fin (by kernel_rfl) (And.intro (And.intro (by kernel_rfl) (by kernel_rfl)) ?_)
              refine AT.big1 tOk 12 (by kernel_rfl) (by kernel_rfl) ?_
              refine LAt.appCU tOk (t := 27) (ty := 27) (e := 56) (x := (.tmp 47)) (y := (.tmp 51)) (d := 52) (g := none) ⟨.st [(0, 1, 3), (1, 1, 3), (2, 1, 3)], 3, 24, [.lit (.int .i64 0), .lit (.int .i64 0), .lit (.int .i64 0)]⟩ Vrow.row ((([] : List Vrow) ++ ((x0.Rows.drop ((0 : Int)).toNat).take (((y4 : Int)).toNat - ((0 : Int)).toNat))) ++ [x1]) ((x0.Rows.drop ((y4 : Int)).toNat).take ((((x0.Rows.length : Int) : Int)).toNat - ((y4 : Int)).toNat)) ⟨(.slot 51), [], 0, false, 3, (CV.frzEs (((x0.Rows.drop ((y4 : Int)).toNat).take ((((x0.Rows.length : Int) : Int)).toNat - ((y4 : Int)).toNat)).map Vrow.row))⟩ (by kernel_rfl) (by kernel_rfl) (by kernel_rfl) (by kernel_rfl) (by kernel_rfl) (by kernel_rfl) (by kernel_rfl) (by kernel_rfl) (by kernel_rfl) (by kernel_rfl) (by kernel_rfl) (.inr rfl) (fun _ => rfl) (fun _ => rfl) hg9 ?_
              refine LAt.fin (by kernel_rfl) (And.intro (And.intro (by kernel_rfl) (by kernel_rfl)) ?_)
              refine AT.runU tOk [(13, [])] 1 [⟨[11, 12, 14], 27, 48, 49⟩, ⟨[6, 7, 12, 14], 56, 3, 45⟩, ⟨[3, 4, 7, 12, 14], 27, 40, 41⟩] [13, 12, 7, 4, 6, 3, 11, 10, 9, 8, 5, 2, 1, 0] rfl (by kernel_rfl) (fun cx => ?_)
              refine AT.big1 tOk 14 (by kernel_rfl) (by kernel_rfl) ?_
              refine LAt.runU tOk 1 (by kernel_rfl) ?_
              refine LAt.fin (by kernel_rfl) (And.intro (And.intro (by kernel_rfl) (by kernel_rfl)) ?_)
              exact AT.done [5, 4] [5, 4] _ (by kernel_rfl) (by kernel_rfl) rfl
          · refine LAt.runU tOk 1 (by kernel_rfl) ?_
            refine LAt.fin (by kernel_rfl) (And.intro (And.intro (by kernel_rfl) (by kernel_rfl)) ?_)
            refine AT.big1 tOk 3 (by kernel_rfl) (by kernel_rfl) ?_
            refine LAt.cutG tOk (t := 27) (ty := 27) (e := 56) (x := (.tmp 41)) (lo := none) (hi := (some (.tmp 42))) (d := 43) (g := none) ⟨.st [(0, 1, 3), (1, 1, 3), (2, 1, 3)], 3, 24, [.lit (.int .i64 0), .lit (.int .i64 0), .lit (.int .i64 0)]⟩ Vrow.row x0.Rows ⟨(.box 2), [(0, 0)], 0, false, 3, (CV.frzEs (x0.Rows.map Vrow.row))⟩ 0 y4 (by kernel_rfl) (by kernel_rfl) (by kernel_rfl) (by kernel_rfl) (by kernel_rfl) (by kernel_rfl) rfl (by kernel_rfl) rfl (by kernel_rfl) (by kernel_rfl) hg5 ?_
            refine LAt.fin (by kernel_rfl) (And.intro (And.intro (by kernel_rfl) (by kernel_rfl)) ?_)
            refine AT.big1 tOk 4 (by kernel_rfl) (by kernel_rfl) ?_
            refine LAt.appCU tOk (t := 27) (ty := 27) (e := 56) (x := (.const (.slice none 0 0))) (y := (.tmp 43)) (d := 44) (g := none) ⟨.st [(0, 1, 3), (1, 1, 3), (2, 1, 3)], 3, 24, [.lit (.int .i64 0), .lit (.int .i64 0), .lit (.int .i64 0)]⟩ Vrow.row ([] : List Vrow) ((x0.Rows.drop ((0 : Int)).toNat).take (((y4 : Int)).toNat - ((0 : Int)).toNat)) ⟨(.slot 43), [], 0, false, 3, (CV.frzEs (((x0.Rows.drop ((0 : Int)).toNat).take (((y4 : Int)).toNat - ((0 : Int)).toNat)).map Vrow.row))⟩ (by kernel_rfl) (by kernel_rfl) (by kernel_rfl) (by kernel_rfl) (by kernel_rfl) (by kernel_rfl) (by kernel_rfl) (by kernel_rfl) (by kernel_rfl) (by kernel_rfl) (by kernel_rfl) (.inr rfl) (fun _ => rfl) (fun _ => rfl) hg6 ?_
            refine LAt.fin (by kernel_rfl) (And.intro (And.intro (by kernel_rfl) (by kernel_rfl)) ?_)
            refine AT.big1 tOk 7 (by kernel_rfl) (by kernel_rfl) ?_
            refine LAt.appMU tOk (t := 27) (ty := 27) (e := 56) (x := (.tmp 44)) (y := (.tmp 46)) (d := 47) (g := none) ⟨.st [(0, 1, 3), (1, 1, 3), (2, 1, 3)], 3, 24, [.lit (.int .i64 0), .lit (.int .i64 0), .lit (.int .i64 0)]⟩ Vrow.row (([] : List Vrow) ++ ((x0.Rows.drop ((0 : Int)).toNat).take (((y4 : Int)).toNat - ((0 : Int)).toNat))) [x1] (by kernel_rfl) (by kernel_rfl) (by kernel_rfl) (by kernel_rfl) (by kernel_rfl) (by kernel_rfl) (by kernel_rfl) (by kernel_rfl) (by kernel_rfl) (by kernel_rfl) hg7 ?_
            refine LAt.fin (by kernel_rfl) (And.intro (And.intro (by kernel_rfl) (by kernel_rfl)) ?_)
            refine AT.big1 tOk 12 (by kernel_rfl) (by kernel_rfl) ?_
            refine LAt.appCU tOk (t := 27) (ty := 27) (e := 56) (x := (.tmp 47)) (y := (.tmp 51)) (d := 52) (g := none) ⟨.st [(0, 1, 3), (1, 1, 3), (2, 1, 3)], 3, 24, [.lit (.int .i64 0), .lit (.int .i64 0), .lit (.int .i64 0)]⟩ Vrow.row ((([] : List Vrow) ++ ((x0.Rows.drop ((0 : Int)).toNat).take (((y4 : Int)).toNat - ((0 : Int)).toNat))) ++ [x1]) ((x0.Rows.drop ((y4 : Int)).toNat).take ((((x0.Rows.length : Int) : Int)).toNat - ((y4 : Int)).toNat)) ⟨(.slot 51), [], 0, false, 3, (CV.frzEs (((x0.Rows.drop ((y4 : Int)).toNat).take ((((x0.Rows.length : Int) : Int)).toNat - ((y4 : Int)).toNat)).map Vrow.row))⟩ (by kernel_rfl) (by kernel_rfl) (by kernel_rfl) (by kernel_rfl) (by kernel_rfl) (by kernel_rfl) (by kernel_rfl) (by kernel_rfl) (by kernel_rfl) (by kernel_rfl) (by kernel_rfl) (.inr rfl) (fun _ => rfl) (fun _ => rfl) hg9 ?_
            refine LAt.fin (by kernel_rfl) (And.intro (And.intro (by kernel_rfl) (by kernel_rfl)) ?_)
            refine AT.runU tOk [(13, [])] 1 [⟨[11, 12, 14], 27, 48, 49⟩, ⟨[6, 7, 12, 14], 56, 3, 45⟩, ⟨[3, 4, 7, 12, 14], 27, 40, 41⟩] [13, 12, 7, 4, 3, 6, 11, 10, 9, 8, 5, 2, 1, 0] rfl (by kernel_rfl) (fun cx => ?_)
            refine AT.big1 tOk 14 (by kernel_rfl) (by kernel_rfl) ?_
            refine LAt.runU tOk 1 (by kernel_rfl) ?_
            refine LAt.fin (by kernel_rfl) (And.intro (And.intro (by kernel_rfl) (by kernel_rfl)) ?_)
            exact AT.done [5, 4] [5, 4] _ (by kernel_rfl) (by kernel_rfl) rfl
      · refine Tr.rs ?_
        refine LAt.runU tOk 2 (by kernel_rfl) ?_
        refine LAt.doneU [4] [4] (by kernel_rfl) ?_
        refine Tr.ret ?_
        have H := Option.some.inj H
        subst H
        exact Fin.of _ [(true, [.sl true 3 ((((([] : List Vrow) ++ ((x0.Rows.drop ((0 : Int)).toNat).take (((y4 : Int)).toNat - ((0 : Int)).toNat))) ++ [x1]) ++ ((x0.Rows.drop ((y4 : Int)).toNat).take ((((x0.Rows.length : Int) : Int)).toNat - ((y4 : Int)).toNat))).map Vrow.row), .sl true 1 (r1.Pvid.map intRow)])] (by kernel_rfl) rfl rfl
  · have H := bifT h1 H
    refine Tr.cond (b := true) (by kernel_rfl) (fun _ => ?_) (fun h => nomatch h)
    refine Tr.rs ?_
    refine LAt.runU tOk 4 (by kernel_rfl) ?_
    obtain ⟨v12, ev12, H⟩ := bind_some H
    refine LAt.indexO tOk (t := 27) (ty := 0) (x := (.tmp 17)) (y := (.tmp 18)) (d := 20) (g := none) ⟨(.box 5), [(0, 0)], 0, true, 3, (r1.Rows.map Vrow.row)⟩ r2 (r2.toNat) (Vrow.row v12) _ (by kernel_rfl) (by kernel_rfl) (by kernel_rfl) (by kernel_rfl) rfl (by kernel_rfl) (idx_isE ev12) rfl rfl ?_
    refine LAt.storeU tOk (t := 56) (ty := 0) (ad := (.tmp 20)) (x := (.tmp 19)) (g := none) ⟨.st [(0, 1, 3), (1, 1, 3), (2, 1, 3)], 3, 24, [.lit (.int .i64 0), .lit (.int .i64 0), .lit (.int .i64 0)]⟩ true (Vrow.row x1) (.box 5) [(0, 0), (0, (r2.toNat))] [(0, (r2.toNat))] 3 0 [.sl true 2 [(Vtab.row r1)]] (Vrow.row v12) (Vtab.row r1) [.sl true 3 ((r1.Rows.set (r2.toNat) x1).map Vrow.row), .sl true 1 (r1.Pvid.map intRow)] (by kernel_rfl) (by kernel_rfl) (by kernel_rfl) (by kernel_rfl) (by kernel_rfl) (by kernel_rfl) (getQ_elemB rfl (idx_get ev12).2) rfl (by intro h; cases h) (by kernel_rfl) (by kernel_rfl) (by kernel_rfl) (modQ_elem (new := x1) rfl (idx_get ev12).2 rfl) (by kernel_rfl) ?_
    refine LAt.doneU [5, 4, 3, 2] [5, 4, 3, 2] (by kernel_rfl) ?_
    refine Tr.rs ?_
    refine LAt.runU tOk 2 (by kernel_rfl) ?_
    refine LAt.doneU [5, 4, 3, 2] [4, 5, 3, 2] (by kernel_rfl) ?_
    refine Tr.ret ?_
    have H := Option.some.inj H
    subst H
    exact Fin.of _ [(true, [.sl true 3 ((r1.Rows.set (r2.toNat) x1).map Vrow.row), .sl true 1 (r1.Pvid.map intRow)])] (by kernel_rfl) rfl rfl

def impl_inF (n : Nat) (x0 : Int) (x1 : Int) (x2 : Int) : Option (Bool) :=
  (bif (decide (x0 ≥ x1)) then (some (decide (x0 ≤ x2))) else (some false))
/-- loop.example/g00326/impl.in -/
theorem impl_in (n : Nat) (x0 : Int) (x1 : Int) (x2 : Int) (r : Bool) (H : impl_inF n x0 x1 x2 = some r) : LCall Try.prog 82 [.val false [.lit (.int .i64 x0)], .val false [.lit (.int .i64 x1)], .val false [.lit (.int .i64 x2)]] [.val false [.lit (.bool r)]] [] := by
  refine LCall.of_body tOk Try.func82 rfl (c := (.seq (.region 0 (rg Try.f82 0) false) (.seq (.region 1 (rg Try.f82 1) false) .ret))) (by kernel_rfl) (Nat.le_of_ble_eq_true (by kernel_rfl)) 0 (rs := [.tmp 6]) rfl [] .nil [(false, [.lit (.bool r)])] [] [] fun cx => ?_
  show Tr _ _ _ ⟨15, 0, [(0, .val false [.lit (.int .i64 x0)]), (1, .val false [.lit (.int .i64 x1)]), (2, .val false [.lit (.int .i64 x2)])], []⟩ _
  unfold impl_inF at H
  refine Tr.rs ?_
  refine LAt.runU tOk 1 (by kernel_rfl) ?_
  refine LAt.doneU [6, 0, 1, 2] [] (by kernel_rfl) ?_
  refine Tr.rs ?_
  refine LAt.runU tOk 4 (by kernel_rfl) ?_
  refine LAt.to ⟨15, 0, [(10, .val false [.lit (.bool (decide (x0 ≥ x1)))]), (9, .val false [.lit (.bool (decide (x0 ≥ x1)))]), (8, .val false [.lit (.int .i64 x1)]), (7, .val false [.lit (.int .i64 x0)]), (6, .val false [.lit (.bool false)]), (0, .val false [.lit (.int .i64 x0)]), (1, .val false [.lit (.int .i64 x1)]), (2, .val false [.lit (.int .i64 x2)])], []⟩ (by kernel_rfl) ?_
  cases h1 : (decide (x0 ≥ x1))
  · have H := bifF h1 H
    refine LAt.runU tOk 5 (by kernel_rfl) ?_
    refine LAt.doneU [6] [] (by kernel_rfl) ?_
    refine Tr.ret ?_
    have H := Option.some.inj H
    subst H
    exact Fin.of _ [(false, [.lit (.bool false)])] (by kernel_rfl) rfl rfl
  · have H := bifT h1 H
    refine LAt.runU tOk 5 (by kernel_rfl) ?_
    refine LAt.doneU [6] [] (by kernel_rfl) ?_
    refine Tr.ret ?_
    have H := Option.some.inj H
    subst H
    exact Fin.of _ [(false, [.lit (.bool (decide (x0 ≤ x2)))])] (by kernel_rfl) rfl rfl

def impl_allPortsF (n : Nat) (x0 : Int) : Option (Int) :=
  (bif (decide ((0 : Int) ≤ x0)) then (some (IntKind.wrap .i64 ((IntKind.wrap .i64 (1 * 2 ^ min ((x0 : Int)).toNat (IntKind.bits .i64))) - 1))) else none)
/-- loop.example/g00326/impl.allPorts -/
theorem impl_allPorts (n : Nat) (x0 : Int) (r : Int) (H : impl_allPortsF n x0 = some r) : LCall Try.prog 110 [.val false [.lit (.int .i64 x0)]] [.val false [.lit (.int .i64 r)]] [] := by
  refine LCall.of_body tOk Try.func110 rfl (c := (.seq (.region 0 (rg Try.f110 0) false) (.seq (.region 1 (rg Try.f110 1) false) .ret))) (by kernel_rfl) (Nat.le_of_ble_eq_true (by kernel_rfl)) 0 (rs := [.tmp 2]) rfl [] .nil [(false, [.lit (.int .i64 r)])] [] [] fun cx => ?_
  show Tr _ _ _ ⟨6, 0, [(0, .val false [.lit (.int .i64 x0)])], []⟩ _
  unfold impl_allPortsF at H
  refine Tr.rs ?_
  refine LAt.runU tOk 1 (by kernel_rfl) ?_
  refine LAt.doneU [2, 0] [] (by kernel_rfl) ?_
  refine Tr.rs ?_
  refine LAt.runU tOk 1 (by kernel_rfl) ?_
  obtain ⟨hg1, H⟩ := guard_some H
  refine LAt.binC tOk (op := .shl) (t := 3) (ty := 3) (ty' := 3) (x := (.const (.int .i64 1))) (y := (.tmp 3)) (d := 4) (g := none) (.int .i64 1) (.int .i64 x0) (.int .i64 (IntKind.wrap .i64 (1 * 2 ^ min ((x0 : Int)).toNat (IntKind.bits .i64)))) _ (by kernel_rfl) (by kernel_rfl) (by kernel_rfl) (by kernel_rfl) (by kernel_rfl) (φ := (0 : Int) ≤ x0) (by kernel_rfl) (of_decide_eq_true hg1) rfl ?_
  refine LAt.runU tOk 2 (by kernel_rfl) ?_
  refine LAt.doneU [2] [] (by kernel_rfl) ?_
  refine Tr.ret ?_
  have H := Option.some.inj H
  subst H
  exact Fin.of _ [(false, [.lit (.int .i64 (IntKind.wrap .i64 ((IntKind.wrap .i64 (1 * 2 ^ min ((x0 : Int)).toNat (IntKind.bits .i64))) - 1)))])] (by kernel_rfl) rfl rfl

def impl_VtabOk_J2 (n : Nat) : Option (Bool) :=
  (some true)
def impl_VtabOk_L3 (n : Nat) : Nat → Vtab → Int → Option ((Unit) ⊕ (Bool))
  | 0, _, _ => none
  | mo4 + 1, x0, y3 => (bif (decide (y3 < (x0.Pvid.length : Int))) then ((idx x0.Pvid y3).bind fun v5 => ((impl_RowAtF n x0 v5).bind fun r6 => (bif (decide (r6 < 0)) then (some (Sum.inr false)) else (impl_VtabOk_L3 n mo4 x0 (IntKind.wrap .i64 (y3 + 1)))))) else (some (Sum.inl ())))
def impl_VtabOk_J1 (n : Nat) (x0 : Vtab) : Option (Bool) :=
  ((impl_VtabOk_L3 n n x0 0).bind fun o => match o with | .inl _ => (impl_VtabOk_J2 n) | .inr r => some r)
def impl_VtabOk_L4 (n : Nat) : Nat → Vtab → Int → Int → Option ((Unit) ⊕ (Bool))
  | 0, _, _, _ => none
  | mo7 + 1, x0, x1, y2 => (bif (decide (y2 < (x0.Rows.length : Int))) then ((idx x0.Rows y2).bind fun v8 => ((impl_inF n v8.Id 1 99).bind fun r9 => (bif (!r9) then (some (Sum.inr false)) else (bif (decide (y2 > 0)) then ((idx x0.Rows (IntKind.wrap .i64 (y2 - 1))).bind fun v12 => (bif (decide (v12.Id ≥ v8.Id)) then (some (Sum.inr false)) else ((impl_allPortsF n x1).bind fun r13 => ((impl_inF n v8.Members 0 r13).bind fun r14 => (bif (!r14) then (some (Sum.inr false)) else (bif ((IntKind.wrap .i64 (BitVec.ofInt (IntKind.bits .i64) v8.Bare &&& ~~~BitVec.ofInt (IntKind.bits .i64) v8.Members).toNat) != 0) then (some (Sum.inr false)) else (impl_VtabOk_L4 n mo7 x0 x1 (IntKind.wrap .i64 (y2 + 1))))))))) else ((impl_allPortsF n x1).bind fun r10 => ((impl_inF n v8.Members 0 r10).bind fun r11 => (bif (!r11) then (some (Sum.inr false)) else (bif ((IntKind.wrap .i64 (BitVec.ofInt (IntKind.bits .i64) v8.Bare &&& ~~~BitVec.ofInt (IntKind.bits .i64) v8.Members).toNat) != 0) then (some (Sum.inr false)) else (impl_VtabOk_L4 n mo7 x0 x1 (IntKind.wrap .i64 (y2 + 1))))))))))) else (some (Sum.inl ())))
def impl_VtabOkF (n : Nat) (x0 : Vtab) (x1 : Int) : Option (Bool) :=
  ((impl_inF n x1 1 6).bind fun r1 => (bif (!r1) then (some false) else (bif ((x0.Pvid.length : Int) != x1) then (some false) else (bif (decide ((x0.Rows.length : Int) > 6)) then (some false) else ((impl_VtabOk_L4 n n x0 x1 0).bind fun o => match o with | .inl _ => (impl_VtabOk_J1 n x0) | .inr r => some r)))))
/-- loop.example/g00326/impl.VtabOk -/
theorem impl_VtabOk (n : Nat) (x0 : Vtab) (x1 : Int) (r : Bool) (H : impl_VtabOkF n x0 x1 = some r) : LCall Try.prog 41 [.val true (CV.frzRow (Vtab.row x0)), .val false [.lit (.int .i64 x1)]] [.val false [.lit (.bool r)]] [] := by
  refine LCall.of_body tOk Try.func41 rfl (c := (.seq (.region 0 (rg Try.f41 0) false) (.seq (.seq (.region 1 (rg Try.f41 1) false) (.cond (.tmp 24) (.seq (.region 2 (rg Try.f41 2) false) .ret) .skip)) (.seq (.seq (.region 3 (rg Try.f41 3) false) (.block 0 (.loop (.seq (.region 4 (rg Try.f41 4) false) (.seq (.cond (.tmp 29) .skip (.exit 0)) (.seq (.block 1 (.seq (.region 5 (rg Try.f41 5) false) (.seq (.region 6 (rg Try.f41 6) true) (.cond (.tmp 68) (.seq (.region 7 (rg Try.f41 7) false) .ret) .skip)))) (.region 8 (rg Try.f41 8) false))))))) (.seq (.seq (.region 9 (rg Try.f41 9) false) (.block 2 (.loop (.seq (.region 10 (rg Try.f41 10) false) (.seq (.cond (.tmp 74) .skip (.exit 2)) (.seq (.block 3 (.seq (.region 11 (rg Try.f41 11) false) (.seq (.region 12 (rg Try.f41 12) false) (.cond (.tmp 80) (.seq (.region 13 (rg Try.f41 13) false) .ret) .skip)))) (.region 14 (rg Try.f41 14) false))))))) (.seq (.region 15 (rg Try.f41 15) false) .ret)))))) (by kernel_rfl) (Nat.le_of_ble_eq_true (by kernel_rfl)) 0 (rs := [.tmp 4]) rfl [] .nil [(false, [.lit (.bool r)])] [] [] fun cx => ?_
  show Tr _ _ _ ⟨82, 0, [(0, .val true (CV.frzRow (Vtab.row x0))), (1, .val false [.lit (.int .i64 x1)])], []⟩ _
  unfold impl_VtabOkF at H
  refine Tr.rs ?_
  refine LAt.runU tOk 2 (by kernel_rfl) ?_
  refine LAt.doneU [4, 2, 1] [2] (by kernel_rfl) ?_
  refine Tr.seq ?_
  refine Tr.rs ?_
  refine LAt.runU tOk 1 (by kernel_rfl) ?_
  obtain ⟨r1, er1, H⟩ := bind_some H
  refine LAt.callU tOk [.rd, .rd, .rd] (f := 82) (av := #[.tmp 9, .const (.int .i64 1), .const (.int .i64 6)]) (ats := #[3, 3, 3]) (d := (some 10)) (ty := 4) (g := none) (by kernel_rfl) (by kernel_rfl) (by kernel_rfl) [] (impl_in n x1 1 6 r1 er1) (by kernel_rfl) (.inl rfl) ?_
  refine LAt.runU tOk 2 (by kernel_rfl) ?_
  refine LAt.to ⟨82, 0, [(12, .val false [.lit (.bool (!r1))]), (11, .val false [.lit (.bool (!r1))]), (10, .val false [.lit (.bool r1)]), (9, .val false [.lit (.int .i64 x1)]), (4, .val false [.lit (.bool false)]), (2, .adr (.box 2) [(0, 0)] 2 0), (1, .val false [.lit (.int .i64 x1)])], [(2, (CV.frzRow (Vtab.row x0)))]⟩ (by kernel_rfl) ?_
  cases h1 : (!r1)
  · have H := bifF h1 H
    refine LAt.runU tOk 2 (by kernel_rfl) ?_
    refine LAt.lenE tOk (t := 23) (ty := 3) (e := 3) (x := (.tmp 14)) (d := 15) (g := (some (3, false))) ⟨(.slot 14), [], 0, false, 1, (CV.frzEs (x0.Pvid.map intRow))⟩ (x0.Pvid).length _ (by kernel_rfl) (by kernel_rfl) (by kernel_rfl) (by kernel_rfl) (by kernel_rfl) (frz_len _ _) rfl ?_
    refine LAt.runU tOk 4 (by kernel_rfl) ?_
    refine LAt.to ⟨82, 0, [(19, .val false [.lit (.bool ((x0.Pvid.length : Int) != x1))]), (18, .val false [.lit (.bool ((x0.Pvid.length : Int) != x1))]), (17, .val false [.lit (.bool ((x0.Pvid.length : Int) != x1))]), (16, .val false [.lit (.int .i64 x1)]), (15, .val false [.lit (.int .i64 (x0.Pvid.length : Int))]), (14, .val false [.sl false 1 (CV.frzEs (x0.Pvid.map intRow))]), (13, .adr (.box 2) [(0, 0)] 2 1), (12, .val false [.lit (.bool false)]), (11, .val false [.lit (.bool false)]), (10, .val false [.lit (.bool r1)]), (9, .val false [.lit (.int .i64 x1)]), (4, .val false [.lit (.bool false)]), (2, .adr (.box 2) [(0, 0)] 2 0), (1, .val false [.lit (.int .i64 x1)])], [(2, (CV.frzRow (Vtab.row x0)))]⟩ (by kernel_rfl) ?_
    cases h2 : ((x0.Pvid.length : Int) != x1)
    · have H := bifF h2 H
      refine LAt.runU tOk 2 (by kernel_rfl) ?_
      refine LAt.lenE tOk (t := 27) (ty := 3) (e := 56) (x := (.tmp 21)) (d := 22) (g := (some (10, false))) ⟨(.slot 21), [], 0, false, 3, (CV.frzEs (x0.Rows.map Vrow.row))⟩ (x0.Rows).length _ (by kernel_rfl) (by kernel_rfl) (by kernel_rfl) (by kernel_rfl) (by kernel_rfl) (frz_len _ _) rfl ?_
      refine LAt.runU tOk 2 (by kernel_rfl) ?_
      refine LAt.doneU [24, 4, 2, 1] [2] (by kernel_rfl) ?_
      refine Tr.to ⟨82, 0, [(24, .val false [.lit (.bool (decide ((x0.Rows.length : Int) > 6)))]), (4, .val false [.lit (.bool false)]), (2, .adr (.box 2) [(0, 0)] 2 0), (1, .val false [.lit (.int .i64 x1)])], [(2, (CV.frzRow (Vtab.row x0)))]⟩ (by kernel_rfl) ?_
      cases h3 : (decide ((x0.Rows.length : Int) > 6))
      · have H := bifF h3 H
        refine Tr.cond (b := false) (by kernel_rfl) (fun h => nomatch h) (fun _ => ?_)
        refine Tr.skip ?_
        show Tr _ _ _ _ _
        refine Tr.seq ?_
        refine Tr.rs ?_
        refine LAt.runU tOk 2 (by kernel_rfl) ?_
        refine LAt.lenE tOk (t := 27) (ty := 3) (e := 56) (x := (.tmp 26)) (d := 27) (g := none) ⟨(.slot 26), [], 0, false, 3, (CV.frzEs (x0.Rows.map Vrow.row))⟩ (x0.Rows).length _ (by kernel_rfl) (by kernel_rfl) (by kernel_rfl) (by kernel_rfl) (by kernel_rfl) (frz_len _ _) rfl ?_
        refine LAt.runU tOk 1 (by kernel_rfl) ?_
        refine LAt.doneU [28, 27, 26, 4, 2, 1] [2] (by kernel_rfl) ?_
        obtain ⟨o7, eo7, Ho7⟩ := bind_some H
        clear H
        refine Tr.mid (ι := Unit) (fun v => ⟨82, 0, [(4, .val false [.lit (.bool false)]), (2, .adr (.box 2) [(0, 0)] 2 0)], [(2, (CV.frzRow (Vtab.row x0)))]⟩) (fun v => impl_VtabOk_J1 n x0 = some r) ?_ ?_
        · refine Tr.block ?_
          refine Tr.loop (ι := Nat × (Int)) (fun v => ⟨82, 0, [(28, .val false [.lit (.int .i64 v.2)]), (27, .val false [.lit (.int .i64 (x0.Rows.length : Int))]), (26, .val false [.sl false 3 (CV.frzEs (x0.Rows.map Vrow.row))]), (4, .val false [.lit (.bool false)]), (2, .adr (.box 2) [(0, 0)] 2 0), (1, .val false [.lit (.int .i64 x1)])], [(2, (CV.frzRow (Vtab.row x0)))]⟩) (fun v => impl_VtabOk_L4 n v.1 x0 x1 v.2 = some o7) (fun v => v.1) (n, 0) eo7 (St.sub_of [28, 27, 26, 4, 2, 1] [2] (by kernel_rfl)) ?_
          rintro ⟨mo7, y2⟩ H
          have H : impl_VtabOk_L4 n mo7 x0 x1 y2 = some o7 := H
          obtain _ | mo7 := mo7
          · cases (show (none : Option _) = some o7 from H)
          · rw [impl_VtabOk_L4] at H
            refine Tr.rs ?_
            refine LAt.runU tOk 1 (by kernel_rfl) ?_
            refine LAt.doneU [29, 28, 27, 26, 4, 2, 1] [2] (by kernel_rfl) ?_
            refine Tr.seq ?_
            refine Tr.to ⟨82, 0, [(29, .val false [.lit (.bool (decide (y2 < (x0.Rows.length : Int))))]), (28, .val false [.lit (.int .i64 y2)]), (27, .val false [.lit (.int .i64 (x0.Rows.length : Int))]), (26, .val false [.sl false 3 (CV.frzEs (x0.Rows.map Vrow.row))]), (4, .val false [.lit (.bool false)]), (2, .adr (.box 2) [(0, 0)] 2 0), (1, .val false [.lit (.int .i64 x1)])], [(2, (CV.frzRow (Vtab.row x0)))]⟩ (by kernel_rfl) ?_
            cases h6 : (decide (y2 < (x0.Rows.length : Int)))
            · have H := bifF h6 H
              refine Tr.cond (b := false) (by kernel_rfl) (fun h => nomatch h) (fun _ => ?_)
              refine Tr.exit ?_
              refine And.intro (fun _ => ?_) (fun h => absurd rfl h)
              have H := Option.some.inj H
              subst H
              have H := Ho7
              dsimp only at H
              exact Exists.intro () (And.intro H (St.sub_of [4, 2] [2] (by kernel_rfl)))
            · have H := bifT h6 H
              refine Tr.cond (b := true) (by kernel_rfl) (fun _ => ?_) (fun h => nomatch h)
              refine Tr.skip ?_
              show Tr _ _ _ _ _
              refine Tr.seq ?_
              refine Tr.block ?_
              refine Tr.rs ?_
              refine LAt.runU tOk 1 (by kernel_rfl) ?_
              obtain ⟨v8, ev8, H⟩ := bind_some H
              refine LAt.indexF tOk (t := 27) (ty := 0) (x := (.tmp 26)) (y := (.tmp 28)) (d := 31) (g := none) ⟨(.slot 26), [], 0, false, 3, (CV.frzEs (x0.Rows.map Vrow.row))⟩ y2 (Vrow.row v8) _ (by kernel_rfl) (by kernel_rfl) (by kernel_rfl) (by kernel_rfl) rfl (idx_isF ev8) rfl ?_
              refine LAt.runU tOk 4 (by kernel_rfl) ?_
              refine LAt.doneU [5, 6, 32, 31, 30, 29, 28, 27, 26, 4, 2, 1] [6, 2] (by kernel_rfl) ?_
              obtain ⟨r9, er9, H⟩ := bind_some H
              refine Tr.to ⟨82, 0, [(5, .val false [.lit (.int .i64 y2)]), (6, .adr (.box 6) [(0, 0)] 3 0), (32, .val true (Vrow.row v8)), (31, .fad ((Vrow.row v8))), (30, .val false [.lit (.int .i64 y2)]), (29, .val false [.lit (.bool true)]), (28, .val false [.lit (.int .i64 y2)]), (27, .val false [.lit (.int .i64 (x0.Rows.length : Int))]), (26, .val false [.sl false 3 (CV.frzEs (x0.Rows.map Vrow.row))]), (4, .val false [.lit (.bool false)]), (2, .adr (.box 2) [(0, 0)] 2 0), (1, .val false [.lit (.int .i64 x1)])], [(6, (Vrow.row v8)), (2, (CV.frzRow (Vtab.row x0)))]⟩ (by kernel_rfl) ?_
              cases h7 : (!r9)
              · have H := bifF h7 H
                refine Tr.to ⟨82, 0, [(5, .val false [.lit (.int .i64 y2)]), (6, .adr (.box 6) [(0, 0)] 3 0), (32, .val true (Vrow.row v8)), (31, .fad ((Vrow.row v8))), (30, .val false [.lit (.int .i64 y2)]), (29, .val false [.lit (.bool true)]), (28, .val false [.lit (.int .i64 y2)]), (27, .val false [.lit (.int .i64 (x0.Rows.length : Int))]), (26, .val false [.sl false 3 (CV.frzEs (x0.Rows.map Vrow.row))]), (4, .val false [.lit (.bool false)]), (2, .adr (.box 2) [(0, 0)] 2 0), (1, .val false [.lit (.int .i64 x1)])], [(6, (Vrow.row v8)), (2, (CV.frzRow (Vtab.row x0)))]⟩ (by kernel_rfl) ?_
                cases h8 : (decide (y2 > 0))
                · have H := bifF h8 H
                  obtain ⟨r10, er10, H⟩ := bind_some H
                  obtain ⟨r11, er11, H⟩ := bind_some H
                  refine Tr.to ⟨82, 0, [(5, .val false [.lit (.int .i64 y2)]), (6, .adr (.box 6) [(0, 0)] 3 0), (32, .val true (Vrow.row v8)), (31, .fad ((Vrow.row v8))), (30, .val false [.lit (.int .i64 y2)]), (29, .val false [.lit (.bool true)]), (28, .val false [.lit (.int .i64 y2)]), (27, .val false [.lit (.int .i64 (x0.Rows.length : Int))]), (26, .val false [.sl false 3 (CV.frzEs (x0.Rows.map Vrow.row))]), (4, .val false [.lit (.bool false)]), (2, .adr (.box 2) [(0, 0)] 2 0), (1, .val false [.lit (.int .i64 x1)])], [(6, (Vrow.row v8)), (2, (CV.frzRow (Vtab.row x0)))]⟩ (by kernel_rfl) ?_
                  cases h9 : (!r11)
                  · have H := bifF h9 H
                    refine Tr.draws mixed 36 (by kernel_rfl) ⟨82, 0, [(68, .val false [.lit (.bool ((IntKind.wrap .i64 (BitVec.ofInt (IntKind.bits .i64) v8.Bare &&& ~~~BitVec.ofInt (IntKind.bits .i64) v8.Members).toNat) != 0))]), (67, .val false [.lit (.bool ((IntKind.wrap .i64 (BitVec.ofInt (IntKind.bits .i64) v8.Bare &&& ~~~BitVec.ofInt (IntKind.bits .i64) v8.Members).toNat) != 0))]), (66, .val false [.lit (.int .i64 (IntKind.wrap .i64 (BitVec.ofInt (IntKind.bits .i64) v8.Bare &&& ~~~BitVec.ofInt (IntKind.bits .i64) v8.Members).toNat))]), (65, .val false [.lit (.int .i64 v8.Members)]), (64, .adr (.box 6) [(0, 0)] 3 1), (63, .val false [.lit (.int .i64 v8.Bare)]), (62, .adr (.box 6) [(0, 0)] 3 2), (61, .val false [.lit (.bool false)]), (60, .val false [.lit (.bool false)]), (59, .val false [.lit (.bool false)]), (58, .val false [.lit (.bool r11)]), (57, .val false [.lit (.int .i64 r10)]), (56, .val false [.lit (.int .i64 x1)]), (55, .val false [.lit (.int .i64 v8.Members)]), (54, .adr (.box 6) [(0, 0)] 3 1), (53, .val false [.lit (.bool false)]), (52, .val false [.lit (.bool false)]), (51, .val false [.lit (.bool false)]), (50, .tup []), (49, .tup []), (48, .tup []), (47, .tup []), (46, .tup []), (45, .tup []), (44, .tup []), (43, .tup []), (42, .tup []), (41, .tup []), (40, .val false [.lit (.bool false)]), (39, .val false [.lit (.bool false)]), (38, .val false [.lit (.int .i64 y2)]), (37, .val false [.lit (.bool false)]), (36, .val false [.lit (.bool false)]), (35, .val false [.lit (.bool r9)]), (34, .val false [.lit (.int .i64 v8.Id)]), (33, .adr (.box 6) [(0, 0)] 3 0), (5, .val false [.lit (.int .i64 y2)]), (6, .adr (.box 6) [(0, 0)] 3 0), (32, .val true (Vrow.row v8)), (31, .fad ((Vrow.row v8))), (30, .val false [.lit (.int .i64 y2)]), (29, .val false [.lit (.bool true)]), (28, .val false [.lit (.int .i64 y2)]), (27, .val false [.lit (.int .i64 (x0.Rows.length : Int))]), (26, .val false [.sl false 3 (CV.frzEs (x0.Rows.map Vrow.row))]), (4, .val false [.lit (.bool false)]), (2, .adr (.box 2) [(0, 0)] 2 0), (1, .val false [.lit (.int .i64 x1)])], [(6, (Vrow.row v8)), (2, (CV.frzRow (Vtab.row x0)))]⟩ (fun cx => ?_) ?_
                    · refine AT.runU tOk [(0, []), (1, [2, 24, 25])] 34 [⟨[2, 24, 25], 3, 33, 34⟩] [1, 0] rfl (by kernel_rfl) (fun cx => ?_)
                      refine AT.big1 tOk 2 (by kernel_rfl) (by kernel_rfl) ?_
                      refine LAt.callU tOk [.rd, .rd, .rd] (f := 82) (av := #[.tmp 34, .const (.int .i64 1), .const (.int .i64 99)]) (ats := #[3, 3, 3]) (d := (some 35)) (ty := 4) (g := none) (by kernel_rfl) (by kernel_rfl) (by kernel_rfl) [] (impl_in n v8.Id 1 99 r9 er9) (by kernel_rfl) (.inl rfl) ?_
                      refine LAt.fin (by kernel_rfl) (And.intro (And.intro (by kernel_rfl) (by kernel_rfl)) ?_)
                      refine AT.runU tOk [(3, []), (4, [])] 31 [⟨[2, 24, 25], 3, 33, 34⟩] [4, 3, 2, 1, 0] rfl (by kernel_rfl) (fun cx => ?_)
                      refine AT.to ⟨82, 0, [(37, .val false [.lit (.bool (!r9))]), (36, .val false [.lit (.bool (!r9))]), (35, .val false [.lit (.bool r9)]), (34, .val false [.lit (.int .i64 v8.Id)]), (33, .adr (.box 6) [(0, 0)] 3 0), (5, .val false [.lit (.int .i64 y2)]), (6, .adr (.box 6) [(0, 0)] 3 0), (32, .val true (Vrow.row v8)), (31, .fad ((Vrow.row v8))), (30, .val false [.lit (.int .i64 y2)]), (29, .val false [.lit (.bool true)]), (28, .val false [.lit (.int .i64 y2)]), (27, .val false [.lit (.int .i64 (x0.Rows.length : Int))]), (26, .val false [.sl false 3 (CV.frzEs (x0.Rows.map Vrow.row))]), (4, .val false [.lit (.bool false)]), (2, .adr (.box 2) [(0, 0)] 2 0), (1, .val false [.lit (.int .i64 x1)])], [(6, (Vrow.row v8)), (2, (CV.frzRow (Vtab.row x0)))]⟩ (by kernel_rfl) ?_
                      rw [h7]
                      refine AT.runU tOk [(5, []), (6, []), (7, [])] 28 [⟨[2, 24, 25], 3, 33, 34⟩] [7, 6, 5, 4, 3, 2, 1, 0] rfl (by kernel_rfl) (fun cx => ?_)
                      refine AT.to ⟨82, 0, [(40, .val false [.lit (.bool (decide (y2 > 0)))]), (39, .val false [.lit (.bool (decide (y2 > 0)))]), (38, .val false [.lit (.int .i64 y2)]), (37, .val false [.lit (.bool false)]), (36, .val false [.lit (.bool false)]), (35, .val false [.lit (.bool r9)]), (34, .val false [.lit (.int .i64 v8.Id)]), (33, .adr (.box 6) [(0, 0)] 3 0), (5, .val false [.lit (.int .i64 y2)]), (6, .adr (.box 6) [(0, 0)] 3 0), (32, .val true (Vrow.row v8)), (31, .fad ((Vrow.row v8))), (30, .val false [.lit (.int .i64 y2)]), (29, .val false [.lit (.bool true)]), (28, .val false [.lit (.int .i64 y2)]), (27, .val false [.lit (.int .i64 (x0.Rows.length : Int))]), (26, .val false [.sl false 3 (CV.frzEs (x0.Rows.map Vrow.row))]), (4, .val false [.lit (.bool false)]), (2, .adr (.box 2) [(0, 0)] 2 0), (1, .val false [.lit (.int .i64 x1)])], [(6, (Vrow.row v8)), (2, (CV.frzRow (Vtab.row x0)))]⟩ (by kernel_rfl) ?_
                      rw [h8]
                      refine AT.runU tOk [(8, []), (9, []), (10, []), (11, []), (12, []), (13, []), (14, []), (15, []), (16, []), (17, []), (18, []), (19, []), (20, []), (21, []), (22, [25]), (23, [])] 12 [⟨[25], 3, 54, 55⟩, ⟨[2, 24, 25], 3, 33, 34⟩] [23, 22, 21, 20, 19, 18, 17, 16, 15, 14, 13, 12, 11, 10, 9, 8, 7, 6, 5, 4, 3, 2, 1, 0] rfl (by kernel_rfl) (fun cx => ?_)
                      refine AT.big1 tOk 24 (by kernel_rfl) (by kernel_rfl) ?_
                      refine LAt.callU tOk [.rd] (f := 110) (av := #[.tmp 56]) (ats := #[3]) (d := (some 57)) (ty := 3) (g := (some (20, false))) (by kernel_rfl) (by kernel_rfl) (by kernel_rfl) [] (impl_allPorts n x1 r10 er10) (by kernel_rfl) (.inl rfl) ?_
                      refine LAt.fin (by kernel_rfl) (And.intro (And.intro (by kernel_rfl) (by kernel_rfl)) ?_)
                      refine AT.big1 tOk 25 (by kernel_rfl) (by kernel_rfl) ?_
                      refine LAt.callU tOk [.rd, .rd, .rd] (f := 82) (av := #[.tmp 55, .const (.int .i64 0), .tmp 57]) (ats := #[3, 3, 3]) (d := (some 58)) (ty := 4) (g := (some (20, false))) (by kernel_rfl) (by kernel_rfl) (by kernel_rfl) [] (impl_in n v8.Members 0 r10 r11 er11) (by kernel_rfl) (.inl rfl) ?_
                      refine LAt.fin (by kernel_rfl) (And.intro (And.intro (by kernel_rfl) (by kernel_rfl)) ?_)
                      refine AT.runU tOk [(26, []), (27, []), (28, [])] 7 [⟨[25], 3, 54, 55⟩, ⟨[2, 24, 25], 3, 33, 34⟩] [28, 27, 26, 25, 24, 23, 22, 21, 20, 19, 18, 17, 16, 15, 14, 13, 12, 11, 10, 9, 8, 7, 6, 5, 4, 3, 2, 1, 0] rfl (by kernel_rfl) (fun cx => ?_)
                      refine AT.to ⟨82, 0, [(61, .val false [.lit (.bool (!r11))]), (60, .val false [.lit (.bool (!r11))]), (59, .val false [.lit (.bool (!r11))]), (58, .val false [.lit (.bool r11)]), (57, .val false [.lit (.int .i64 r10)]), (56, .val false [.lit (.int .i64 x1)]), (55, .val false [.lit (.int .i64 v8.Members)]), (54, .adr (.box 6) [(0, 0)] 3 1), (53, .val false [.lit (.bool false)]), (52, .val false [.lit (.bool false)]), (51, .val false [.lit (.bool false)]), (50, .tup []), (49, .tup []), (48, .tup []), (47, .tup []), (46, .tup []), (45, .tup []), (44, .tup []), (43, .tup []), (42, .tup []), (41, .tup []), (40, .val false [.lit (.bool false)]), (39, .val false [.lit (.bool false)]), (38, .val false [.lit (.int .i64 y2)]), (37, .val false [.lit (.bool false)]), (36, .val false [.lit (.bool false)]), (35, .val false [.lit (.bool r9)]), (34, .val false [.lit (.int .i64 v8.Id)]), (33, .adr (.box 6) [(0, 0)] 3 0), (5, .val false [.lit (.int .i64 y2)]), (6, .adr (.box 6) [(0, 0)] 3 0), (32, .val true (Vrow.row v8)), (31, .fad ((Vrow.row v8))), (30, .val false [.lit (.int .i64 y2)]), (29, .val false [.lit (.bool true)]), (28, .val false [.lit (.int .i64 y2)]), (27, .val false [.lit (.int .i64 (x0.Rows.length : Int))]), (26, .val false [.sl false 3 (CV.frzEs (x0.Rows.map Vrow.row))]), (4, .val false [.lit (.bool false)]), (2, .adr (.box 2) [(0, 0)] 2 0), (1, .val false [.lit (.int .i64 x1)])], [(6, (Vrow.row v8)), (2, (CV.frzRow (Vtab.row x0)))]⟩ (by kernel_rfl) ?_
                      rw [h9]
                      refine AT.runU tOk [(29, []), (30, []), (31, []), (32, []), (33, []), (34, []), (35, [])] 0 [⟨[], 3, 64, 65⟩, ⟨[], 3, 62, 63⟩, ⟨[25], 3, 54, 55⟩, ⟨[2, 24, 25], 3, 33, 34⟩] [35, 34, 33, 32, 31, 30, 29, 28, 27, 26, 25, 24, 23, 22, 21, 20, 19, 18, 17, 16, 15, 14, 13, 12, 11, 10, 9, 8, 7, 6, 5, 4, 3, 2, 1, 0] rfl (by kernel_rfl) (fun cx => ?_)
                      exact AT.done [68, 67, 66, 65, 64, 63, 62, 61, 60, 59, 58, 57, 56, 55, 54, 53, 52, 51, 50, 49, 48, 47, 46, 45, 44, 43, 42, 41, 40, 39, 38, 37, 36, 35, 34, 33, 5, 6, 32, 31, 30, 29, 28, 27, 26, 4, 2, 1] [6, 2] _ (by kernel_rfl) (by kernel_rfl) rfl
                    · refine Tr.to ⟨82, 0, [(68, .val false [.lit (.bool ((IntKind.wrap .i64 (BitVec.ofInt (IntKind.bits .i64) v8.Bare &&& ~~~BitVec.ofInt (IntKind.bits .i64) v8.Members).toNat) != 0))]), (67, .val false [.lit (.bool ((IntKind.wrap .i64 (BitVec.ofInt (IntKind.bits .i64) v8.Bare &&& ~~~BitVec.ofInt (IntKind.bits .i64) v8.Members).toNat) != 0))]), (66, .val false [.lit (.int .i64 (IntKind.wrap .i64 (BitVec.ofInt (IntKind.bits .i64) v8.Bare &&& ~~~BitVec.ofInt (IntKind.bits .i64) v8.Members).toNat))]), (65, .val false [.lit (.int .i64 v8.Members)]), (64, .adr (.box 6) [(0, 0)] 3 1), (63, .val false [.lit (.int .i64 v8.Bare)]), (62, .adr (.box 6) [(0, 0)] 3 2), (61, .val false [.lit (.bool false)]), (60, .val false [.lit (.bool false)]), (59, .val false [.lit (.bool false)]), (58, .val false [.lit (.bool r11)]), (57, .val false [.lit (.int .i64 r10)]), (56, .val false [.lit (.int .i64 x1)]), (55, .val false [.lit (.int .i64 v8.Members)]), (54, .adr (.box 6) [(0, 0)] 3 1), (53, .val false [.lit (.bool false)]), (52, .val false [.lit (.bool false)]), (51, .val false [.lit (.bool false)]), (50, .tup []), (49, .tup []), (48, .tup []), (47, .tup []), (46, .tup []), (45, .tup []), (44, .tup []), (43, .tup []), (42, .tup []), (41, .tup []), (40, .val false [.lit (.bool false)]), (39, .val false [.lit (.bool false)]), (38, .val false [.lit (.int .i64 y2)]), (37, .val false [.lit (.bool false)]), (36, .val false [.lit (.bool false)]), (35, .val false [.lit (.bool r9)]), (34, .val false [.lit (.int .i64 v8.Id)]), (33, .adr (.box 6) [(0, 0)] 3 0), (5, .val false [.lit (.int .i64 y2)]), (6, .adr (.box 6) [(0, 0)] 3 0), (32, .val true (Vrow.row v8)), (31, .fad ((Vrow.row v8))), (30, .val false [.lit (.int .i64 y2)]), (29, .val false [.lit (.bool true)]), (28, .val false [.lit (.int .i64 y2)]), (27, .val false [.lit (.int .i64 (x0.Rows.length : Int))]), (26, .val false [.sl false 3 (CV.frzEs (x0.Rows.map Vrow.row))]), (4, .val false [.lit (.bool false)]), (2, .adr (.box 2) [(0, 0)] 2 0), (1, .val false [.lit (.int .i64 x1)])], [(6, (Vrow.row v8)), (2, (CV.frzRow (Vtab.row x0)))]⟩ (by kernel_rfl) ?_
                      cases h10 : ((IntKind.wrap .i64 (BitVec.ofInt (IntKind.bits .i64) v8.Bare &&& ~~~BitVec.ofInt (IntKind.bits .i64) v8.Members).toNat) != 0)
                      · have H := bifF h10 H
                        refine Tr.cond (b := false) (by kernel_rfl) (fun h => nomatch h) (fun _ => ?_)
                        refine Tr.skip ?_
                        show Tr _ _ _ _ _
                        refine Tr.at ?_
                        refine LAt.runU tOk 2 (by kernel_rfl) ?_
                        refine LAt.doneU [28, 69, 68, 67, 66, 65, 64, 63, 62, 61, 60, 59, 58, 57, 56, 55, 54, 53, 52, 51, 50, 49, 48, 47, 46, 45, 44, 43, 42, 41, 40, 39, 38, 37, 36, 35, 34, 33, 5, 6, 32, 31, 30, 29, 27, 26, 4, 2, 1] [6, 2] (by kernel_rfl) ?_
                        exact Exists.intro (mo7, (IntKind.wrap .i64 (y2 + 1))) (And.intro H (And.intro (Nat.lt_succ_self mo7) (St.sub_of [28, 27, 26, 4, 2, 1] [2] (by kernel_rfl))))
                      · have H := bifT h10 H
                        refine Tr.cond (b := true) (by kernel_rfl) (fun _ => ?_) (fun h => nomatch h)
                        refine Tr.rs ?_
                        refine LAt.runU tOk 1 (by kernel_rfl) ?_
                        refine LAt.doneU [4, 68, 67, 66, 65, 64, 63, 62, 61, 60, 59, 58, 57, 56, 55, 54, 53, 52, 51, 50, 49, 48, 47, 46, 45, 44, 43, 42, 41, 40, 39, 38, 37, 36, 35, 34, 33, 5, 6, 32, 31, 30, 29, 28, 27, 26, 2, 1] [6, 2] (by kernel_rfl) ?_
                        refine Tr.ret ?_
                        have H := Option.some.inj H
                        subst H
                        have H := Ho7
                        dsimp only at H
                        have H := Option.some.inj H
                        subst H
                        exact Fin.of _ [(false, [.lit (.bool false)])] (by kernel_rfl) rfl rfl
                  · have H := bifT h9 H
                    refine Tr.draws mixed 36 (by kernel_rfl) ⟨82, 0, [(68, .val false [.lit (.bool true)]), (67, .tup []), (66, .tup []), (65, .tup []), (64, .tup []), (63, .tup []), (62, .tup []), (61, .val false [.lit (.bool true)]), (60, .val false [.lit (.bool true)]), (59, .val false [.lit (.bool true)]), (58, .val false [.lit (.bool r11)]), (57, .val false [.lit (.int .i64 r10)]), (56, .val false [.lit (.int .i64 x1)]), (55, .val false [.lit (.int .i64 v8.Members)]), (54, .adr (.box 6) [(0, 0)] 3 1), (53, .val false [.lit (.bool false)]), (52, .val false [.lit (.bool false)]), (51, .val false [.lit (.bool false)]), (50, .tup []), (49, .tup []), (48, .tup []), (47, .tup []), (46, .tup []), (45, .tup []), (44, .tup []), (43, .tup []), (42, .tup []), (41, .tup []), (40, .val false [.lit (.bool false)]), (39, .val false [.lit (.bool false)]), (38, .val false [.lit (.int .i64 y2)]), (37, .val false [.lit (.bool false)]), (36, .val false [.lit (.bool false)]), (35, .val false [.lit (.bool r9)]), (34, .val false [.lit (.int .i64 v8.Id)]), (33, .adr (.box 6) [(0, 0)] 3 0), (5, .val false [.lit (.int .i64 y2)]), (6, .adr (.box 6) [(0, 0)] 3 0), (32, .val true (Vrow.row v8)), (31, .fad ((Vrow.row v8))), (30, .val false [.lit (.int .i64 y2)]), (29, .val false [.lit (.bool true)]), (28, .val false [.lit (.int .i64 y2)]), (27, .val false [.lit (.int .i64 (x0.Rows.length : Int))]), (26, .val false [.sl false 3 (CV.frzEs (x0.Rows.map Vrow.row))]), (4, .val false [.lit (.bool false)]), (2, .adr (.box 2) [(0, 0)] 2 0), (1, .val false [.lit (.int .i64 x1)])], [(6, (Vrow.row v8)), (2, (CV.frzRow (Vtab.row x0)))]⟩ (fun cx => ?_) ?_
                    · refine AT.runU tOk [(0, []), (1, [2, 24, 25])] 34 [⟨[2, 24, 25], 3, 33, 34⟩] [1, 0] rfl (by kernel_rfl) (fun cx => ?_)
                      refine AT.big1 tOk 2 (by kernel_rfl) (by kernel_rfl) ?_
                      refine LAt.callU tOk [.rd, .rd, .rd] (f := 82) (av := #[.tmp 34, .const (.int .i64 1), .const (.int .i64 99)]) (ats := #[3, 3, 3]) (d := (some 35)) (ty := 4) (g := none) (by kernel_rfl) (by kernel_rfl) (by kernel_rfl) [] (impl_in n v8.Id 1 99 r9 er9) (by kernel_rfl) (.inl rfl) ?_
                      refine LAt.fin (by kernel_rfl) (And.intro (And.intro (by kernel_rfl) (by kernel_rfl)) ?_)
                      refine AT.runU tOk [(3, []), (4, [])] 31 [⟨[2, 24, 25], 3, 33, 34⟩] [4, 3, 2, 1, 0] rfl (by kernel_rfl) (fun cx => ?_)
                      refine AT.to ⟨82, 0, [(37, .val false [.lit (.bool (!r9))]), (36, .val false [.lit (.bool (!r9))]), (35, .val false [.lit (.bool r9)]), (34, .val false [.lit (.int .i64 v8.Id)]), (33, .adr (.box 6) [(0, 0)] 3 0), (5, .val false [.lit (.int .i64 y2)]), (6, .adr (.box 6) [(0, 0)] 3 0), (32, .val true (Vrow.row v8)), (31, .fad ((Vrow.row v8))), (30, .val false [.lit (.int .i64 y2)]), (29, .val false [.lit (.bool true)]), (28, .val false [.lit (.int .i64 y2)]), (27, .val false [.lit (.int .i64 (x0.Rows.length : Int))]), (26, .val false [.sl false 3 (CV.frzEs (x0.Rows.map Vrow.row))]), (4, .val false [.lit (.bool false)]), (2, .adr (.box 2) [(0, 0)] 2 0), (1, .val false [.lit (.int .i64 x1)])], [(6, (Vrow.row v8)), (2, (CV.frzRow (Vtab.row x0)))]⟩ (by kernel_rfl) ?_
                      rw [h7]
                      refine AT.runU tOk [(5, []), (6, []), (7, [])] 28 [⟨[2, 24, 25], 3, 33, 34⟩] [7, 6, 5, 4, 3, 2, 1, 0] rfl (by kernel_rfl) (fun cx => ?_)
                      refine AT.to ⟨82, 0, [(40, .val false [.lit (.bool (decide (y2 > 0)))]), (39, .val false [.lit (.bool (decide (y2 > 0)))]), (38, .val false [.lit (.int .i64 y2)]), (37, .val false [.lit (.bool false)]), (36, .val false [.lit (.bool false)]), (35, .val false [.lit (.bool r9)]), (34, .val false [.lit (.int .i64 v8.Id)]), (33, .adr (.box 6) [(0, 0)] 3 0), (5, .val false [.lit (.int .i64 y2)]), (6, .adr (.box 6) [(0, 0)] 3 0), (32, .val true (Vrow.row v8)), (31, .fad ((Vrow.row v8))), (30, .val false [.lit (.int .i64 y2)]), (29, .val false [.lit (.bool true)]), (28, .val false [.lit (.int .i64 y2)]), (27, .val false [.lit (.int .i64 (x0.Rows.length : Int))]), (26, .val false [.sl false 3 (CV.frzEs (x0.Rows.map Vrow.row))]), (4, .val false [.lit (.bool false)]), (2, .adr (.box 2) [(0, 0)] 2 0), (1, .val false [.lit (.int .i64 x1)])], [(6, (Vrow.row v8)), (2, (CV.frzRow (Vtab.row x0)))]⟩ (by kernel_rfl) ?_
                      rw [h8]
                      refine AT.runU tOk [(8, []), (9, []), (10, []), (11, []), (12, []), (13, []), (14, []), (15, []), (16, []), (17, []), (18, []), (19, []), (20, []), (21, []), (22, [25]), (23, [])] 12 [⟨[25], 3, 54, 55⟩, ⟨[2, 24, 25], 3, 33, 34⟩] [23, 22, 21, 20, 19, 18, 17, 16, 15, 14, 13, 12, 11, 10, 9, 8, 7, 6, 5, 4, 3, 2, 1, 0] rfl (by kernel_rfl) (fun cx => ?_)
                      refine AT.big1 tOk 24 (by kernel_rfl) (by kernel_rfl) ?_
                      refine LAt.callU tOk [.rd] (f := 110) (av := #[.tmp 56]) (ats := #[3]) (d := (some 57)) (ty := 3) (g := (some (20, false))) (by kernel_rfl) (by kernel_rfl) (by kernel_rfl) [] (impl_allPorts n x1 r10 er10) (by kernel_rfl) (.inl rfl) ?_
                      refine LAt.fin (by kernel_rfl) (And.intro (And.intro (by kernel_rfl) (by kernel_rfl)) ?_)
                      refine AT.big1 tOk 25 (by kernel_rfl) (by kernel_rfl) ?_
                      refine LAt.callU tOk [.rd, .rd, .rd] (f := 82) (av := #[.tmp 55, .const (.int .i64 0), .tmp 57]) (ats := #[3, 3, 3]) (d := (some 58)) (ty := 4) (g := (some (20, false))) (by kernel_rfl) (by kernel_rfl) (by kernel_rfl) [] (impl_in n v8.Members 0 r10 r11 er11) (by kernel_rfl) (.inl rfl) ?_
                      refine LAt.fin (by kernel_rfl) (And.intro (And.intro (by kernel_rfl) (by kernel_rfl)) ?_)
                      refine AT.runU tOk [(26, []), (27, []), (28, [])] 7 [⟨[25], 3, 54, 55⟩, ⟨[2, 24, 25], 3, 33, 34⟩] [28, 27, 26, 25, 24, 23, 22, 21, 20, 19, 18, 17, 16, 15, 14, 13, 12, 11, 10, 9, 8, 7, 6, 5, 4, 3, 2, 1, 0] rfl (by kernel_rfl) (fun cx => ?_)
                      refine AT.to ⟨82, 0, [(61, .val false [.lit (.bool (!r11))]), (60, .val false [.lit (.bool (!r11))]), (59, .val false [.lit (.bool (!r11))]), (58, .val false [.lit (.bool r11)]), (57, .val false [.lit (.int .i64 r10)]), (56, .val false [.lit (.int .i64 x1)]), (55, .val false [.lit (.int .i64 v8.Members)]), (54, .adr (.box 6) [(0, 0)] 3 1), (53, .val false [.lit (.bool false)]), (52, .val false [.lit (.bool false)]), (51, .val false [.lit (.bool false)]), (50, .tup []), (49, .tup []), (48, .tup []), (47, .tup []), (46, .tup []), (45, .tup []), (44, .tup []), (43, .tup []), (42, .tup []), (41, .tup []), (40, .val false [.lit (.bool false)]), (39, .val false [.lit (.bool false)]), (38, .val false [.lit (.int .i64 y2)]), (37, .val false [.lit (.bool false)]), (36, .val false [.lit (.bool false)]), (35, .val false [.lit (.bool r9)]), (34, .val false [.lit (.int .i64 v8.Id)]), (33, .adr (.box 6) [(0, 0)] 3 0), (5, .val false [.lit (.int .i64 y2)]), (6, .adr (.box 6) [(0, 0)] 3 0), (32, .val true (Vrow.row v8)), (31, .fad ((Vrow.row v8))), (30, .val false [.lit (.int .i64 y2)]), (29, .val false [.lit (.bool true)]), (28, .val false [.lit (.int .i64 y2)]), (27, .val false [.lit (.int .i64 (x0.Rows.length : Int))]), (26, .val false [.sl false 3 (CV.frzEs (x0.Rows.map Vrow.row))]), (4, .val false [.lit (.bool false)]), (2, .adr (.box 2) [(0, 0)] 2 0), (1, .val false [.lit (.int .i64 x1)])], [(6, (Vrow.row v8)), (2, (CV.frzRow (Vtab.row x0)))]⟩ (by kernel_rfl) ?_
                      rw [h9]
                      refine AT.runU tOk [(29, []), (30, []), (31, []), (32, []), (33, []), (34, []), (35, [])] 0 [⟨[25], 3, 54, 55⟩, ⟨[2, 24, 25], 3, 33, 34⟩] [35, 34, 33, 32, 31, 30, 29, 28, 27, 26, 25, 24, 23, 22, 21, 20, 19, 18, 17, 16, 15, 14, 13, 12, 11, 10, 9, 8, 7, 6, 5, 4, 3, 2, 1, 0] rfl (by kernel_rfl) (fun cx => ?_)
                      exact AT.done [68, 67, 66, 65, 64, 63, 62, 61, 60, 59, 58, 57, 56, 55, 54, 53, 52, 51, 50, 49, 48, 47, 46, 45, 44, 43, 42, 41, 40, 39, 38, 37, 36, 35, 34, 33, 5, 6, 32, 31, 30, 29, 28, 27, 26, 4, 2, 1] [6, 2] _ (by kernel_rfl) (by kernel_rfl) rfl
                    · refine Tr.cond (b := true) (by kernel_rfl) (fun _ => ?_) (fun h => nomatch h)
                      refine Tr.rs ?_
                      refine LAt.runU tOk 1 (by kernel_rfl) ?_
                      refine LAt.doneU [4, 68, 67, 66, 65, 64, 63, 62, 61, 60, 59, 58, 57, 56, 55, 54, 53, 52, 51, 50, 49, 48, 47, 46, 45, 44, 43, 42, 41, 40, 39, 38, 37, 36, 35, 34, 33, 5, 6, 32, 31, 30, 29, 28, 27, 26, 2, 1] [6, 2] (by kernel_rfl) ?_
                      refine Tr.ret ?_
                      have H := Option.some.inj H
                      subst H
                      have H := Ho7
                      dsimp only at H
                      have H := Option.some.inj H
                      subst H
                      exact Fin.of _ [(false, [.lit (.bool false)])] (by kernel_rfl) rfl rfl
                · have H := bifT h8 H
                  obtain ⟨v12, ev12, H⟩ := bind_some H
                  refine Tr.to ⟨82, 0, [(5, .val false [.lit (.int .i64 y2)]), (6, .adr (.box 6) [(0, 0)] 3 0), (32, .val true (Vrow.row v8)), (31, .fad ((Vrow.row v8))), (30, .val false [.lit (.int .i64 y2)]), (29, .val false [.lit (.bool true)]), (28, .val false [.lit (.int .i64 y2)]), (27, .val false [.lit (.int .i64 (x0.Rows.length : Int))]), (26, .val false [.sl false 3 (CV.frzEs (x0.Rows.map Vrow.row))]), (4, .val false [.lit (.bool false)]), (2, .adr (.box 2) [(0, 0)] 2 0), (1, .val false [.lit (.int .i64 x1)])], [(6, (Vrow.row v8)), (2, (CV.frzRow (Vtab.row x0)))]⟩ (by kernel_rfl) ?_
                  cases h11 : (decide (v12.Id ≥ v8.Id))
                  · have H := bifF h11 H
                    obtain ⟨r13, er13, H⟩ := bind_some H
                    obtain ⟨r14, er14, H⟩ := bind_some H
                    refine Tr.to ⟨82, 0, [(5, .val false [.lit (.int .i64 y2)]), (6, .adr (.box 6) [(0, 0)] 3 0), (32, .val true (Vrow.row v8)), (31, .fad ((Vrow.row v8))), (30, .val false [.lit (.int .i64 y2)]), (29, .val false [.lit (.bool true)]), (28, .val false [.lit (.int .i64 y2)]), (27, .val false [.lit (.int .i64 (x0.Rows.length : Int))]), (26, .val false [.sl false 3 (CV.frzEs (x0.Rows.map Vrow.row))]), (4, .val false [.lit (.bool false)]), (2, .adr (.box 2) [(0, 0)] 2 0), (1, .val false [.lit (.int .i64 x1)])], [(6, (Vrow.row v8)), (2, (CV.frzRow (Vtab.row x0)))]⟩ (by kernel_rfl) ?_
                    cases h12 : (!r14)
                    · have H := bifF h12 H
                      refine Tr.draws mixed 36 (by kernel_rfl) ⟨82, 0, [(68, .val false [.lit (.bool ((IntKind.wrap .i64 (BitVec.ofInt (IntKind.bits .i64) v8.Bare &&& ~~~BitVec.ofInt (IntKind.bits .i64) v8.Members).toNat) != 0))]), (67, .val false [.lit (.bool ((IntKind.wrap .i64 (BitVec.ofInt (IntKind.bits .i64) v8.Bare &&& ~~~BitVec.ofInt (IntKind.bits .i64) v8.Members).toNat) != 0))]), (66, .val false [.lit (.int .i64 (IntKind.wrap .i64 (BitVec.ofInt (IntKind.bits .i64) v8.Bare &&& ~~~BitVec.ofInt (IntKind.bits .i64) v8.Members).toNat))]), (65, .val false [.lit (.int .i64 v8.Members)]), (64, .adr (.box 6) [(0, 0)] 3 1), (63, .val false [.lit (.int .i64 v8.Bare)]), (62, .adr (.box 6) [(0, 0)] 3 2), (61, .val false [.lit (.bool false)]), (60, .val false [.lit (.bool false)]), (59, .val false [.lit (.bool false)]), (58, .val false [.lit (.bool r14)]), (57, .val false [.lit (.int .i64 r13)]), (56, .val false [.lit (.int .i64 x1)]), (55, .val false [.lit (.int .i64 v8.Members)]), (54, .adr (.box 6) [(0, 0)] 3 1), (53, .val false [.lit (.bool false)]), (52, .val false [.lit (.bool false)]), (51, .val false [.lit (.bool false)]), (50, .val false [.lit (.bool false)]), (49, .val false [.lit (.int .i64 v8.Id)]), (48, .adr (.box 6) [(0, 0)] 3 0), (47, .val false [.lit (.int .i64 v12.Id)]), (46, .fad ((Vrow.row v12))), (45, .fad ((Vrow.row v12))), (44, .val false [.lit (.int .i64 (IntKind.wrap .i64 (y2 - 1)))]), (43, .val false [.lit (.int .i64 y2)]), (42, .ref (.box 2) [(0, 0)] 2 0 1 false), (41, .adr (.box 2) [(0, 0)] 2 0), (40, .val false [.lit (.bool true)]), (39, .val false [.lit (.bool true)]), (38, .val false [.lit (.int .i64 y2)]), (37, .val false [.lit (.bool false)]), (36, .val false [.lit (.bool false)]), (35, .val false [.lit (.bool r9)]), (34, .val false [.lit (.int .i64 v8.Id)]), (33, .adr (.box 6) [(0, 0)] 3 0), (5, .val false [.lit (.int .i64 y2)]), (6, .adr (.box 6) [(0, 0)] 3 0), (32, .val true (Vrow.row v8)), (31, .fad ((Vrow.row v8))), (30, .val false [.lit (.int .i64 y2)]), (29, .val false [.lit (.bool true)]), (28, .val false [.lit (.int .i64 y2)]), (27, .val false [.lit (.int .i64 (x0.Rows.length : Int))]), (26, .val false [.sl false 3 (CV.frzEs (x0.Rows.map Vrow.row))]), (4, .val false [.lit (.bool false)]), (2, .adr (.box 2) [(0, 0)] 2 0), (1, .val false [.lit (.int .i64 x1)])], [(6, (Vrow.row v8)), (2, (CV.frzRow (Vtab.row x0)))]⟩ (fun cx => ?_) ?_
                      · refine AT.runU tOk [(0, []), (1, [2, 24, 25])] 34 [⟨[2, 24, 25], 3, 33, 34⟩] [1, 0] rfl (by kernel_rfl) (fun cx => ?_)
                        refine AT.big1 tOk 2 (by kernel_rfl) (by kernel_rfl) ?_
                        refine LAt.callU tOk [.rd, .rd, .rd] (f := 82) (av := #[.tmp 34, .const (.int .i64 1), .const (.int .i64 99)]) (ats := #[3, 3, 3]) (d := (some 35)) (ty := 4) (g := none) (by kernel_rfl) (by kernel_rfl) (by kernel_rfl) [] (impl_in n v8.Id 1 99 r9 er9) (by kernel_rfl) (.inl rfl) ?_
                        refine LAt.fin (by kernel_rfl) (And.intro (And.intro (by kernel_rfl) (by kernel_rfl)) ?_)
                        refine AT.runU tOk [(3, []), (4, [])] 31 [⟨[2, 24, 25], 3, 33, 34⟩] [4, 3, 2, 1, 0] rfl (by kernel_rfl) (fun cx => ?_)
                        refine AT.to ⟨82, 0, [(37, .val false [.lit (.bool (!r9))]), (36, .val false [.lit (.bool (!r9))]), (35, .val false [.lit (.bool r9)]), (34, .val false [.lit (.int .i64 v8.Id)]), (33, .adr (.box 6) [(0, 0)] 3 0), (5, .val false [.lit (.int .i64 y2)]), (6, .adr (.box 6) [(0, 0)] 3 0), (32, .val true (Vrow.row v8)), (31, .fad ((Vrow.row v8))), (30, .val false [.lit (.int .i64 y2)]), (29, .val false [.lit (.bool true)]), (28, .val false [.lit (.int .i64 y2)]), (27, .val false [.lit (.int .i64 (x0.Rows.length : Int))]), (26, .val false [.sl false 3 (CV.frzEs (x0.Rows.map Vrow.row))]), (4, .val false [.lit (.bool false)]), (2, .adr (.box 2) [(0, 0)] 2 0), (1, .val false [.lit (.int .i64 x1)])], [(6, (Vrow.row v8)), (2, (CV.frzRow (Vtab.row x0)))]⟩ (by kernel_rfl) ?_
                        rw [h7]
                        refine AT.runU tOk [(5, []), (6, []), (7, [])] 28 [⟨[2, 24, 25], 3, 33, 34⟩] [7, 6, 5, 4, 3, 2, 1, 0] rfl (by kernel_rfl) (fun cx => ?_)
                        refine AT.to ⟨82, 0, [(40, .val false [.lit (.bool (decide (y2 > 0)))]), (39, .val false [.lit (.bool (decide (y2 > 0)))]), (38, .val false [.lit (.int .i64 y2)]), (37, .val false [.lit (.bool false)]), (36, .val false [.lit (.bool false)]), (35, .val false [.lit (.bool r9)]), (34, .val false [.lit (.int .i64 v8.Id)]), (33, .adr (.box 6) [(0, 0)] 3 0), (5, .val false [.lit (.int .i64 y2)]), (6, .adr (.box 6) [(0, 0)] 3 0), (32, .val true (Vrow.row v8)), (31, .fad ((Vrow.row v8))), (30, .val false [.lit (.int .i64 y2)]), (29, .val false [.lit (.bool true)]), (28, .val false [.lit (.int .i64 y2)]), (27, .val false [.lit (.int .i64 (x0.Rows.length : Int))]), (26, .val false [.sl false 3 (CV.frzEs (x0.Rows.map Vrow.row))]), (4, .val false [.lit (.bool false)]), (2, .adr (.box 2) [(0, 0)] 2 0), (1, .val false [.lit (.int .i64 x1)])], [(6, (Vrow.row v8)), (2, (CV.frzRow (Vtab.row x0)))]⟩ (by kernel_rfl) ?_
                        rw [h8]
                        refine AT.runU tOk [(8, []), (9, [24, 25]), (10, []), (11, [])] 24 [⟨[24, 25], 27, 41, 42⟩, ⟨[2, 24, 25], 3, 33, 34⟩] [11, 10, 9, 8, 7, 6, 5, 4, 3, 2, 1, 0] rfl (by kernel_rfl) (fun cx => ?_)
                        refine AT.indexF tOk 12 (t := 27) (ty := 0) (x := (.tmp 42)) (y := (.tmp 44)) (d := 45) (g := (some (7, true))) ⟨(.box 2), [(0, 0)], 0, false, 3, (CV.frzEs (x0.Rows.map Vrow.row))⟩ (IntKind.wrap .i64 (y2 - 1)) (Vrow.row v12) _ (by kernel_rfl) (by kernel_rfl) (by kernel_rfl) (by kernel_rfl) (by kernel_rfl) (by kernel_rfl) rfl (idx_isF ev12) rfl (fun cx => ?_)
                        refine AT.runU tOk [(13, []), (14, []), (15, []), (16, [24, 25]), (17, []), (18, []), (19, []), (20, [])] 15 [⟨[24, 25], 3, 48, 49⟩, ⟨[24, 25], 27, 41, 42⟩, ⟨[2, 24, 25], 3, 33, 34⟩] [20, 19, 18, 17, 16, 15, 14, 13, 12, 11, 10, 9, 8, 7, 6, 5, 4, 3, 2, 1, 0] rfl (by kernel_rfl) (fun cx => ?_)
                        refine AT.to ⟨82, 0, [(53, .val false [.lit (.bool (decide (v12.Id ≥ v8.Id)))]), (52, .val false [.lit (.bool (decide (v12.Id ≥ v8.Id)))]), (51, .val false [.lit (.bool (decide (v12.Id ≥ v8.Id)))]), (50, .val false [.lit (.bool (decide (v12.Id ≥ v8.Id)))]), (49, .val false [.lit (.int .i64 v8.Id)]), (48, .adr (.box 6) [(0, 0)] 3 0), (47, .val false [.lit (.int .i64 v12.Id)]), (46, .fad ((Vrow.row v12))), (45, .fad ((Vrow.row v12))), (44, .val false [.lit (.int .i64 (IntKind.wrap .i64 (y2 - 1)))]), (43, .val false [.lit (.int .i64 y2)]), (42, .ref (.box 2) [(0, 0)] 2 0 1 false), (41, .adr (.box 2) [(0, 0)] 2 0), (40, .val false [.lit (.bool true)]), (39, .val false [.lit (.bool true)]), (38, .val false [.lit (.int .i64 y2)]), (37, .val false [.lit (.bool false)]), (36, .val false [.lit (.bool false)]), (35, .val false [.lit (.bool r9)]), (34, .val false [.lit (.int .i64 v8.Id)]), (33, .adr (.box 6) [(0, 0)] 3 0), (5, .val false [.lit (.int .i64 y2)]), (6, .adr (.box 6) [(0, 0)] 3 0), (32, .val true (Vrow.row v8)), (31, .fad ((Vrow.row v8))), (30, .val false [.lit (.int .i64 y2)]), (29, .val false [.lit (.bool true)]), (28, .val false [.lit (.int .i64 y2)]), (27, .val false [.lit (.int .i64 (x0.Rows.length : Int))]), (26, .val false [.sl false 3 (CV.frzEs (x0.Rows.map Vrow.row))]), (4, .val false [.lit (.bool false)]), (2, .adr (.box 2) [(0, 0)] 2 0), (1, .val false [.lit (.int .i64 x1)])], [(6, (Vrow.row v8)), (2, (CV.frzRow (Vtab.row x0)))]⟩ (by kernel_rfl) ?_
                        rw [h11]
                        refine AT.runU tOk [(21, []), (22, [25]), (23, [])] 12 [⟨[25], 3, 54, 55⟩, ⟨[24, 25], 3, 48, 49⟩, ⟨[24, 25], 27, 41, 42⟩, ⟨[2, 24, 25], 3, 33, 34⟩] [23, 22, 21, 20, 19, 18, 17, 16, 15, 14, 13, 12, 11, 10, 9, 8, 7, 6, 5, 4, 3, 2, 1, 0] rfl (by kernel_rfl) (fun cx => ?_)
                        refine AT.big1 tOk 24 (by kernel_rfl) (by kernel_rfl) ?_
                        refine LAt.callU tOk [.rd] (f := 110) (av := #[.tmp 56]) (ats := #[3]) (d := (some 57)) (ty := 3) (g := (some (20, false))) (by kernel_rfl) (by kernel_rfl) (by kernel_rfl) [] (impl_allPorts n x1 r13 er13) (by kernel_rfl) (.inl rfl) ?_
                        refine LAt.fin (by kernel_rfl) (And.intro (And.intro (by kernel_rfl) (by kernel_rfl)) ?_)
                        refine AT.big1 tOk 25 (by kernel_rfl) (by kernel_rfl) ?_
                        refine LAt.callU tOk [.rd, .rd, .rd] (f := 82) (av := #[.tmp 55, .const (.int .i64 0), .tmp 57]) (ats := #[3, 3, 3]) (d := (some 58)) (ty := 4) (g := (some (20, false))) (by kernel_rfl) (by kernel_rfl) (by kernel_rfl) [] (impl_in n v8.Members 0 r13 r14 er14) (by kernel_rfl) (.inl rfl) ?_
                        refine LAt.fin (by kernel_rfl) (And.intro (And.intro (by kernel_rfl) (by kernel_rfl)) ?_)
                        refine AT.runU tOk [(26, []), (27, []), (28, [])] 7 [⟨[25], 3, 54, 55⟩, ⟨[24, 25], 3, 48, 49⟩, ⟨[24, 25], 27, 41, 42⟩, ⟨[2, 24, 25], 3, 33, 34⟩] [28, 27, 26, 25, 24, 23, 22, 21, 20, 19, 18, 17, 16, 15, 14, 13, 12, 11, 10, 9, 8, 7, 6, 5, 4, 3, 2, 1, 0] rfl (by kernel_rfl) (fun cx => ?_)
                        refine AT.to ⟨82, 0, [(61, .val false [.lit (.bool (!r14))]), (60, .val false [.lit (.bool (!r14))]), (59, .val false [.lit (.bool (!r14))]), (58, .val false [.lit (.bool r14)]), (57, .val false [.lit (.int .i64 r13)]), (56, .val false [.lit (.int .i64 x1)]), (55, .val false [.lit (.int .i64 v8.Members)]), (54, .adr (.box 6) [(0, 0)] 3 1), (53, .val false [.lit (.bool false)]), (52, .val false [.lit (.bool false)]), (51, .val false [.lit (.bool false)]), (50, .val false [.lit (.bool false)]), (49, .val false [.lit (.int .i64 v8.Id)]), (48, .adr (.box 6) [(0, 0)] 3 0), (47, .val false [.lit (.int .i64 v12.Id)]), (46, .fad ((Vrow.row v12))), (45, .fad ((Vrow.row v12))), (44, .val false [.lit (.int .i64 (IntKind.wrap .i64 (y2 - 1)))]), (43, .val false [.lit (.int .i64 y2)]), (42, .ref (.box 2) [(0, 0)] 2 0 1 false), (41, .adr (.box 2) [(0, 0)] 2 0), (40, .val false [.lit (.bool true)]), (39, .val false [.lit (.bool true)]), (38, .val false [.lit (.int .i64 y2)]), (37, .val false [.lit (.bool false)]), (36, .val false [.lit (.bool false)]), (35, .val false [.lit (.bool r9)]), (34, .val false [.lit (.int .i64 v8.Id)]), (33, .adr (.box 6) [(0, 0)] 3 0), (5, .val false [.lit (.int .i64 y2)]), (6, .adr (.box 6) [(0, 0)] 3 0), (32, .val true (Vrow.row v8)), (31, .fad ((Vrow.row v8))), (30, .val false [.lit (.int .i64 y2)]), (29, .val false [.lit (.bool true)]), (28, .val false [.lit (.int .i64 y2)]), (27, .val false [.lit (.int .i64 (x0.Rows.length : Int))]), (26, .val false [.sl false 3 (CV.frzEs (x0.Rows.map Vrow.row))]), (4, .val false [.lit (.bool false)]), (2, .adr (.box 2) [(0, 0)] 2 0), (1, .val false [.lit (.int .i64 x1)])], [(6, (Vrow.row v8)), (2, (CV.frzRow (Vtab.row x0)))]⟩ (by kernel_rfl) ?_
                        rw [h12]
                        refine AT.runU tOk [(29, []), (30, []), (31, []), (32, []), (33, []), (34, []), (35, [])] 0 [⟨[], 3, 64, 65⟩, ⟨[], 3, 62, 63⟩, ⟨[25], 3, 54, 55⟩, ⟨[24, 25], 3, 48, 49⟩, ⟨[24, 25], 27, 41, 42⟩, ⟨[2, 24, 25], 3, 33, 34⟩] [35, 34, 33, 32, 31, 30, 29, 28, 27, 26, 25, 24, 23, 22, 21, 20, 19, 18, 17, 16, 15, 14, 13, 12, 11, 10, 9, 8, 7, 6, 5, 4, 3, 2, 1, 0] rfl (by kernel_rfl) (fun cx => ?_)
                        exact AT.done [68, 67, 66, 65, 64, 63, 62, 61, 60, 59, 58, 57, 56, 55, 54, 53, 52, 51, 50, 49, 48, 47, 46, 45, 44, 43, 42, 41, 40, 39, 38, 37, 36, 35, 34, 33, 5, 6, 32, 31, 30, 29, 28, 27, 26, 4, 2, 1] [6, 2] _ (by kernel_rfl) (by kernel_rfl) rfl
                      · refine Tr.to ⟨82, 0, [(68, .val false [.lit (.bool ((IntKind.wrap .i64 (BitVec.ofInt (IntKind.bits .i64) v8.Bare &&& ~~~BitVec.ofInt (IntKind.bits .i64) v8.Members).toNat) != 0))]), (67, .val false [.lit (.bool ((IntKind.wrap .i64 (BitVec.ofInt (IntKind.bits .i64) v8.Bare &&& ~~~BitVec.ofInt (IntKind.bits .i64) v8.Members).toNat) != 0))]), (66, .val false [.lit (.int .i64 (IntKind.wrap .i64 (BitVec.ofInt (IntKind.bits .i64) v8.Bare &&& ~~~BitVec.ofInt (IntKind.bits .i64) v8.Members).toNat))]), (65, .val false [.lit (.int .i64 v8.Members)]), (64, .adr (.box 6) [(0, 0)] 3 1), (63, .val false [.lit (.int .i64 v8.Bare)]), (62, .adr (.box 6) [(0, 0)] 3 2), (61, .val false [.lit (.bool false)]), (60, .val false [.lit (.bool false)]), (59, .val false [.lit (.bool false)]), (58, .val false [.lit (.bool r14)]), (57, .val false [.lit (.int .i64 r13)]), (56, .val false [.lit (.int .i64 x1)]), (55, .val false [.lit (.int .i64 v8.Members)]), (54, .adr (.box 6) [(0, 0)] 3 1), (53, .val false [.lit (.bool false)]), (52, .val false [.lit (.bool false)]), (51, .val false [.lit (.bool false)]), (50, .val false [.lit (.bool false)]), (49, .val false [.lit (.int .i64 v8.Id)]), (48, .adr (.box 6) [(0, 0)] 3 0), (47, .val false [.lit (.int .i64 v12.Id)]), (46, .fad ((Vrow.row v12))), (45, .fad ((Vrow.row v12))), (44, .val false [.lit (.int .i64 (IntKind.wrap .i64 (y2 - 1)))]), (43, .val false [.lit (.int .i64 y2)]), (42, .ref (.box 2) [(0, 0)] 2 0 1 false), (41, .adr (.box 2) [(0, 0)] 2 0), (40, .val false [.lit (.bool true)]), (39, .val false [.lit (.bool true)]), (38, .val false [.lit (.int .i64 y2)]), (37, .val false [.lit (.bool false)]), (36, .val false [.lit (.bool false)]), (35, .val false [.lit (.bool r9)]), (34, .val false [.lit (.int .i64 v8.Id)]), (33, .adr (.box 6) [(0, 0)] 3 0), (5, .val false [.lit (.int .i64 y2)]), (6, .adr (.box 6) [(0, 0)] 3 0), (32, .val true (Vrow.row v8)), (31, .fad ((Vrow.row v8))), (30, .val false [.lit (.int .i64 y2)]), (29, .val false [.lit (.bool true)]), (28, .val false [.lit (.int .i64 y2)]), (27, .val false [.lit (.int .i64 (x0.Rows.length : Int))]), (26, .val false [.sl false 3 (CV.frzEs (x0.Rows.map Vrow.row))]), (4, .val false [.lit (.bool false)]), (2, .adr (.box 2) [(0, 0)] 2 0), (1, .val false [.lit (.int .i64 x1)])], [(6, (Vrow.row v8)), (2, (CV.frzRow (Vtab.row x0)))]⟩ (by kernel_rfl) ?_
                        cases h13 : ((IntKind.wrap .i64 (BitVec.ofInt (IntKind.bits .i64) v8.Bare &&& ~~~BitVec.ofInt (IntKind.bits .i64) v8.Members).toNat) != 0)
                        · have H := bifF h13 H
                          refine Tr.cond (b := false) (by kernel_rfl) (fun h => nomatch h) (fun _ => ?_)
                          refine Tr.skip ?_
                          show Tr _ _ _ _ _
                          refine Tr.at ?_
                          refine LAt.runU tOk 2 (by kernel_rfl) ?_
                          refine LAt.doneU [28, 69, 68, 67, 66, 65, 64, 63, 62, 61, 60, 59, 58, 57, 56, 55, 54, 53, 52, 51, 50, 49, 48, 47, 46, 45, 44, 43, 42, 41, 40, 39, 38, 37, 36, 35, 34, 33, 5, 6, 32, 31, 30, 29, 27, 26, 4, 2, 1] [6, 2] (by kernel_rfl) ?_
                          exact Exists.intro (mo7, (IntKind.wrap .i64 (y2 + 1))) (And.intro H (And.intro (Nat.lt_succ_self mo7) (St.sub_of [28, 27, 26, 4, 2, 1] [2] (by kernel_rfl))))
                        · have H := bifT h13 H
                          refine Tr.cond (b := true) (by kernel_rfl) (fun _ => ?_) (fun h => nomatch h)
                          refine Tr.rs ?_
                          refine LAt.runU tOk 1 (by kernel_rfl) ?_
                          refine LAt.doneU [4, 68, 67, 66, 65, 64, 63, 62, 61, 60, 59, 58, 57, 56, 55, 54, 53, 52, 51, 50, 49, 48, 47, 46, 45, 44, 43, 42, 41, 40, 39, 38, 37, 36, 35, 34, 33, 5, 6, 32, 31, 30, 29, 28, 27, 26, 2, 1] [6, 2] (by kernel_rfl) ?_
                          refine Tr.ret ?_
                          have H := Option.some.inj H
                          subst H
                          have H := Ho7
                          dsimp only at H
                          have H := Option.some.inj H
                          subst H
                          exact Fin.of _ [(false, [.lit (.bool false)])] (by kernel_rfl) rfl rfl
                    · have H := bifT h12 H
                      refine Tr.draws mixed 36 (by kernel_rfl) ⟨82, 0, [(68, .val false [.lit (.bool true)]), (67, .tup []), (66, .tup []), (65, .tup []), (64, .tup []), (63, .tup []), (62, .tup []), (61, .val false [.lit (.bool true)]), (60, .val false [.lit (.bool true)]), (59, .val false [.lit (.bool true)]), (58, .val false [.lit (.bool r14)]), (57, .val false [.lit (.int .i64 r13)]), (56, .val false [.lit (.int .i64 x1)]), (55, .val false [.lit (.int .i64 v8.Members)]), (54, .adr (.box 6) [(0, 0)] 3 1), (53, .val false [.lit (.bool false)]), (52, .val false [.lit (.bool false)]), (51, .val false [.lit (.bool false)]), (50, .val false [.lit (.bool false)]), (49, .val false [.lit (.int .i64 v8.Id)]), (48, .adr (.box 6) [(0, 0)] 3 0), (47, .val false [.lit (.int .i64 v12.Id)]), (46, .fad ((Vrow.row v12))), (45, .fad ((Vrow.row v12))), (44, .val false [.lit (.int .i64 (IntKind.wrap .i64 (y2 - 1)))]), (43, .val false [.lit (.int .i64 y2)]), (42, .ref (.box 2) [(0, 0)] 2 0 1 false), (41, .adr (.box 2) [(0, 0)] 2 0), (40, .val false [.lit (.bool true)]), (39, .val false [.lit (.bool true)]), (38, .val false [.lit (.int .i64 y2)]), (37, .val false [.lit (.bool false)]), (36, .val false [.lit (.bool false)]), (35, .val false [.lit (.bool r9)]), (34, .val false [.lit (.int .i64 v8.Id)]), (33, .adr (.box 6) [(0, 0)] 3 0), (5, .val false [.lit (.int .i64 y2)]), (6, .adr (.box 6) [(0, 0)] 3 0), (32, .val true (Vrow.row v8)), (31, .fad ((Vrow.row v8))), (30, .val false [.lit (.int .i64 y2)]), (29, .val false [.lit (.bool true)]), (28, .val false [.lit (.int .i64 y2)]), (27, .val false [.lit (.int .i64 (x0.Rows.length : Int))]), (26, .val false [.sl false 3 (CV.frzEs (x0.Rows.map Vrow.row))]), (4, .val false [.lit (.bool false)]), (2, .adr (.box 2) [(0, 0)] 2 0), (1, .val false [.lit (.int .i64 x1)])], [(6, (Vrow.row v8)), (2, (CV.frzRow (Vtab.row x0)))]⟩ (fun cx => ?_) ?_
                      · refine AT.runU tOk [(0, []), (1, [2, 24, 25])] 34 [⟨[2, 24, 25], 3, 33, 34⟩] [1, 0] rfl (by kernel_rfl) (fun cx => ?_)
                        refine AT.big1 tOk 2 (by kernel_rfl) (by kernel_rfl) ?_
                        refine LAt.callU tOk [.rd, .rd, .rd] (f := 82) (av := #[.tmp 34, .const (.int .i64 1), .const (.int .i64 99)]) (ats := #[3, 3, 3]) (d := (some 35)) (ty := 4) (g := none) (by kernel_rfl) (by kernel_rfl) (by kernel_rfl) [] (impl_in n v8.Id 1 99 r9 er9) (by kernel_rfl) (.inl rfl) ?_
                        refine LAt.fin (by kernel_rfl) (And.intro (And.intro (by kernel_rfl) (by kernel_rfl)) ?_)
                        refine AT.runU tOk [(3, []), (4, [])] 31 [⟨[2, 24, 25], 3, 33, 34⟩] [4, 3, 2, 1, 0] rfl (by kernel_rfl) (fun cx => ?_)
                        refine AT.to ⟨82, 0, [(37, .val false [.lit (.bool (!r9))]), (36, .val false [.lit (.bool (!r9))]), (35, .val false [.lit (.bool r9)]), (34, .val false [.lit (.int .i64 v8.Id)]), (33, .adr (.box 6) [(0, 0)] 3 0), (5, .val false [.lit (.int .i64 y2)]), (6, .adr (.box 6) [(0, 0)] 3 0), (32, .val true (Vrow.row v8)), (31, .fad ((Vrow.row v8))), (30, .val false [.lit (.int .i64 y2)]), (29, .val false [.lit (.bool true)]), (28, .val false [.lit (.int .i64 y2)]), (27, .val false [.lit (.int .i64 (x0.Rows.length : Int))]), (26, .val false [.sl false 3 (CV.frzEs (x0.Rows.map Vrow.row))]), (4, .val false [.lit (.bool false)]), (2, .adr (.box 2) [(0, 0)] 2 0), (1, .val false [.lit (.int .i64 x1)])], [(6, (Vrow.row v8)), (2, (CV.frzRow (Vtab.row x0)))]⟩ (by kernel_rfl) ?_
                        rw [h7]
                        refine AT.runU tOk [(5, []), (6, []), (7, [])] 28 [⟨[2, 24, 25], 3, 33, 34⟩] [7, 6, 5, 4, 3, 2, 1, 0] rfl (by kernel_rfl) (fun cx => ?_)
                        refine AT.to ⟨82, 0, [(40, .val false [.lit (.bool (decide (y2 > 0)))]), (39, .val false [.lit (.bool (decide (y2 > 0)))]), (38, .val false [.lit (.int .i64 y2)]), (37, .val false [.lit (.bool false)]), (36, .val false [.lit (.bool false)]), (35, .val false [.lit (.bool r9)]), (34, .val false [.lit (.int .i64 v8.Id)]), (33, .adr (.box 6) [(0, 0)] 3 0), (5, .val false [.lit (.int .i64 y2)]), (6, .adr (.box 6) [(0, 0)] 3 0), (32, .val true (Vrow.row v8)), (31, .fad ((Vrow.row v8))), (30, .val false [.lit (.int .i64 y2)]), (29, .val false [.lit (.bool true)]), (28, .val false [.lit (.int .i64 y2)]), (27, .val false [.lit (.int .i64 (x0.Rows.length : Int))]), (26, .val false [.sl false 3 (CV.frzEs (x0.Rows.map Vrow.row))]), (4, .val false [.lit (.bool false)]), (2, .adr (.box 2) [(0, 0)] 2 0), (1, .val false [.lit (.int .i64 x1)])], [(6, (Vrow.row v8)), (2, (CV.frzRow (Vtab.row x0)))]⟩ (by kernel_rfl) ?_
                        rw [h8]
                        refine AT.runU tOk [(8, []), (9, [24, 25]), (10, []), (11, [])] 24 [⟨[24, 25], 27, 41, 42⟩, ⟨[2, 24, 25], 3, 33, 34⟩] [11, 10, 9, 8, 7, 6, 5, 4, 3, 2, 1, 0] rfl (by kernel_rfl) (fun cx => ?_)
                        refine AT.indexF tOk 12 (t := 27) (ty := 0) (x := (.tmp 42)) (y := (.tmp 44)) (d := 45) (g := (some (7, true))) ⟨(.box 2), [(0, 0)], 0, false, 3, (CV.frzEs (x0.Rows.map Vrow.row))⟩ (IntKind.wrap .i64 (y2 - 1)) (Vrow.row v12) _ (by kernel_rfl) (by kernel_rfl) (by kernel_rfl) (by kernel_rfl) (by kernel_rfl) (by kernel_rfl) rfl (idx_isF ev12) rfl (fun cx => ?_)
                        refine AT.runU tOk [(13, []), (14, []), (15, []), (16, [24, 25]), (17, []), (18, []), (19, []), (20, [])] 15 [⟨[24, 25], 3, 48, 49⟩, ⟨[24, 25], 27, 41, 42⟩, ⟨[2, 24, 25], 3, 33, 34⟩] [20, 19, 18, 17, 16, 15, 14, 13, 12, 11, 10, 9, 8, 7, 6, 5, 4, 3, 2, 1, 0] rfl (by kernel_rfl) (fun cx => ?_)
                        refine AT.to ⟨82, 0, [(53, .val false [.lit (.bool (decide (v12.Id ≥ v8.Id)))]), (52, .val false [.lit (.bool (decide (v12.Id ≥ v8.Id)))]), (51, .val false [.lit (.bool (decide (v12.Id ≥ v8.Id)))]), (50, .val false [.lit (.bool (decide (v12.Id ≥ v8.Id)))]), (49, .val false [.lit (.int .i64 v8.Id)]), (48, .adr (.box 6) [(0, 0)] 3 0), (47, .val false [.lit (.int .i64 v12.Id)]), (46, .fad ((Vrow.row v12))), (45, .fad ((Vrow.row v12))), (44, .val false [.lit (.int .i64 (IntKind.wrap .i64 (y2 - 1)))]), (43, .val false [.lit (.int .i64 y2)]), (42, .ref (.box 2) [(0, 0)] 2 0 1 false), (41, .adr (.box 2) [(0, 0)] 2 0), (40, .val false [.lit (.bool true)]), (39, .val false [.lit (.bool true)]), (38, .val false [.lit (.int .i64 y2)]), (37, .val false [.lit (.bool false)]), (36, .val false [.lit (.bool false)]), (35, .val false [.lit (.bool r9)]), (34, .val false [.lit (.int .i64 v8.Id)]), (33, .adr (.box 6) [(0, 0)] 3 0), (5, .val false [.lit (.int .i64 y2)]), (6, .adr (.box 6) [(0, 0)] 3 0), (32, .val true (Vrow.row v8)), (31, .fad ((Vrow.row v8))), (30, .val false [.lit (.int .i64 y2)]), (29, .val false [.lit (.bool true)]), (28, .val false [.lit (.int .i64 y2)]), (27, .val false [.lit (.int .i64 (x0.Rows.length : Int))]), (26, .val false [.sl false 3 (CV.frzEs (x0.Rows.map Vrow.row))]), (4, .val false [.lit (.bool false)]), (2, .adr (.box 2) [(0, 0)] 2 0), (1, .val false [.lit (.int .i64 x1)])], [(6, (Vrow.row v8)), (2, (CV.frzRow (Vtab.row x0)))]⟩ (by kernel_rfl) ?_
                        rw [h11]
                        refine AT.runU tOk [(21, []), (22, [25]), (23, [])] 12 [⟨[25], 3, 54, 55⟩, ⟨[24, 25], 3, 48, 49⟩, ⟨[24, 25], 27, 41, 42⟩, ⟨[2, 24, 25], 3, 33, 34⟩] [23, 22, 21, 20, 19, 18, 17, 16, 15, 14, 13, 12, 11, 10, 9, 8, 7, 6, 5, 4, 3, 2, 1, 0] rfl (by kernel_rfl) (fun cx => ?_)
                        refine AT.big1 tOk 24 (by kernel_rfl) (by kernel_rfl) ?_
                        refine LAt.callU tOk [.rd] (f := 110) (av := #[.tmp 56]) (ats := #[3]) (d := (some 57)) (ty := 3) (g := (some (20, false))) (by kernel_rfl) (by kernel_rfl) (by kernel_rfl) [] (impl_allPorts n x1 r13 er13) (by kernel_rfl) (.inl rfl) ?_
                        refine LAt.fin (by kernel_rfl) (And.intro (And.intro (by kernel_rfl) (by kernel_rfl)) ?_)
                        refine AT.big1 tOk 25 (by kernel_rfl) (by kernel_rfl) ?_
                        refine LAt.callU tOk [.rd, .rd, .rd] (f := 82) (av := #[.tmp 55, .const (.int .i64 0), .tmp 57]) (ats := #[3, 3, 3]) (d := (some 58)) (ty := 4) (g := (some (20, false))) (by kernel_rfl) (by kernel_rfl) (by kernel_rfl) [] (impl_in n v8.Members 0 r13 r14 er14) (by kernel_rfl) (.inl rfl) ?_
                        refine LAt.fin (by kernel_rfl) (And.intro (And.intro (by kernel_rfl) (by kernel_rfl)) ?_)
                        refine AT.runU tOk [(26, []), (27, []), (28, [])] 7 [⟨[25], 3, 54, 55⟩, ⟨[24, 25], 3, 48, 49⟩, ⟨[24, 25], 27, 41, 42⟩, ⟨[2, 24, 25], 3, 33, 34⟩] [28, 27, 26, 25, 24, 23, 22, 21, 20, 19, 18, 17, 16, 15, 14, 13, 12, 11, 10, 9, 8, 7, 6, 5, 4, 3, 2, 1, 0] rfl (by kernel_rfl) (fun cx => ?_)
                        refine AT.to ⟨82, 0, [(61, .val false [.lit (.bool (!r14))]), (60, .val false [.lit (.bool (!r14))]), (59, .val false [.lit (.bool (!r14))]), (58, .val false [.lit (.bool r14)]), (57, .val false [.lit (.int .i64 r13)]), (56, .val false [.lit (.int .i64 x1)]), (55, .val false [.lit (.int .i64 v8.Members)]), (54, .adr (.box 6) [(0, 0)] 3 1), (53, .val false [.lit (.bool false)]), (52, .val false [.lit (.bool false)]), (51, .val false [.lit (.bool false)]), (50, .val false [.lit (.bool false)]), (49, .val false [.lit (.int .i64 v8.Id)]), (48, .adr (.box 6) [(0, 0)] 3 0), (47, .val false [.lit (.int .i64 v12.Id)]), (46, .fad ((Vrow.row v12))), (45, .fad ((Vrow.row v12))), (44, .val false [.lit (.int .i64 (IntKind.wrap .i64 (y2 - 1)))]), (43, .val false [.lit (.int .i64 y2)]), (42, .ref (.box 2) [(0, 0)] 2 0 1 false), (41, .adr (.box 2) [(0, 0)] 2 0), (40, .val false [.lit (.bool true)]), (39, .val false [.lit (.bool true)]), (38, .val false [.lit (.int .i64 y2)]), (37, .val false [.lit (.bool false)]), (36, .val false [.lit (.bool false)]), (35, .val false [.lit (.bool r9)]), (34, .val false [.lit (.int .i64 v8.Id)]), (33, .adr (.box 6) [(0, 0)] 3 0), (5, .val false [.lit (.int .i64 y2)]), (6, .adr (.box 6) [(0, 0)] 3 0), (32, .val true (Vrow.row v8)), (31, .fad ((Vrow.row v8))), (30, .val false [.lit (.int .i64 y2)]), (29, .val false [.lit (.bool true)]), (28, .val false [.lit (.int .i64 y2)]), (27, .val false [.lit (.int .i64 (x0.Rows.length : Int))]), (26, .val false [.sl false 3 (CV.frzEs (x0.Rows.map Vrow.row))]), (4, .val false [.lit (.bool false)]), (2, .adr (.box 2) [(0, 0)] 2 0), (1, .val false [.lit (.int .i64 x1)])], [(6, (Vrow.row v8)), (2, (CV.frzRow (Vtab.row x0)))]⟩ (by kernel_rfl) ?_
                        rw [h12]
                        refine AT.runU tOk [(29, []), (30, []), (31, []), (32, []), (33, []), (34, []), (35, [])] 0 [⟨[25], 3, 54, 55⟩, ⟨[24, 25], 3, 48, 49⟩, ⟨[24, 25], 27, 41, 42⟩, ⟨[2, 24, 25], 3, 33, 34⟩] [35, 34, 33, 32, 31, 30, 29, 28, 27, 26, 25, 24, 23, 22, 21, 20, 19, 18, 17, 16, 15, 14, 13, 12, 11, 10, 9, 8, 7, 6, 5, 4, 3, 2, 1, 0] rfl (by kernel_rfl) (fun cx => ?_)
                        exact AT.done [68, 67, 66, 65, 64, 63, 62, 61, 60, 59, 58, 57, 56, 55, 54, 53, 52, 51, 50, 49, 48, 47, 46, 45, 44, 43, 42, 41, 40, 39, 38, 37, 36, 35, 34, 33, 5, 6, 32, 31, 30, 29, 28, 27, 26, 4, 2, 1] [6, 2] _ (by kernel_rfl) (by kernel_rfl) rfl
                      · refine Tr.cond (b := true) (by kernel_rfl) (fun _ => ?_) (fun h => nomatch h)
                        refine Tr.rs ?_
                        refine LAt.runU tOk 1 (by kernel_rfl) ?_
                        refine LAt.doneU [4, 68, 67, 66, 65, 64, 63, 62, 61, 60, 59, 58, 57, 56, 55, 54, 53, 52, 51, 50, 49, 48, 47, 46, 45, 44, 43, 42, 41, 40, 39, 38, 37, 36, 35, 34, 33, 5, 6, 32, 31, 30, 29, 28, 27, 26, 2, 1] [6, 2] (by kernel_rfl) ?_
                        refine Tr.ret ?_
                        have H := Option.some.inj H
                        subst H
                        have H := Ho7
                        dsimp only at H
                        have H := Option.some.inj H
                        subst H
                        exact Fin.of _ [(false, [.lit (.bool false)])] (by kernel_rfl) rfl rfl
                  · have H := bifT h11 H
                    refine Tr.draws mixed 36 (by kernel_rfl) ⟨82, 0, [(68, .val false [.lit (.bool true)]), (67, .tup []), (66, .tup []), (65, .tup []), (64, .tup []), (63, .tup []), (62, .tup []), (61, .val false [.lit (.bool true)]), (60, .val false [.lit (.bool true)]), (59, .tup []), (58, .tup []), (57, .tup []), (56, .tup []), (55, .tup []), (54, .tup []), (53, .val false [.lit (.bool true)]), (52, .val false [.lit (.bool true)]), (51, .val false [.lit (.bool true)]), (50, .val false [.lit (.bool true)]), (49, .val false [.lit (.int .i64 v8.Id)]), (48, .adr (.box 6) [(0, 0)] 3 0), (47, .val false [.lit (.int .i64 v12.Id)]), (46, .fad ((Vrow.row v12))), (45, .fad ((Vrow.row v12))), (44, .val false [.lit (.int .i64 (IntKind.wrap .i64 (y2 - 1)))]), (43, .val false [.lit (.int .i64 y2)]), (42, .ref (.box 2) [(0, 0)] 2 0 1 false), (41, .adr (.box 2) [(0, 0)] 2 0), (40, .val false [.lit (.bool true)]), (39, .val false [.lit (.bool true)]), (38, .val false [.lit (.int .i64 y2)]), (37, .val false [.lit (.bool false)]), (36, .val false [.lit (.bool false)]), (35, .val false [.lit (.bool r9)]), (34, .val false [.lit (.int .i64 v8.Id)]), (33, .adr (.box 6) [(0, 0)] 3 0), (5, .val false [.lit (.int .i64 y2)]), (6, .adr (.box 6) [(0, 0)] 3 0), (32, .val true (Vrow.row v8)), (31, .fad ((Vrow.row v8))), (30, .val false [.lit (.int .i64 y2)]), (29, .val false [.lit (.bool true)]), (28, .val false [.lit (.int .i64 y2)]), (27, .val false [.lit (.int .i64 (x0.Rows.length : Int))]), (26, .val false [.sl false 3 (CV.frzEs (x0.Rows.map Vrow.row))]), (4, .val false [.lit (.bool false)]), (2, .adr (.box 2) [(0, 0)] 2 0), (1, .val false [.lit (.int .i64 x1)])], [(6, (Vrow.row v8)), (2, (CV.frzRow (Vtab.row x0)))]⟩ (fun cx => ?_) ?_
                    · refine AT.runU tOk [(0, []), (1, [2])] 34 [⟨[2], 3, 33, 34⟩] [1, 0] rfl (by kernel_rfl) (fun cx => ?_)
                      refine AT.big1 tOk 2 (by kernel_rfl) (by kernel_rfl) ?_
                      refine LAt.callU tOk [.rd, .rd, .rd] (f := 82) (av := #[.tmp 34, .const (.int .i64 1), .const (.int .i64 99)]) (ats := #[3, 3, 3]) (d := (some 35)) (ty := 4) (g := none) (by kernel_rfl) (by kernel_rfl) (by kernel_rfl) [] (impl_in n v8.Id 1 99 r9 er9) (by kernel_rfl) (.inl rfl) ?_
                      refine LAt.fin (by kernel_rfl) (And.intro (And.intro (by kernel_rfl) (by kernel_rfl)) ?_)
                      refine AT.runU tOk [(3, []), (4, [])] 31 [⟨[2], 3, 33, 34⟩] [4, 3, 2, 1, 0] rfl (by kernel_rfl) (fun cx => ?_)
                      refine AT.to ⟨82, 0, [(37, .val false [.lit (.bool (!r9))]), (36, .val false [.lit (.bool (!r9))]), (35, .val false [.lit (.bool r9)]), (34, .val false [.lit (.int .i64 v8.Id)]), (33, .adr (.box 6) [(0, 0)] 3 0), (5, .val false [.lit (.int .i64 y2)]), (6, .adr (.box 6) [(0, 0)] 3 0), (32, .val true (Vrow.row v8)), (31, .fad ((Vrow.row v8))), (30, .val false [.lit (.int .i64 y2)]), (29, .val false [.lit (.bool true)]), (28, .val false [.lit (.int .i64 y2)]), (27, .val false [.lit (.int .i64 (x0.Rows.length : Int))]), (26, .val false [.sl false 3 (CV.frzEs (x0.Rows.map Vrow.row))]), (4, .val false [.lit (.bool false)]), (2, .adr (.box 2) [(0, 0)] 2 0), (1, .val false [.lit (.int .i64 x1)])], [(6, (Vrow.row v8)), (2, (CV.frzRow (Vtab.row x0)))]⟩ (by kernel_rfl) ?_
                      rw [h7]
                      refine AT.runU tOk [(5, []), (6, []), (7, [])] 28 [⟨[2], 3, 33, 34⟩] [7, 6, 5, 4, 3, 2, 1, 0] rfl (by kernel_rfl) (fun cx => ?_)
                      refine AT.to ⟨82, 0, [(40, .val false [.lit (.bool (decide (y2 > 0)))]), (39, .val false [.lit (.bool (decide (y2 > 0)))]), (38, .val false [.lit (.int .i64 y2)]), (37, .val false [.lit (.bool false)]), (36, .val false [.lit (.bool false)]), (35, .val false [.lit (.bool r9)]), (34, .val false [.lit (.int .i64 v8.Id)]), (33, .adr (.box 6) [(0, 0)] 3 0), (5, .val false [.lit (.int .i64 y2)]), (6, .adr (.box 6) [(0, 0)] 3 0), (32, .val true (Vrow.row v8)), (31, .fad ((Vrow.row v8))), (30, .val false [.lit (.int .i64 y2)]), (29, .val false [.lit (.bool true)]), (28, .val false [.lit (.int .i64 y2)]), (27, .val false [.lit (.int .i64 (x0.Rows.length : Int))]), (26, .val false [.sl false 3 (CV.frzEs (x0.Rows.map Vrow.row))]), (4, .val false [.lit (.bool false)]), (2, .adr (.box 2) [(0, 0)] 2 0), (1, .val false [.lit (.int .i64 x1)])], [(6, (Vrow.row v8)), (2, (CV.frzRow (Vtab.row x0)))]⟩ (by kernel_rfl) ?_
                      rw [h8]
                      refine AT.runU tOk [(8, []), (9, []), (10, []), (11, [])] 24 [⟨[], 27, 41, 42⟩, ⟨[2], 3, 33, 34⟩] [11, 10, 9, 8, 7, 6, 5, 4, 3, 2, 1, 0] rfl (by kernel_rfl) (fun cx => ?_)
                      refine AT.indexF tOk 12 (t := 27) (ty := 0) (x := (.tmp 42)) (y := (.tmp 44)) (d := 45) (g := (some (7, true))) ⟨(.box 2), [(0, 0)], 0, false, 3, (CV.frzEs (x0.Rows.map Vrow.row))⟩ (IntKind.wrap .i64 (y2 - 1)) (Vrow.row v12) _ (by kernel_rfl) (by kernel_rfl) (by kernel_rfl) (by kernel_rfl) (by kernel_rfl) (by kernel_rfl) rfl (idx_isF ev12) rfl (fun cx => ?_)
                      refine AT.runU tOk [(13, []), (14, []), (15, []), (16, []), (17, []), (18, []), (19, []), (20, [])] 15 [⟨[], 3, 48, 49⟩, ⟨[], 27, 41, 42⟩, ⟨[2], 3, 33, 34⟩] [20, 19, 18, 17, 16, 15, 14, 13, 12, 11, 10, 9, 8, 7, 6, 5, 4, 3, 2, 1, 0] rfl (by kernel_rfl) (fun cx => ?_)
                      refine AT.to ⟨82, 0, [(53, .val false [.lit (.bool (decide (v12.Id ≥ v8.Id)))]), (52, .val false [.lit (.bool (decide (v12.Id ≥ v8.Id)))]), (51, .val false [.lit (.bool (decide (v12.Id ≥ v8.Id)))]), (50, .val false [.lit (.bool (decide (v12.Id ≥ v8.Id)))]), (49, .val false [.lit (.int .i64 v8.Id)]), (48, .adr (.box 6) [(0, 0)] 3 0), (47, .val false [.lit (.int .i64 v12.Id)]), (46, .fad ((Vrow.row v12))), (45, .fad ((Vrow.row v12))), (44, .val false [.lit (.int .i64 (IntKind.wrap .i64 (y2 - 1)))]), (43, .val false [.lit (.int .i64 y2)]), (42, .ref (.box 2) [(0, 0)] 2 0 1 false), (41, .adr (.box 2) [(0, 0)] 2 0), (40, .val false [.lit (.bool true)]), (39, .val false [.lit (.bool true)]), (38, .val false [.lit (.int .i64 y2)]), (37, .val false [.lit (.bool false)]), (36, .val false [.lit (.bool false)]), (35, .val false [.lit (.bool r9)]), (34, .val false [.lit (.int .i64 v8.Id)]), (33, .adr (.box 6) [(0, 0)] 3 0), (5, .val false [.lit (.int .i64 y2)]), (6, .adr (.box 6) [(0, 0)] 3 0), (32, .val true (Vrow.row v8)), (31, .fad ((Vrow.row v8))), (30, .val false [.lit (.int .i64 y2)]), (29, .val false [.lit (.bool true)]), (28, .val false [.lit (.int .i64 y2)]), (27, .val false [.lit (.int .i64 (x0.Rows.length : Int))]), (26, .val false [.sl false 3 (CV.frzEs (x0.Rows.map Vrow.row))]), (4, .val false [.lit (.bool false)]), (2, .adr (.box 2) [(0, 0)] 2 0), (1, .val false [.lit (.int .i64 x1)])], [(6, (Vrow.row v8)), (2, (CV.frzRow (Vtab.row x0)))]⟩ (by kernel_rfl) ?_
                      rw [h11]
                      refine AT.runU tOk [(21, []), (22, []), (23, []), (24, []), (25, []), (26, []), (27, []), (28, []), (29, []), (30, []), (31, []), (32, []), (33, []), (34, []), (35, [])] 0 [⟨[], 3, 48, 49⟩, ⟨[], 27, 41, 42⟩, ⟨[2], 3, 33, 34⟩] [35, 34, 33, 32, 31, 30, 29, 28, 27, 26, 25, 24, 23, 22, 21, 20, 19, 18, 17, 16, 15, 14, 13, 12, 11, 10, 9, 8, 7, 6, 5, 4, 3, 2, 1, 0] rfl (by kernel_rfl) (fun cx => ?_)
                      exact AT.done [68, 67, 66, 65, 64, 63, 62, 61, 60, 59, 58, 57, 56, 55, 54, 53, 52, 51, 50, 49, 48, 47, 46, 45, 44, 43, 42, 41, 40, 39, 38, 37, 36, 35, 34, 33, 5, 6, 32, 31, 30, 29, 28, 27, 26, 4, 2, 1] [6, 2] _ (by kernel_rfl) (by kernel_rfl) rfl
                    · refine Tr.cond (b := true) (by kernel_rfl) (fun _ => ?_) (fun h => nomatch h)
                      refine Tr.rs ?_
                      refine LAt.runU tOk 1 (by kernel_rfl) ?_
                      refine LAt.doneU [4, 68, 67, 66, 65, 64, 63, 62, 61, 60, 59, 58, 57, 56, 55, 54, 53, 52, 51, 50, 49, 48, 47, 46, 45, 44, 43, 42, 41, 40, 39, 38, 37, 36, 35, 34, 33, 5, 6, 32, 31, 30, 29, 28, 27, 26, 2, 1] [6, 2] (by kernel_rfl) ?_
                      refine Tr.ret ?_
                      have H := Option.some.inj H
                      subst H
                      have H := Ho7
                      dsimp only at H
                      have H := Option.some.inj H
                      subst H
                      exact Fin.of _ [(false, [.lit (.bool false)])] (by kernel_rfl) rfl rfl
              · have H := bifT h7 H
                refine Tr.draws mixed 36 (by kernel_rfl) ⟨82, 0, [(68, .val false [.lit (.bool true)]), (67, .tup []), (66, .tup []), (65, .tup []), (64, .tup []), (63, .tup []), (62, .tup []), (61, .val false [.lit (.bool true)]), (60, .val false [.lit (.bool true)]), (59, .tup []), (58, .tup []), (57, .tup []), (56, .tup []), (55, .tup []), (54, .tup []), (53, .val false [.lit (.bool true)]), (52, .val false [.lit (.bool true)]), (51, .tup []), (50, .tup []), (49, .tup []), (48, .tup []), (47, .tup []), (46, .tup []), (45, .tup []), (44, .tup []), (43, .tup []), (42, .tup []), (41, .tup []), (40, .tup []), (39, .tup []), (38, .tup []), (37, .val false [.lit (.bool true)]), (36, .val false [.lit (.bool true)]), (35, .val false [.lit (.bool r9)]), (34, .val false [.lit (.int .i64 v8.Id)]), (33, .adr (.box 6) [(0, 0)] 3 0), (5, .val false [.lit (.int .i64 y2)]), (6, .adr (.box 6) [(0, 0)] 3 0), (32, .val true (Vrow.row v8)), (31, .fad ((Vrow.row v8))), (30, .val false [.lit (.int .i64 y2)]), (29, .val false [.lit (.bool true)]), (28, .val false [.lit (.int .i64 y2)]), (27, .val false [.lit (.int .i64 (x0.Rows.length : Int))]), (26, .val false [.sl false 3 (CV.frzEs (x0.Rows.map Vrow.row))]), (4, .val false [.lit (.bool false)]), (2, .adr (.box 2) [(0, 0)] 2 0), (1, .val false [.lit (.int .i64 x1)])], [(6, (Vrow.row v8)), (2, (CV.frzRow (Vtab.row x0)))]⟩ (fun cx => ?_) ?_
                · refine AT.runU tOk [(0, []), (1, [2])] 34 [⟨[2], 3, 33, 34⟩] [1, 0] rfl (by kernel_rfl) (fun cx => ?_)
                  refine AT.big1 tOk 2 (by kernel_rfl) (by kernel_rfl) ?_
                  refine LAt.callU tOk [.rd, .rd, .rd] (f := 82) (av := #[.tmp 34, .const (.int .i64 1), .const (.int .i64 99)]) (ats := #[3, 3, 3]) (d := (some 35)) (ty := 4) (g := none) (by kernel_rfl) (by kernel_rfl) (by kernel_rfl) [] (impl_in n v8.Id 1 99 r9 er9) (by kernel_rfl) (.inl rfl) ?_
                  refine LAt.fin (by kernel_rfl) (And.intro (And.intro (by kernel_rfl) (by kernel_rfl)) ?_)
                  refine AT.runU tOk [(3, []), (4, [])] 31 [⟨[2], 3, 33, 34⟩] [4, 3, 2, 1, 0] rfl (by kernel_rfl) (fun cx => ?_)
                  refine AT.to ⟨82, 0, [(37, .val false [.lit (.bool (!r9))]), (36, .val false [.lit (.bool (!r9))]), (35, .val false [.lit (.bool r9)]), (34, .val false [.lit (.int .i64 v8.Id)]), (33, .adr (.box 6) [(0, 0)] 3 0), (5, .val false [.lit (.int .i64 y2)]), (6, .adr (.box 6) [(0, 0)] 3 0), (32, .val true (Vrow.row v8)), (31, .fad ((Vrow.row v8))), (30, .val false [.lit (.int .i64 y2)]), (29, .val false [.lit (.bool true)]), (28, .val false [.lit (.int .i64 y2)]), (27, .val false [.lit (.int .i64 (x0.Rows.length : Int))]), (26, .val false [.sl false 3 (CV.frzEs (x0.Rows.map Vrow.row))]), (4, .val false [.lit (.bool false)]), (2, .adr (.box 2) [(0, 0)] 2 0), (1, .val false [.lit (.int .i64 x1)])], [(6, (Vrow.row v8)), (2, (CV.frzRow (Vtab.row x0)))]⟩ (by kernel_rfl) ?_
                  rw [h7]
                  refine AT.runU tOk [(5, []), (6, []), (7, []), (8, []), (9, []), (10, []), (11, []), (12, []), (13, []), (14, []), (15, []), (16, []), (17, []), (18, []), (19, []), (20, []), (21, []), (22, []), (23, []), (24, []), (25, []), (26, []), (27, []), (28, []), (29, []), (30, []), (31, []), (32, []), (33, []), (34, []), (35, [])] 0 [⟨[2], 3, 33, 34⟩] [35, 34, 33, 32, 31, 30, 29, 28, 27, 26, 25, 24, 23, 22, 21, 20, 19, 18, 17, 16, 15, 14, 13, 12, 11, 10, 9, 8, 7, 6, 5, 4, 3, 2, 1, 0] rfl (by kernel_rfl) (fun cx => ?_)
                  exact AT.done [68, 67, 66, 65, 64, 63, 62, 61, 60, 59, 58, 57, 56, 55, 54, 53, 52, 51, 50, 49, 48, 47, 46, 45, 44, 43, 42, 41, 40, 39, 38, 37, 36, 35, 34, 33, 5, 6, 32, 31, 30, 29, 28, 27, 26, 4, 2, 1] [6, 2] _ (by kernel_rfl) (by kernel_rfl) rfl
                · refine Tr.cond (b := true) (by kernel_rfl) (fun _ => ?_) (fun h => nomatch h)
                  refine Tr.rs ?_
                  refine LAt.runU tOk 1 (by kernel_rfl) ?_
                  refine LAt.doneU [4, 68, 67, 66, 65, 64, 63, 62, 61, 60, 59, 58, 57, 56, 55, 54, 53, 52, 51, 50, 49, 48, 47, 46, 45, 44, 43, 42, 41, 40, 39, 38, 37, 36, 35, 34, 33, 5, 6, 32, 31, 30, 29, 28, 27, 26, 2, 1] [6, 2] (by kernel_rfl) ?_
                  refine Tr.ret ?_
                  have H := Option.some.inj H
                  subst H
                  have H := Ho7
                  dsimp only at H
                  have H := Option.some.inj H
                  subst H
                  exact Fin.of _ [(false, [.lit (.bool false)])] (by kernel_rfl) rfl rfl
        · rintro _ H
          have H : (impl_VtabOk_J1 n x0) = some r := H
          unfold impl_VtabOk_J1 at H
          show Tr _ _ _ _ _
          refine Tr.seq ?_
          refine Tr.rs ?_
          refine LAt.runU tOk 2 (by kernel_rfl) ?_
          refine LAt.lenE tOk (t := 23) (ty := 3) (e := 3) (x := (.tmp 71)) (d := 72) (g := none) ⟨(.slot 71), [], 0, false, 1, (CV.frzEs (x0.Pvid.map intRow))⟩ (x0.Pvid).length _ (by kernel_rfl) (by kernel_rfl) (by kernel_rfl) (by kernel_rfl) (by kernel_rfl) (frz_len _ _) rfl ?_
          refine LAt.runU tOk 1 (by kernel_rfl) ?_
          refine LAt.doneU [73, 72, 71, 4, 2] [2] (by kernel_rfl) ?_
          obtain ⟨o4, eo4, Ho4⟩ := bind_some H
          clear H
          refine Tr.mid (ι := Unit) (fun v => ⟨82, 0, [(4, .val false [.lit (.bool false)])], []⟩) (fun v => impl_VtabOk_J2 n = some r) ?_ ?_
          · refine Tr.block ?_
            refine Tr.loop (ι := Nat × (Int)) (fun v => ⟨82, 0, [(73, .val false [.lit (.int .i64 v.2)]), (72, .val false [.lit (.int .i64 (x0.Pvid.length : Int))]), (71, .val false [.sl false 1 (CV.frzEs (x0.Pvid.map intRow))]), (4, .val false [.lit (.bool false)]), (2, .adr (.box 2) [(0, 0)] 2 0)], [(2, (CV.frzRow (Vtab.row x0)))]⟩) (fun v => impl_VtabOk_L3 n v.1 x0 v.2 = some o4) (fun v => v.1) (n, 0) eo4 (St.sub_of [73, 72, 71, 4, 2] [2] (by kernel_rfl)) ?_
            rintro ⟨mo4, y3⟩ H
            have H : impl_VtabOk_L3 n mo4 x0 y3 = some o4 := H
            obtain _ | mo4 := mo4
            · cases (show (none : Option _) = some o4 from H)
            · rw [impl_VtabOk_L3] at H
              refine Tr.rs ?_
              refine LAt.runU tOk 1 (by kernel_rfl) ?_
              refine LAt.doneU [74, 73, 72, 71, 4, 2] [2] (by kernel_rfl) ?_
              refine Tr.seq ?_
              refine Tr.to ⟨82, 0, [(74, .val false [.lit (.bool (decide (y3 < (x0.Pvid.length : Int))))]), (73, .val false [.lit (.int .i64 y3)]), (72, .val false [.lit (.int .i64 (x0.Pvid.length : Int))]), (71, .val false [.sl false 1 (CV.frzEs (x0.Pvid.map intRow))]), (4, .val false [.lit (.bool false)]), (2, .adr (.box 2) [(0, 0)] 2 0)], [(2, (CV.frzRow (Vtab.row x0)))]⟩ (by kernel_rfl) ?_
              cases h4 : (decide (y3 < (x0.Pvid.length : Int)))
              · have H := bifF h4 H
                refine Tr.cond (b := false) (by kernel_rfl) (fun h => nomatch h) (fun _ => ?_)
                refine Tr.exit ?_
                refine And.intro (fun _ => ?_) (fun h => absurd rfl h)
                have H := Option.some.inj H
                subst H
                have H := Ho4
                dsimp only at H
                exact Exists.intro () (And.intro H (St.sub_of [4] [] (by kernel_rfl)))
              · have H := bifT h4 H
                refine Tr.cond (b := true) (by kernel_rfl) (fun _ => ?_) (fun h => nomatch h)
                refine Tr.skip ?_
                show Tr _ _ _ _ _
                refine Tr.seq ?_
                refine Tr.block ?_
                refine Tr.rs ?_
                obtain ⟨v5, ev5, H⟩ := bind_some H
                refine LAt.indexF tOk (t := 23) (ty := 0) (x := (.tmp 71)) (y := (.tmp 73)) (d := 75) (g := none) ⟨(.slot 71), [], 0, false, 1, (CV.frzEs (x0.Pvid.map intRow))⟩ y3 [.lit (.int .i64 v5)] _ (by kernel_rfl) (by kernel_rfl) (by kernel_rfl) (by kernel_rfl) rfl (idx_isF ev5) rfl ?_
                refine LAt.runU tOk 2 (by kernel_rfl) ?_
                refine LAt.doneU [8, 76, 75, 74, 73, 72, 71, 4, 2] [2] (by kernel_rfl) ?_
                refine Tr.rs ?_
                refine LAt.runU tOk 2 (by kernel_rfl) ?_
                obtain ⟨r6, er6, H⟩ := bind_some H
                refine LAt.callU tOk [.rd, .rd] (f := 40) (av := #[.tmp 77, .tmp 78]) (ats := #[29, 3]) (d := (some 79)) (ty := 3) (g := none) (by kernel_rfl) (by kernel_rfl) (by kernel_rfl) [] (impl_RowAt n x0 v5 r6 er6) (by kernel_rfl) (.inl rfl) ?_
                refine LAt.runU tOk 1 (by kernel_rfl) ?_
                refine LAt.doneU [80, 79, 78, 77, 8, 76, 75, 74, 73, 72, 71, 4, 2] [2] (by kernel_rfl) ?_
                refine Tr.to ⟨82, 0, [(80, .val false [.lit (.bool (decide (r6 < 0)))]), (79, .val false [.lit (.int .i64 r6)]), (78, .val false [.lit (.int .i64 v5)]), (77, .val true (CV.frzRow (Vtab.row x0))), (8, .val false [.lit (.int .i64 v5)]), (76, .val false [.lit (.int .i64 v5)]), (75, .fad ([.lit (.int .i64 v5)])), (74, .val false [.lit (.bool true)]), (73, .val false [.lit (.int .i64 y3)]), (72, .val false [.lit (.int .i64 (x0.Pvid.length : Int))]), (71, .val false [.sl false 1 (CV.frzEs (x0.Pvid.map intRow))]), (4, .val false [.lit (.bool false)]), (2, .adr (.box 2) [(0, 0)] 2 0)], [(2, (CV.frzRow (Vtab.row x0)))]⟩ (by kernel_rfl) ?_
                cases h5 : (decide (r6 < 0))
                · have H := bifF h5 H
                  refine Tr.cond (b := false) (by kernel_rfl) (fun h => nomatch h) (fun _ => ?_)
                  refine Tr.skip ?_
                  show Tr _ _ _ _ _
                  refine Tr.at ?_
                  refine LAt.runU tOk 2 (by kernel_rfl) ?_
                  refine LAt.doneU [73, 81, 80, 79, 78, 77, 8, 76, 75, 74, 72, 71, 4, 2] [2] (by kernel_rfl) ?_
                  exact Exists.intro (mo4, (IntKind.wrap .i64 (y3 + 1))) (And.intro H (And.intro (Nat.lt_succ_self mo4) (St.sub_of [73, 72, 71, 4, 2] [2] (by kernel_rfl))))
                · have H := bifT h5 H
                  refine Tr.cond (b := true) (by kernel_rfl) (fun _ => ?_) (fun h => nomatch h)
                  refine Tr.rs ?_
                  refine LAt.runU tOk 1 (by kernel_rfl) ?_
                  refine LAt.doneU [4, 80, 79, 78, 77, 8, 76, 75, 74, 73, 72, 71, 2] [2] (by kernel_rfl) ?_
                  refine Tr.ret ?_
                  have H := Option.some.inj H
                  subst H
                  have H := Ho4
                  dsimp only at H
                  have H := Option.some.inj H
                  subst H
                  exact Fin.of _ [(false, [.lit (.bool false)])] (by kernel_rfl) rfl rfl
          · rintro _ H
            have H : (impl_VtabOk_J2 n) = some r := H
            unfold impl_VtabOk_J2 at H
            show Tr _ _ _ _ _
            refine Tr.rs ?_
            refine LAt.runU tOk 1 (by kernel_rfl) ?_
            refine LAt.doneU [4] [] (by kernel_rfl) ?_
            refine Tr.ret ?_
            have H := Option.some.inj H
            subst H
            exact Fin.of _ [(false, [.lit (.bool true)])] (by kernel_rfl) rfl rfl
      · have H := bifT h3 H
        refine Tr.cond (b := true) (by kernel_rfl) (fun _ => ?_) (fun h => nomatch h)
        refine Tr.rs ?_
        refine LAt.runU tOk 1 (by kernel_rfl) ?_
        refine LAt.doneU [4, 2, 1] [2] (by kernel_rfl) ?_
        refine Tr.ret ?_
        have H := Option.some.inj H
        subst H
        exact Fin.of _ [(false, [.lit (.bool false)])] (by kernel_rfl) rfl rfl
    · have H := bifT h2 H
      refine LAt.runU tOk 5 (by kernel_rfl) ?_
      refine LAt.doneU [24, 4, 2, 1] [2] (by kernel_rfl) ?_
      refine Tr.cond (b := true) (by kernel_rfl) (fun _ => ?_) (fun h => nomatch h)
      refine Tr.rs ?_
      refine LAt.runU tOk 1 (by kernel_rfl) ?_
      refine LAt.doneU [4, 2, 1] [2] (by kernel_rfl) ?_
      refine Tr.ret ?_
      have H := Option.some.inj H
      subst H
      exact Fin.of _ [(false, [.lit (.bool false)])] (by kernel_rfl) rfl rfl
  · have H := bifT h1 H
    refine LAt.runU tOk 12 (by kernel_rfl) ?_
    refine LAt.doneU [24, 4, 2, 1] [2] (by kernel_rfl) ?_
    refine Tr.cond (b := true) (by kernel_rfl) (fun _ => ?_) (fun h => nomatch h)
    refine Tr.rs ?_
    refine LAt.runU tOk 1 (by kernel_rfl) ?_
    refine LAt.doneU [4, 2, 1] [2] (by kernel_rfl) ?_
    refine Tr.ret ?_
    have H := Option.some.inj H
    subst H
    exact Fin.of _ [(false, [.lit (.bool false)])] (by kernel_rfl) rfl rfl

def impl_turnedF (n : Nat) (x0 : Vtab) (x1 : Vtab) : Option (Vtab × Bool) :=
  ((impl_VtabOkF n x0 (x0.Pvid.length : Int)).bind fun r1 => (bif (!r1) then ((impl_copyVtabF n x0).bind fun r4 => (some (r4, false))) else ((impl_VtabOkF n x1 (x0.Pvid.length : Int)).bind fun r2 => (bif (!r2) then ((impl_copyVtabF n x0).bind fun r3 => (some (r3, false))) else (some (x1, true))))))
/-- loop.example/g00326/impl.turned -/
theorem impl_turned (n : Nat) (x0 : Vtab) (x1 : Vtab) (r : Vtab × Bool) (H : impl_turnedF n x0 x1 = some r) : LCall Try.prog 83 [.val true (CV.frzRow (Vtab.row x0)), .own true (Vtab.row x1)] [.val true (Vtab.row r.1), .val false [.lit (.bool r.2)]] [] := by
  refine LCall.of_body tOk Try.func83 rfl (c := (.seq (.region 0 (rg Try.f83 0) false) (.seq (.seq (.region 1 (rg Try.f83 1) false) (.cond (.tmp 19) (.seq (.region 2 (rg Try.f83 2) false) .ret) .skip)) (.seq (.region 3 (rg Try.f83 3) false) .ret)))) (by kernel_rfl) (Nat.le_of_ble_eq_true (by kernel_rfl)) 0 (rs := [.cell 4 29, .tmp 5]) rfl [] .nil [(true, (Vtab.row r.1)), (false, [.lit (.bool r.2)])] [] [] fun cx => ?_
  show Tr _ _ _ ⟨23, 0, [(0, .val true (CV.frzRow (Vtab.row x0))), (1, .val true (Vtab.row x1))], []⟩ _
  unfold impl_turnedF at H
  refine Tr.rs ?_
  refine LAt.runU tOk 4 (by kernel_rfl) ?_
  refine LAt.doneU [5, 4, 3, 2] [4, 3, 2] (by kernel_rfl) ?_
  refine Tr.seq ?_
  refine Tr.rs ?_
  refine LAt.runU tOk 3 (by kernel_rfl) ?_
  refine LAt.lenE tOk (t := 23) (ty := 3) (e := 3) (x := (.tmp 8)) (d := 9) (g := none) ⟨(.slot 8), [], 0, false, 1, (CV.frzEs (x0.Pvid.map intRow))⟩ (x0.Pvid).length _ (by kernel_rfl) (by kernel_rfl) (by kernel_rfl) (by kernel_rfl) (by kernel_rfl) (frz_len _ _) rfl ?_
  obtain ⟨r1, er1, H⟩ := bind_some H
  refine LAt.callU tOk [.rd, .rd] (f := 41) (av := #[.tmp 6, .tmp 9]) (ats := #[29, 3]) (d := (some 10)) (ty := 4) (g := none) (by kernel_rfl) (by kernel_rfl) (by kernel_rfl) [] (impl_VtabOk n x0 (x0.Pvid.length : Int) r1 er1) (by kernel_rfl) (.inl rfl) ?_
  refine LAt.runU tOk 2 (by kernel_rfl) ?_
  refine LAt.to ⟨23, 0, [(12, .val false [.lit (.bool (!r1))]), (11, .val false [.lit (.bool (!r1))]), (10, .val false [.lit (.bool r1)]), (9, .val false [.lit (.int .i64 (x0.Pvid.length : Int))]), (8, .val false [.sl false 1 (CV.frzEs (x0.Pvid.map intRow))]), (7, .adr (.box 2) [(0, 0)] 2 1), (6, .val true (CV.frzRow (Vtab.row x0))), (5, .val false [.lit (.bool false)]), (4, .adr (.box 4) [(0, 0)] 2 0), (3, .adr (.box 3) [(0, 0)] 2 0), (2, .adr (.box 2) [(0, 0)] 2 0)], [(4, [.sl true 3 (([] : List Vrow).map Vrow.row), .sl true 1 (([] : List Int).map intRow)]), (3, (Vtab.row x1)), (2, (CV.frzRow (Vtab.row x0)))]⟩ (by kernel_rfl) ?_
  cases h1 : (!r1)
  · have H := bifF h1 H
    refine LAt.runU tOk 3 (by kernel_rfl) ?_
    refine LAt.lenE tOk (t := 23) (ty := 3) (e := 3) (x := (.tmp 15)) (d := 16) (g := (some (6, false))) ⟨(.slot 15), [], 0, false, 1, (CV.frzEs (x0.Pvid.map intRow))⟩ (x0.Pvid).length _ (by kernel_rfl) (by kernel_rfl) (by kernel_rfl) (by kernel_rfl) (by kernel_rfl) (frz_len _ _) rfl ?_
    obtain ⟨r2, er2, H⟩ := bind_some H
    refine LAt.callU tOk [.rd, .rd] (f := 41) (av := #[.tmp 13, .tmp 16]) (ats := #[29, 3]) (d := (some 17)) (ty := 4) (g := (some (6, false))) (by kernel_rfl) (by kernel_rfl) (by kernel_rfl) [.box 3] (impl_VtabOk n x1 (x0.Pvid.length : Int) r2 er2) (by kernel_rfl) (.inr (rets_cons (mine_cons mine_lit mine_nil) rets_nil)) ?_
    refine LAt.runU tOk 2 (by kernel_rfl) ?_
    refine LAt.doneU [19, 5, 4, 3, 2] [4, 3, 2] (by kernel_rfl) ?_
    refine Tr.to ⟨23, 0, [(19, .val false [.lit (.bool (!r2))]), (5, .val false [.lit (.bool false)]), (4, .adr (.box 4) [(0, 0)] 2 0), (3, .adr (.box 3) [(0, 0)] 2 0), (2, .adr (.box 2) [(0, 0)] 2 0)], [(4, [.sl true 3 (([] : List Vrow).map Vrow.row), .sl true 1 (([] : List Int).map intRow)]), (3, (Vtab.row x1)), (2, (CV.frzRow (Vtab.row x0)))]⟩ (by kernel_rfl) ?_
    cases h2 : (!r2)
    · have H := bifF h2 H
      refine Tr.cond (b := false) (by kernel_rfl) (fun h => nomatch h) (fun _ => ?_)
      refine Tr.skip ?_
      show Tr _ _ _ _ _
      refine Tr.rs ?_
      refine LAt.runU tOk 3 (by kernel_rfl) ?_
      refine LAt.doneU [5, 4] [4] (by kernel_rfl) ?_
      refine Tr.ret ?_
      have H := Option.some.inj H
      subst H
      exact Fin.of _ [(true, (Vtab.row x1)), (false, [.lit (.bool true)])] (by kernel_rfl) rfl rfl
    · have H := bifT h2 H
      refine Tr.cond (b := true) (by kernel_rfl) (fun _ => ?_) (fun h => nomatch h)
      refine Tr.rs ?_
      refine LAt.runU tOk 1 (by kernel_rfl) ?_
      obtain ⟨r3, er3, H⟩ := bind_some H
      refine LAt.callU tOk [.rd] (f := 81) (av := #[.tmp 20]) (ats := #[29]) (d := (some 21)) (ty := 29) (g := none) (by kernel_rfl) (by kernel_rfl) (by kernel_rfl) [] (impl_copyVtab n x0 r3 er3) (by kernel_rfl) (.inl rfl) ?_
      refine LAt.runU tOk 2 (by kernel_rfl) ?_
      refine LAt.doneU [5, 4, 3] [4, 3] (by kernel_rfl) ?_
      refine Tr.ret ?_
      have H := Option.some.inj H
      subst H
      exact Fin.of _ [(true, (Vtab.row r3)), (false, [.lit (.bool false)])] (by kernel_rfl) rfl rfl
  · have H := bifT h1 H
    refine LAt.runU tOk 7 (by kernel_rfl) ?_
    refine LAt.doneU [19, 5, 4, 3, 2] [4, 3, 2] (by kernel_rfl) ?_
    refine Tr.cond (b := true) (by kernel_rfl) (fun _ => ?_) (fun h => nomatch h)
    refine Tr.rs ?_
    refine LAt.runU tOk 1 (by kernel_rfl) ?_
    obtain ⟨r4, er4, H⟩ := bind_some H
    refine LAt.callU tOk [.rd] (f := 81) (av := #[.tmp 20]) (ats := #[29]) (d := (some 21)) (ty := 29) (g := none) (by kernel_rfl) (by kernel_rfl) (by kernel_rfl) [] (impl_copyVtab n x0 r4 er4) (by kernel_rfl) (.inl rfl) ?_
    refine LAt.runU tOk 2 (by kernel_rfl) ?_
    refine LAt.doneU [5, 4, 3] [4, 3] (by kernel_rfl) ?_
    refine Tr.ret ?_
    have H := Option.some.inj H
    subst H
    exact Fin.of _ [(true, (Vtab.row r4)), (false, [.lit (.bool false)])] (by kernel_rfl) rfl rfl

def impl_PutRowF (n : Nat) (x0 : Vtab) (x1 : Vrow) : Option (Vtab × Bool) :=
  ((impl_withRowF n x0 x1).bind fun r1 => ((impl_turnedF n x0 r1).bind fun r2 => (some (r2.1, r2.2))))
/-- loop.example/g00326/impl.PutRow -/
theorem impl_PutRow (n : Nat) (x0 : Vtab) (x1 : Vrow) (r : Vtab × Bool) (H : impl_PutRowF n x0 x1 = some r) : LCall Try.prog 37 [.val true (CV.frzRow (Vtab.row x0)), .val true (CV.frzRow (Vrow.row x1))] [.val true (Vtab.row r.1), .val false [.lit (.bool r.2)]] [] := by
  refine LCall.of_body tOk Try.func37 rfl (c := (.seq (.region 0 (rg Try.f37 0) false) (.seq (.region 1 (rg Try.f37 1) true) .ret))) (by kernel_rfl) (Nat.le_of_ble_eq_true (by kernel_rfl)) 0 (rs := [.cell 4 29, .tmp 5]) rfl [] .nil [(true, (Vtab.row r.1)), (false, [.lit (.bool r.2)])] [] [] fun cx => ?_
  show Tr _ _ _ ⟨13, 0, [(0, .val true (CV.frzRow (Vtab.row x0))), (1, .val true (Vrow.row x1))], []⟩ _
  unfold impl_PutRowF at H
  refine Tr.rs ?_
  refine LAt.runU tOk 4 (by kernel_rfl) ?_
  refine LAt.doneU [5, 4, 3, 2] [4, 3, 2] (by kernel_rfl) ?_
  obtain ⟨r1, er1, H⟩ := bind_some H
  obtain ⟨r2, er2, H⟩ := bind_some H
  refine Tr.draws mixed 9 (by kernel_rfl) ⟨13, 0, [(5, .val false [.lit (.bool r2.2)]), (4, .adr (.box 4) [(0, 0)] 2 0)], [(4, (Vtab.row r2.1))]⟩ (fun cx => ?_) ?_
  · refine AT.runU tOk [(0, [4, 7]), (1, [3, 4, 7]), (2, [3, 4, 7])] 6 [⟨[3, 4, 7], 56, 3, 8⟩, ⟨[3, 4, 7], 29, 2, 7⟩, ⟨[4, 7], 29, 2, 6⟩] [2, 1, 0] rfl (by kernel_rfl) (fun cx => ?_)
    refine AT.big1 tOk 3 (by kernel_rfl) (by kernel_rfl) ?_
    refine LAt.callU tOk [.rd, .rd] (f := 107) (av := #[.tmp 7, .tmp 8]) (ats := #[29, 56]) (d := (some 9)) (ty := 29) (g := none) (by kernel_rfl) (by kernel_rfl) (by kernel_rfl) [] (impl_withRow n x0 x1 r1 er1) (by kernel_rfl) (.inl rfl) ?_
    refine LAt.fin (by kernel_rfl) (And.intro (And.intro (by kernel_rfl) (by kernel_rfl)) ?_)
    refine AT.big1 tOk 4 (by kernel_rfl) (by kernel_rfl) ?_
    refine LAt.callU tOk [.rd, .own] (f := 83) (av := #[.tmp 6, .tmp 9]) (ats := #[29, 29]) (d := (some 10)) (ty := 30) (g := none) (by kernel_rfl) (by kernel_rfl) (by kernel_rfl) [] (impl_turned n x0 r1 r2 er2) (by kernel_rfl) (.inl rfl) ?_
    refine LAt.fin (by kernel_rfl) (And.intro (And.intro (by kernel_rfl) (by kernel_rfl)) ?_)
    refine AT.runU tOk [(5, []), (6, [])] 2 [⟨[3, 4, 7], 56, 3, 8⟩, ⟨[3, 4, 7], 29, 2, 7⟩, ⟨[4, 7], 29, 2, 6⟩] [6, 5, 4, 3, 2, 1, 0] rfl (by kernel_rfl) (fun cx => ?_)
    refine AT.big1 tOk 7 (by kernel_rfl) (by kernel_rfl) ?_
    refine LAt.runU tOk 1 (by kernel_rfl) ?_
    refine LAt.fin (by kernel_rfl) (And.intro (And.intro (by kernel_rfl) (by kernel_rfl)) ?_)
    refine AT.runU tOk [(8, [])] 0 [⟨[3, 4, 7], 56, 3, 8⟩, ⟨[3, 4, 7], 29, 2, 7⟩, ⟨[4, 7], 29, 2, 6⟩] [8, 7, 6, 5, 4, 3, 2, 1, 0] rfl (by kernel_rfl) (fun cx => ?_)
    exact AT.done [5, 4] [4] _ (by kernel_rfl) (by kernel_rfl) rfl
  · refine Tr.ret ?_
    have H := Option.some.inj H
    subst H
    exact Fin.of _ [(true, (Vtab.row r2.1)), (false, [.lit (.bool r2.2)])] (by kernel_rfl) rfl rfl

def laws_eqVrowF (n : Nat) (x0 : Vrow) (x1 : Vrow) : Option (Bool) :=
  (bif (x0.Id != x1.Id) then (some false) else (bif (x0.Members != x1.Members) then (some false) else (bif (x0.Bare != x1.Bare) then (some false) else (some true))))
/-- loop.example/g00326/laws.eqVrow -/
theorem laws_eqVrow (n : Nat) (x0 : Vrow) (x1 : Vrow) (r : Bool) (H : laws_eqVrowF n x0 x1 = some r) : LCall Try.prog 147 [.val true (CV.frzRow (Vrow.row x0)), .val true (CV.frzRow (Vrow.row x1))] [.val false [.lit (.bool r)]] [] := by
  refine LCall.of_body tOk Try.func147 rfl (c := (.seq (.region 0 (rg Try.f147 0) false) (.seq (.seq (.region 1 (rg Try.f147 1) false) (.cond (.tmp 9) (.seq (.region 2 (rg Try.f147 2) false) .ret) .skip)) (.seq (.seq (.region 3 (rg Try.f147 3) false) (.cond (.tmp 14) (.seq (.region 4 (rg Try.f147 4) false) .ret) .skip)) (.seq (.seq (.region 5 (rg Try.f147 5) false) (.cond (.tmp 19) (.seq (.region 6 (rg Try.f147 6) false) .ret) .skip)) (.seq (.region 7 (rg Try.f147 7) false) .ret)))))) (by kernel_rfl) (Nat.le_of_ble_eq_true (by kernel_rfl)) 0 (rs := [.tmp 4]) rfl [] .nil [(false, [.lit (.bool r)])] [] [] fun cx => ?_
  show Tr _ _ _ ⟨20, 0, [(0, .val true (Vrow.row x0)), (1, .val true (Vrow.row x1))], []⟩ _
  unfold laws_eqVrowF at H
  refine Tr.rs ?_
  refine LAt.runU tOk 3 (by kernel_rfl) ?_
  refine LAt.doneU [4, 3, 2] [3, 2] (by kernel_rfl) ?_
  refine Tr.seq ?_
  refine Tr.rs ?_
  refine LAt.runU tOk 5 (by kernel_rfl) ?_
  refine LAt.doneU [9, 4, 3, 2] [3, 2] (by kernel_rfl) ?_
  refine Tr.to ⟨20, 0, [(9, .val false [.lit (.bool (x0.Id != x1.Id))]), (4, .val false [.lit (.bool false)]), (3, .adr (.box 3) [(0, 0)] 3 0), (2, .adr (.box 2) [(0, 0)] 3 0)], [(3, (Vrow.row x1)), (2, (Vrow.row x0))]⟩ (by kernel_rfl) ?_
  cases h1 : (x0.Id != x1.Id)
  · have H := bifF h1 H
    refine Tr.cond (b := false) (by kernel_rfl) (fun h => nomatch h) (fun _ => ?_)
    refine Tr.skip ?_
    show Tr _ _ _ _ _
    refine Tr.seq ?_
    refine Tr.rs ?_
    refine LAt.runU tOk 5 (by kernel_rfl) ?_
    refine LAt.doneU [14, 4, 3, 2] [3, 2] (by kernel_rfl) ?_
    refine Tr.to ⟨20, 0, [(14, .val false [.lit (.bool (x0.Members != x1.Members))]), (4, .val false [.lit (.bool false)]), (3, .adr (.box 3) [(0, 0)] 3 0), (2, .adr (.box 2) [(0, 0)] 3 0)], [(3, (Vrow.row x1)), (2, (Vrow.row x0))]⟩ (by kernel_rfl) ?_
    cases h2 : (x0.Members != x1.Members)
    · have H := bifF h2 H
      refine Tr.cond (b := false) (by kernel_rfl) (fun h => nomatch h) (fun _ => ?_)
      refine Tr.skip ?_
      show Tr _ _ _ _ _
      refine Tr.seq ?_
      refine Tr.rs ?_
      refine LAt.runU tOk 5 (by kernel_rfl) ?_
      refine LAt.doneU [19, 4] [] (by kernel_rfl) ?_
      refine Tr.to ⟨20, 0, [(19, .val false [.lit (.bool (x0.Bare != x1.Bare))]), (4, .val false [.lit (.bool false)])], []⟩ (by kernel_rfl) ?_
      cases h3 : (x0.Bare != x1.Bare)
      · have H := bifF h3 H
        refine Tr.cond (b := false) (by kernel_rfl) (fun h => nomatch h) (fun _ => ?_)
        refine Tr.skip ?_
        show Tr _ _ _ _ _
        refine Tr.rs ?_
        refine LAt.runU tOk 1 (by kernel_rfl) ?_
        refine LAt.doneU [4] [] (by kernel_rfl) ?_
        refine Tr.ret ?_
        have H := Option.some.inj H
        subst H
        exact Fin.of _ [(false, [.lit (.bool true)])] (by kernel_rfl) rfl rfl
      · have H := bifT h3 H
        refine Tr.cond (b := true) (by kernel_rfl) (fun _ => ?_) (fun h => nomatch h)
        refine Tr.rs ?_
        refine LAt.runU tOk 1 (by kernel_rfl) ?_
        refine LAt.doneU [4] [] (by kernel_rfl) ?_
        refine Tr.ret ?_
        have H := Option.some.inj H
        subst H
        exact Fin.of _ [(false, [.lit (.bool false)])] (by kernel_rfl) rfl rfl
    · have H := bifT h2 H
      refine Tr.cond (b := true) (by kernel_rfl) (fun _ => ?_) (fun h => nomatch h)
      refine Tr.rs ?_
      refine LAt.runU tOk 1 (by kernel_rfl) ?_
      refine LAt.doneU [4, 3, 2] [3, 2] (by kernel_rfl) ?_
      refine Tr.ret ?_
      have H := Option.some.inj H
      subst H
      exact Fin.of _ [(false, [.lit (.bool false)])] (by kernel_rfl) rfl rfl
  · have H := bifT h1 H
    refine Tr.cond (b := true) (by kernel_rfl) (fun _ => ?_) (fun h => nomatch h)
    refine Tr.rs ?_
    refine LAt.runU tOk 1 (by kernel_rfl) ?_
    refine LAt.doneU [4, 3, 2] [3, 2] (by kernel_rfl) ?_
    refine Tr.ret ?_
    have H := Option.some.inj H
    subst H
    exact Fin.of _ [(false, [.lit (.bool false)])] (by kernel_rfl) rfl rfl

def laws_eqVrowS_J1 (n : Nat) : Option (Bool) :=
  (some true)
def laws_eqVrowS_L2 (n : Nat) : Nat → (List Vrow) → (List Vrow) → Int → Option ((Unit) ⊕ (Bool))
  | 0, _, _, _ => none
  | mo2 + 1, x0, x1, y1 => (bif (decide (y1 < (x0.length : Int))) then ((idx x0 y1).bind fun v3 => ((idx x1 y1).bind fun v4 => ((laws_eqVrowF n v3 v4).bind fun r5 => (bif (!r5) then (some (Sum.inr false)) else (laws_eqVrowS_L2 n mo2 x0 x1 (IntKind.wrap .i64 (y1 + 1))))))) else (some (Sum.inl ())))
def laws_eqVrowSF (n : Nat) (x0 : (List Vrow)) (x1 : (List Vrow)) : Option (Bool) :=
  (bif ((x0.length : Int) != (x1.length : Int)) then (some false) else ((laws_eqVrowS_L2 n n x0 x1 0).bind fun o => match o with | .inl _ => (laws_eqVrowS_J1 n) | .inr r => some r))
/-- loop.example/g00326/laws.eqVrowS -/
theorem laws_eqVrowS (n : Nat) (x0 : (List Vrow)) (x1 : (List Vrow)) (r : Bool) (H : laws_eqVrowSF n x0 x1 = some r) : LCall Try.prog 84 [.val false [.sl false 3 (CV.frzEs (x0.map Vrow.row))], .val false [.sl false 3 (CV.frzEs (x1.map Vrow.row))]] [.val false [.lit (.bool r)]] [] := by
  refine LCall.of_body tOk Try.func84 rfl (c := (.seq (.region 0 (rg Try.f84 0) false) (.seq (.seq (.region 1 (rg Try.f84 1) false) (.cond (.tmp 10) (.seq (.region 2 (rg Try.f84 2) false) .ret) .skip)) (.seq (.seq (.region 3 (rg Try.f84 3) false) (.block 0 (.loop (.seq (.seq (.region 4 (rg Try.f84 4) false) (.cond (.tmp 14) .skip (.exit 0))) (.seq (.block 1 (.seq (.region 6 (rg Try.f84 6) true) (.cond (.tmp 26) (.seq (.region 7 (rg Try.f84 7) false) .ret) .skip))) (.region 5 (rg Try.f84 5) false)))))) (.seq (.region 8 (rg Try.f84 8) false) .ret))))) (by kernel_rfl) (Nat.le_of_ble_eq_true (by kernel_rfl)) 0 (rs := [.tmp 4]) rfl [] .nil [(false, [.lit (.bool r)])] [] [] fun cx => ?_
  show Tr _ _ _ ⟨27, 0, [(0, .val false [.sl false 3 (CV.frzEs (x0.map Vrow.row))]), (1, .val false [.sl false 3 (CV.frzEs (x1.map Vrow.row))])], []⟩ _
  unfold laws_eqVrowSF at H
  refine Tr.rs ?_
  refine LAt.runU tOk 1 (by kernel_rfl) ?_
  refine LAt.doneU [4, 0, 1] [] (by kernel_rfl) ?_
  refine Tr.seq ?_
  refine Tr.rs ?_
  refine LAt.runU tOk 1 (by kernel_rfl) ?_
  refine LAt.lenE tOk (t := 27) (ty := 3) (e := 56) (x := (.tmp 6)) (d := 7) (g := none) ⟨(.slot 6), [], 0, false, 3, (CV.frzEs (x0.map Vrow.row))⟩ (x0).length _ (by kernel_rfl) (by kernel_rfl) (by kernel_rfl) (by kernel_rfl) (by kernel_rfl) (frz_len _ _) rfl ?_
  refine LAt.runU tOk 1 (by kernel_rfl) ?_
  refine LAt.lenE tOk (t := 27) (ty := 3) (e := 56) (x := (.tmp 8)) (d := 9) (g := none) ⟨(.slot 8), [], 0, false, 3, (CV.frzEs (x1.map Vrow.row))⟩ (x1).length _ (by kernel_rfl) (by kernel_rfl) (by kernel_rfl) (by kernel_rfl) (by kernel_rfl) (frz_len _ _) rfl ?_
  refine LAt.runU tOk 1 (by kernel_rfl) ?_
  refine LAt.doneU [10, 4, 0, 1] [] (by kernel_rfl) ?_
  refine Tr.to ⟨27, 0, [(10, .val false [.lit (.bool ((x0.length : Int) != (x1.length : Int)))]), (4, .val false [.lit (.bool false)]), (0, .val false [.sl false 3 (CV.frzEs (x0.map Vrow.row))]), (1, .val false [.sl false 3 (CV.frzEs (x1.map Vrow.row))])], []⟩ (by kernel_rfl) ?_
  cases h1 : ((x0.length : Int) != (x1.length : Int))
  · have H := bifF h1 H
    refine Tr.cond (b := false) (by kernel_rfl) (fun h => nomatch h) (fun _ => ?_)
    refine Tr.skip ?_
    show Tr _ _ _ _ _
    refine Tr.seq ?_
    refine Tr.rs ?_
    refine LAt.runU tOk 1 (by kernel_rfl) ?_
    refine LAt.doneU [5, 4, 0, 1] [] (by kernel_rfl) ?_
    obtain ⟨o2, eo2, Ho2⟩ := bind_some H
    clear H
    refine Tr.mid (ι := Unit) (fun v => ⟨27, 0, [(4, .val false [.lit (.bool false)])], []⟩) (fun v => laws_eqVrowS_J1 n = some r) ?_ ?_
    · refine Tr.block ?_
      refine Tr.loop (ι := Nat × (Int)) (fun v => ⟨27, 0, [(5, .val false [.lit (.int .i64 v.2)]), (4, .val false [.lit (.bool false)]), (0, .val false [.sl false 3 (CV.frzEs (x0.map Vrow.row))]), (1, .val false [.sl false 3 (CV.frzEs (x1.map Vrow.row))])], []⟩) (fun v => laws_eqVrowS_L2 n v.1 x0 x1 v.2 = some o2) (fun v => v.1) (n, 0) eo2 (St.sub_of [5, 4, 0, 1] [] (by kernel_rfl)) ?_
      rintro ⟨mo2, y1⟩ H
      have H : laws_eqVrowS_L2 n mo2 x0 x1 y1 = some o2 := H
      obtain _ | mo2 := mo2
      · cases (show (none : Option _) = some o2 from H)
      · rw [laws_eqVrowS_L2] at H
        refine Tr.seq ?_
        refine Tr.rs ?_
        refine LAt.runU tOk 2 (by kernel_rfl) ?_
        refine LAt.lenE tOk (t := 27) (ty := 3) (e := 56) (x := (.tmp 12)) (d := 13) (g := none) ⟨(.slot 12), [], 0, false, 3, (CV.frzEs (x0.map Vrow.row))⟩ (x0).length _ (by kernel_rfl) (by kernel_rfl) (by kernel_rfl) (by kernel_rfl) (by kernel_rfl) (frz_len _ _) rfl ?_
        refine LAt.runU tOk 1 (by kernel_rfl) ?_
        refine LAt.doneU [14, 13, 12, 11, 5, 4, 0, 1] [] (by kernel_rfl) ?_
        refine Tr.to ⟨27, 0, [(14, .val false [.lit (.bool (decide (y1 < (x0.length : Int))))]), (13, .val false [.lit (.int .i64 (x0.length : Int))]), (12, .val false [.sl false 3 (CV.frzEs (x0.map Vrow.row))]), (11, .val false [.lit (.int .i64 y1)]), (5, .val false [.lit (.int .i64 y1)]), (4, .val false [.lit (.bool false)]), (0, .val false [.sl false 3 (CV.frzEs (x0.map Vrow.row))]), (1, .val false [.sl false 3 (CV.frzEs (x1.map Vrow.row))])], []⟩ (by kernel_rfl) ?_
        cases h2 : (decide (y1 < (x0.length : Int)))
        · have H := bifF h2 H
          refine Tr.cond (b := false) (by kernel_rfl) (fun h => nomatch h) (fun _ => ?_)
          refine Tr.exit ?_
          refine And.intro (fun _ => ?_) (fun h => absurd rfl h)
          have H := Option.some.inj H
          subst H
          have H := Ho2
          dsimp only at H
          exact Exists.intro () (And.intro H (St.sub_of [4] [] (by kernel_rfl)))
        · have H := bifT h2 H
          refine Tr.cond (b := true) (by kernel_rfl) (fun _ => ?_) (fun h => nomatch h)
          refine Tr.skip ?_
          show Tr _ _ _ _ _
          refine Tr.seq ?_
          refine Tr.block ?_
          obtain ⟨v3, ev3, H⟩ := bind_some H
          obtain ⟨v4, ev4, H⟩ := bind_some H
          obtain ⟨r5, er5, H⟩ := bind_some H
          refine Tr.draws mixed 10 (by kernel_rfl) ⟨27, 0, [(26, .val false [.lit (.bool (!r5))]), (25, .val false [.lit (.bool r5)]), (24, .val true (Vrow.row v4)), (23, .fad ((Vrow.row v4))), (22, .val false [.lit (.int .i64 y1)]), (21, .val false [.sl false 3 (CV.frzEs (x1.map Vrow.row))]), (20, .val true (Vrow.row v3)), (19, .fad ((Vrow.row v3))), (18, .val false [.lit (.int .i64 y1)]), (17, .val false [.sl false 3 (CV.frzEs (x0.map Vrow.row))]), (14, .val false [.lit (.bool true)]), (13, .val false [.lit (.int .i64 (x0.length : Int))]), (12, .val false [.sl false 3 (CV.frzEs (x0.map Vrow.row))]), (11, .val false [.lit (.int .i64 y1)]), (5, .val false [.lit (.int .i64 y1)]), (4, .val false [.lit (.bool false)]), (0, .val false [.sl false 3 (CV.frzEs (x0.map Vrow.row))]), (1, .val false [.sl false 3 (CV.frzEs (x1.map Vrow.row))])], []⟩ (fun cx => ?_) ?_
          · refine AT.runU tOk [(0, []), (1, [])] 8 [] [1, 0] rfl (by kernel_rfl) (fun cx => ?_)
            refine AT.indexF tOk 2 (t := 27) (ty := 0) (x := (.tmp 17)) (y := (.tmp 18)) (d := 19) (g := none) ⟨(.slot 17), [], 0, false, 3, (CV.frzEs (x0.map Vrow.row))⟩ y1 (Vrow.row v3) _ (by kernel_rfl) (by kernel_rfl) (by kernel_rfl) (by kernel_rfl) (by kernel_rfl) (by kernel_rfl) rfl (idx_isF ev3) rfl (fun cx => ?_)
            refine AT.runU tOk [(3, []), (4, []), (5, [])] 4 [] [5, 4, 3, 2, 1, 0] rfl (by kernel_rfl) (fun cx => ?_)
            refine AT.indexF tOk 6 (t := 27) (ty := 0) (x := (.tmp 21)) (y := (.tmp 22)) (d := 23) (g := none) ⟨(.slot 21), [], 0, false, 3, (CV.frzEs (x1.map Vrow.row))⟩ y1 (Vrow.row v4) _ (by kernel_rfl) (by kernel_rfl) (by kernel_rfl) (by kernel_rfl) (by kernel_rfl) (by kernel_rfl) rfl (idx_isF ev4) rfl (fun cx => ?_)
            refine AT.runU tOk [(7, [])] 2 [] [7, 6, 5, 4, 3, 2, 1, 0] rfl (by kernel_rfl) (fun cx => ?_)
            refine AT.big1 tOk 8 (by kernel_rfl) (by kernel_rfl) ?_
            refine LAt.callU tOk [.rd, .rd] (f := 147) (av := #[.tmp 20, .tmp 24]) (ats := #[56, 56]) (d := (some 25)) (ty := 4) (g := none) (by kernel_rfl) (by kernel_rfl) (by kernel_rfl) [] (laws_eqVrow n v3 v4 r5 er5) (by kernel_rfl) (.inl rfl) ?_
            refine LAt.fin (by kernel_rfl) (And.intro (And.intro (by kernel_rfl) (by kernel_rfl)) ?_)
            refine AT.runU tOk [(9, [])] 0 [] [9, 8, 7, 6, 5, 4, 3, 2, 1, 0] rfl (by kernel_rfl) (fun cx => ?_)
            exact AT.done [26, 25, 24, 23, 22, 21, 20, 19, 18, 17, 14, 13, 12, 11, 5, 4, 0, 1] [] _ (by kernel_rfl) (by kernel_rfl) rfl
          · refine Tr.to ⟨27, 0, [(26, .val false [.lit (.bool (!r5))]), (25, .val false [.lit (.bool r5)]), (24, .val true (Vrow.row v4)), (23, .fad ((Vrow.row v4))), (22, .val false [.lit (.int .i64 y1)]), (21, .val false [.sl false 3 (CV.frzEs (x1.map Vrow.row))]), (20, .val true (Vrow.row v3)), (19, .fad ((Vrow.row v3))), (18, .val false [.lit (.int .i64 y1)]), (17, .val false [.sl false 3 (CV.frzEs (x0.map Vrow.row))]), (14, .val false [.lit (.bool true)]), (13, .val false [.lit (.int .i64 (x0.length : Int))]), (12, .val false [.sl false 3 (CV.frzEs (x0.map Vrow.row))]), (11, .val false [.lit (.int .i64 y1)]), (5, .val false [.lit (.int .i64 y1)]), (4, .val false [.lit (.bool false)]), (0, .val false [.sl false 3 (CV.frzEs (x0.map Vrow.row))]), (1, .val false [.sl false 3 (CV.frzEs (x1.map Vrow.row))])], []⟩ (by kernel_rfl) ?_
            cases h3 : (!r5)
            · have H := bifF h3 H
              refine Tr.cond (b := false) (by kernel_rfl) (fun h => nomatch h) (fun _ => ?_)
              refine Tr.skip ?_
              show Tr _ _ _ _ _
              refine Tr.at ?_
              refine LAt.runU tOk 3 (by kernel_rfl) ?_
              refine LAt.doneU [5, 16, 15, 26, 25, 24, 23, 22, 21, 20, 19, 18, 17, 14, 13, 12, 11, 4, 0, 1] [] (by kernel_rfl) ?_
              exact Exists.intro (mo2, (IntKind.wrap .i64 (y1 + 1))) (And.intro H (And.intro (Nat.lt_succ_self mo2) (St.sub_of [5, 4, 0, 1] [] (by kernel_rfl))))
            · have H := bifT h3 H
              refine Tr.cond (b := true) (by kernel_rfl) (fun _ => ?_) (fun h => nomatch h)
              refine Tr.rs ?_
              refine LAt.runU tOk 1 (by kernel_rfl) ?_
              refine LAt.doneU [4, 26, 25, 24, 23, 22, 21, 20, 19, 18, 17, 14, 13, 12, 11, 5, 0, 1] [] (by kernel_rfl) ?_
              refine Tr.ret ?_
              have H := Option.some.inj H
              subst H
              have H := Ho2
              dsimp only at H
              have H := Option.some.inj H
              subst H
              exact Fin.of _ [(false, [.lit (.bool false)])] (by kernel_rfl) rfl rfl
    · rintro _ H
      have H : (laws_eqVrowS_J1 n) = some r := H
      unfold laws_eqVrowS_J1 at H
      show Tr _ _ _ _ _
      refine Tr.rs ?_
      refine LAt.runU tOk 1 (by kernel_rfl) ?_
      refine LAt.doneU [4] [] (by kernel_rfl) ?_
      refine Tr.ret ?_
      have H := Option.some.inj H
      subst H
      exact Fin.of _ [(false, [.lit (.bool true)])] (by kernel_rfl) rfl rfl
  · have H := bifT h1 H
    refine Tr.cond (b := true) (by kernel_rfl) (fun _ => ?_) (fun h => nomatch h)
    refine Tr.rs ?_
    refine LAt.runU tOk 1 (by kernel_rfl) ?_
    refine LAt.doneU [4, 0, 1] [] (by kernel_rfl) ?_
    refine Tr.ret ?_
    have H := Option.some.inj H
    subst H
    exact Fin.of _ [(false, [.lit (.bool false)])] (by kernel_rfl) rfl rfl

def laws_eqIntS_J1 (n : Nat) : Option (Bool) :=
  (some true)
def laws_eqIntS_L2 (n : Nat) : Nat → (List Int) → (List Int) → Int → Option ((Unit) ⊕ (Bool))
  | 0, _, _, _ => none
  | mo2 + 1, x0, x1, y1 => (bif (decide (y1 < (x0.length : Int))) then ((idx x0 y1).bind fun v3 => ((idx x1 y1).bind fun v4 => (bif (v3 != v4) then (some (Sum.inr false)) else (laws_eqIntS_L2 n mo2 x0 x1 (IntKind.wrap .i64 (y1 + 1)))))) else (some (Sum.inl ())))
def laws_eqIntSF (n : Nat) (x0 : (List Int)) (x1 : (List Int)) : Option (Bool) :=
  (bif ((x0.length : Int) != (x1.length : Int)) then (some false) else ((laws_eqIntS_L2 n n x0 x1 0).bind fun o => match o with | .inl _ => (laws_eqIntS_J1 n) | .inr r => some r))
/-- loop.example/g00326/laws.eqIntS -/
theorem laws_eqIntS (n : Nat) (x0 : (List Int)) (x1 : (List Int)) (r : Bool) (H : laws_eqIntSF n x0 x1 = some r) : LCall Try.prog 85 [.val false [.sl false 1 (CV.frzEs (x0.map intRow))], .val false [.sl false 1 (CV.frzEs (x1.map intRow))]] [.val false [.lit (.bool r)]] [] := by
  refine LCall.of_body tOk Try.func85 rfl (c := (.seq (.region 0 (rg Try.f85 0) false) (.seq (.seq (.region 1 (rg Try.f85 1) false) (.cond (.tmp 10) (.seq (.region 2 (rg Try.f85 2) false) .ret) .skip)) (.seq (.seq (.region 3 (rg Try.f85 3) false) (.block 0 (.loop (.seq (.seq (.region 4 (rg Try.f85 4) false) (.cond (.tmp 14) .skip (.exit 0))) (.seq (.block 1 (.seq (.region 6 (rg Try.f85 6) true) (.cond (.tmp 25) (.seq (.region 7 (rg Try.f85 7) false) .ret) .skip))) (.region 5 (rg Try.f85 5) false)))))) (.seq (.region 8 (rg Try.f85 8) false) .ret))))) (by kernel_rfl) (Nat.le_of_ble_eq_true (by kernel_rfl)) 0 (rs := [.tmp 4]) rfl [] .nil [(false, [.lit (.bool r)])] [] [] fun cx => ?_
  show Tr _ _ _ ⟨26, 0, [(0, .val false [.sl false 1 (CV.frzEs (x0.map intRow))]), (1, .val false [.sl false 1 (CV.frzEs (x1.map intRow))])], []⟩ _
  unfold laws_eqIntSF at H
  refine Tr.rs ?_
  refine LAt.runU tOk 1 (by kernel_rfl) ?_
  refine LAt.doneU [4, 0, 1] [] (by kernel_rfl) ?_
  refine Tr.seq ?_
  refine Tr.rs ?_
  refine LAt.runU tOk 1 (by kernel_rfl) ?_
  refine LAt.lenE tOk (t := 23) (ty := 3) (e := 3) (x := (.tmp 6)) (d := 7) (g := none) ⟨(.slot 6), [], 0, false, 1, (CV.frzEs (x0.map intRow))⟩ (x0).length _ (by kernel_rfl) (by kernel_rfl) (by kernel_rfl) (by kernel_rfl) (by kernel_rfl) (frz_len _ _) rfl ?_
  refine LAt.runU tOk 1 (by kernel_rfl) ?_
  refine LAt.lenE tOk (t := 23) (ty := 3) (e := 3) (x := (.tmp 8)) (d := 9) (g := none) ⟨(.slot 8), [], 0, false, 1, (CV.frzEs (x1.map intRow))⟩ (x1).length _ (by kernel_rfl) (by kernel_rfl) (by kernel_rfl) (by kernel_rfl) (by kernel_rfl) (frz_len _ _) rfl ?_
  refine LAt.runU tOk 1 (by kernel_rfl) ?_
  refine LAt.doneU [10, 4, 0, 1] [] (by kernel_rfl) ?_
  refine Tr.to ⟨26, 0, [(10, .val false [.lit (.bool ((x0.length : Int) != (x1.length : Int)))]), (4, .val false [.lit (.bool false)]), (0, .val false [.sl false 1 (CV.frzEs (x0.map intRow))]), (1, .val false [.sl false 1 (CV.frzEs (x1.map intRow))])], []⟩ (by kernel_rfl) ?_
  cases h1 : ((x0.length : Int) != (x1.length : Int))
  · have H := bifF h1 H
    refine Tr.cond (b := false) (by kernel_rfl) (fun h => nomatch h) (fun _ => ?_)
    refine Tr.skip ?_
    show Tr _ _ _ _ _
    refine Tr.seq ?_
    refine Tr.rs ?_
    refine LAt.runU tOk 1 (by kernel_rfl) ?_
    refine LAt.doneU [5, 4, 0, 1] [] (by kernel_rfl) ?_
    obtain ⟨o2, eo2, Ho2⟩ := bind_some H
    clear H
    refine Tr.mid (ι := Unit) (fun v => ⟨26, 0, [(4, .val false [.lit (.bool false)])], []⟩) (fun v => laws_eqIntS_J1 n = some r) ?_ ?_
    · refine Tr.block ?_
      refine Tr.loop (ι := Nat × (Int)) (fun v => ⟨26, 0, [(5, .val false [.lit (.int .i64 v.2)]), (4, .val false [.lit (.bool false)]), (0, .val false [.sl false 1 (CV.frzEs (x0.map intRow))]), (1, .val false [.sl false 1 (CV.frzEs (x1.map intRow))])], []⟩) (fun v => laws_eqIntS_L2 n v.1 x0 x1 v.2 = some o2) (fun v => v.1) (n, 0) eo2 (St.sub_of [5, 4, 0, 1] [] (by kernel_rfl)) ?_
      rintro ⟨mo2, y1⟩ H
      have H : laws_eqIntS_L2 n mo2 x0 x1 y1 = some o2 := H
      obtain _ | mo2 := mo2
      · cases (show (none : Option _) = some o2 from H)
      · rw [laws_eqIntS_L2] at H
        refine Tr.seq ?_
        refine Tr.rs ?_
        refine LAt.runU tOk 2 (by kernel_rfl) ?_
        refine LAt.lenE tOk (t := 23) (ty := 3) (e := 3) (x := (.tmp 12)) (d := 13) (g := none) ⟨(.slot 12), [], 0, false, 1, (CV.frzEs (x0.map intRow))⟩ (x0).length _ (by kernel_rfl) (by kernel_rfl) (by kernel_rfl) (by kernel_rfl) (by kernel_rfl) (frz_len _ _) rfl ?_
        refine LAt.runU tOk 1 (by kernel_rfl) ?_
        refine LAt.doneU [14, 13, 12, 11, 5, 4, 0, 1] [] (by kernel_rfl) ?_
        refine Tr.to ⟨26, 0, [(14, .val false [.lit (.bool (decide (y1 < (x0.length : Int))))]), (13, .val false [.lit (.int .i64 (x0.length : Int))]), (12, .val false [.sl false 1 (CV.frzEs (x0.map intRow))]), (11, .val false [.lit (.int .i64 y1)]), (5, .val false [.lit (.int .i64 y1)]), (4, .val false [.lit (.bool false)]), (0, .val false [.sl false 1 (CV.frzEs (x0.map intRow))]), (1, .val false [.sl false 1 (CV.frzEs (x1.map intRow))])], []⟩ (by kernel_rfl) ?_
        cases h2 : (decide (y1 < (x0.length : Int)))
        · have H := bifF h2 H
          refine Tr.cond (b := false) (by kernel_rfl) (fun h => nomatch h) (fun _ => ?_)
          refine Tr.exit ?_
          refine And.intro (fun _ => ?_) (fun h => absurd rfl h)
          have H := Option.some.inj H
          subst H
          have H := Ho2
          dsimp only at H
          exact Exists.intro () (And.intro H (St.sub_of [4] [] (by kernel_rfl)))
        · have H := bifT h2 H
          refine Tr.cond (b := true) (by kernel_rfl) (fun _ => ?_) (fun h => nomatch h)
          refine Tr.skip ?_
          show Tr _ _ _ _ _
          refine Tr.seq ?_
          refine Tr.block ?_
          obtain ⟨v3, ev3, H⟩ := bind_some H
          obtain ⟨v4, ev4, H⟩ := bind_some H
          refine Tr.draws mixed 9 (by kernel_rfl) ⟨26, 0, [(25, .val false [.lit (.bool (v3 != v4))]), (24, .val false [.lit (.int .i64 v4)]), (23, .fad ([.lit (.int .i64 v4)])), (22, .val false [.lit (.int .i64 y1)]), (21, .val false [.sl false 1 (CV.frzEs (x1.map intRow))]), (20, .val false [.lit (.int .i64 v3)]), (19, .fad ([.lit (.int .i64 v3)])), (18, .val false [.lit (.int .i64 y1)]), (17, .val false [.sl false 1 (CV.frzEs (x0.map intRow))]), (14, .val false [.lit (.bool true)]), (13, .val false [.lit (.int .i64 (x0.length : Int))]), (12, .val false [.sl false 1 (CV.frzEs (x0.map intRow))]), (11, .val false [.lit (.int .i64 y1)]), (5, .val false [.lit (.int .i64 y1)]), (4, .val false [.lit (.bool false)]), (0, .val false [.sl false 1 (CV.frzEs (x0.map intRow))]), (1, .val false [.sl false 1 (CV.frzEs (x1.map intRow))])], []⟩ (fun cx => ?_) ?_
          · refine AT.runU tOk [(0, []), (1, [])] 7 [] [1, 0] rfl (by kernel_rfl) (fun cx => ?_)
            refine AT.indexF tOk 2 (t := 23) (ty := 0) (x := (.tmp 17)) (y := (.tmp 18)) (d := 19) (g := none) ⟨(.slot 17), [], 0, false, 1, (CV.frzEs (x0.map intRow))⟩ y1 [.lit (.int .i64 v3)] _ (by kernel_rfl) (by kernel_rfl) (by kernel_rfl) (by kernel_rfl) (by kernel_rfl) (by kernel_rfl) rfl (idx_isF ev3) rfl (fun cx => ?_)
            refine AT.runU tOk [(3, []), (4, []), (5, [])] 3 [] [5, 4, 3, 2, 1, 0] rfl (by kernel_rfl) (fun cx => ?_)
            refine AT.indexF tOk 6 (t := 23) (ty := 0) (x := (.tmp 21)) (y := (.tmp 22)) (d := 23) (g := none) ⟨(.slot 21), [], 0, false, 1, (CV.frzEs (x1.map intRow))⟩ y1 [.lit (.int .i64 v4)] _ (by kernel_rfl) (by kernel_rfl) (by kernel_rfl) (by kernel_rfl) (by kernel_rfl) (by kernel_rfl) rfl (idx_isF ev4) rfl (fun cx => ?_)
            refine AT.runU tOk [(7, []), (8, [])] 0 [] [8, 7, 6, 5, 4, 3, 2, 1, 0] rfl (by kernel_rfl) (fun cx => ?_)
            exact AT.done [25, 24, 23, 22, 21, 20, 19, 18, 17, 14, 13, 12, 11, 5, 4, 0, 1] [] _ (by kernel_rfl) (by kernel_rfl) rfl
          · refine Tr.to ⟨26, 0, [(25, .val false [.lit (.bool (v3 != v4))]), (24, .val false [.lit (.int .i64 v4)]), (23, .fad ([.lit (.int .i64 v4)])), (22, .val false [.lit (.int .i64 y1)]), (21, .val false [.sl false 1 (CV.frzEs (x1.map intRow))]), (20, .val false [.lit (.int .i64 v3)]), (19, .fad ([.lit (.int .i64 v3)])), (18, .val false [.lit (.int .i64 y1)]), (17, .val false [.sl false 1 (CV.frzEs (x0.map intRow))]), (14, .val false [.lit (.bool true)]), (13, .val false [.lit (.int .i64 (x0.length : Int))]), (12, .val false [.sl false 1 (CV.frzEs (x0.map intRow))]), (11, .val false [.lit (.int .i64 y1)]), (5, .val false [.lit (.int .i64 y1)]), (4, .val false [.lit (.bool false)]), (0, .val false [.sl false 1 (CV.frzEs (x0.map intRow))]), (1, .val false [.sl false 1 (CV.frzEs (x1.map intRow))])], []⟩ (by kernel_rfl) ?_
            cases h3 : (v3 != v4)
            · have H := bifF h3 H
              refine Tr.cond (b := false) (by kernel_rfl) (fun h => nomatch h) (fun _ => ?_)
              refine Tr.skip ?_
              show Tr _ _ _ _ _
              refine Tr.at ?_
              refine LAt.runU tOk 3 (by kernel_rfl) ?_
              refine LAt.doneU [5, 16, 15, 25, 24, 23, 22, 21, 20, 19, 18, 17, 14, 13, 12, 11, 4, 0, 1] [] (by kernel_rfl) ?_
              exact Exists.intro (mo2, (IntKind.wrap .i64 (y1 + 1))) (And.intro H (And.intro (Nat.lt_succ_self mo2) (St.sub_of [5, 4, 0, 1] [] (by kernel_rfl))))
            · have H := bifT h3 H
              refine Tr.cond (b := true) (by kernel_rfl) (fun _ => ?_) (fun h => nomatch h)
              refine Tr.rs ?_
              refine LAt.runU tOk 1 (by kernel_rfl) ?_
              refine LAt.doneU [4, 25, 24, 23, 22, 21, 20, 19, 18, 17, 14, 13, 12, 11, 5, 0, 1] [] (by kernel_rfl) ?_
              refine Tr.ret ?_
              have H := Option.some.inj H
              subst H
              have H := Ho2
              dsimp only at H
              have H := Option.some.inj H
              subst H
              exact Fin.of _ [(false, [.lit (.bool false)])] (by kernel_rfl) rfl rfl
    · rintro _ H
      have H : (laws_eqIntS_J1 n) = some r := H
      unfold laws_eqIntS_J1 at H
      show Tr _ _ _ _ _
      refine Tr.rs ?_
      refine LAt.runU tOk 1 (by kernel_rfl) ?_
      refine LAt.doneU [4] [] (by kernel_rfl) ?_
      refine Tr.ret ?_
      have H := Option.some.inj H
      subst H
      exact Fin.of _ [(false, [.lit (.bool true)])] (by kernel_rfl) rfl rfl
  · have H := bifT h1 H
    refine Tr.cond (b := true) (by kernel_rfl) (fun _ => ?_) (fun h => nomatch h)
    refine Tr.rs ?_
    refine LAt.runU tOk 1 (by kernel_rfl) ?_
    refine LAt.doneU [4, 0, 1] [] (by kernel_rfl) ?_
    refine Tr.ret ?_
    have H := Option.some.inj H
    subst H
    exact Fin.of _ [(false, [.lit (.bool false)])] (by kernel_rfl) rfl rfl

def laws_eqVtabF (n : Nat) (x0 : Vtab) (x1 : Vtab) : Option (Bool) :=
  ((laws_eqVrowSF n x0.Rows x1.Rows).bind fun r1 => (bif (!r1) then (some false) else ((laws_eqIntSF n x0.Pvid x1.Pvid).bind fun r2 => (bif (!r2) then (some false) else (some true)))))
/-- loop.example/g00326/laws.eqVtab -/
theorem laws_eqVtab (n : Nat) (x0 : Vtab) (x1 : Vtab) (r : Bool) (H : laws_eqVtabF n x0 x1 = some r) : LCall Try.prog 19 [.val true (CV.frzRow (Vtab.row x0)), .val true (CV.frzRow (Vtab.row x1))] [.val false [.lit (.bool r)]] [] := by
  refine LCall.of_body tOk Try.func19 rfl (c := (.seq (.region 0 (rg Try.f19 0) false) (.seq (.seq (.region 1 (rg Try.f19 1) false) (.cond (.tmp 10) (.seq (.region 2 (rg Try.f19 2) false) .ret) .skip)) (.seq (.seq (.region 3 (rg Try.f19 3) false) (.cond (.tmp 16) (.seq (.region 4 (rg Try.f19 4) false) .ret) .skip)) (.seq (.region 5 (rg Try.f19 5) false) .ret))))) (by kernel_rfl) (Nat.le_of_ble_eq_true (by kernel_rfl)) 0 (rs := [.tmp 4]) rfl [] .nil [(false, [.lit (.bool r)])] [] [] fun cx => ?_
  show Tr _ _ _ ⟨17, 0, [(0, .val true (CV.frzRow (Vtab.row x0))), (1, .val true (CV.frzRow (Vtab.row x1)))], []⟩ _
  unfold laws_eqVtabF at H
  refine Tr.rs ?_
  refine LAt.runU tOk 3 (by kernel_rfl) ?_
  refine LAt.doneU [4, 3, 2] [3, 2] (by kernel_rfl) ?_
  refine Tr.seq ?_
  refine Tr.rs ?_
  refine LAt.runU tOk 4 (by kernel_rfl) ?_
  obtain ⟨r1, er1, H⟩ := bind_some H
  refine LAt.callU tOk [.rd, .rd] (f := 84) (av := #[.tmp 6, .tmp 8]) (ats := #[27, 27]) (d := (some 9)) (ty := 4) (g := none) (by kernel_rfl) (by kernel_rfl) (by kernel_rfl) [] (laws_eqVrowS n x0.Rows x1.Rows r1 er1) (by kernel_rfl) (.inl rfl) ?_
  refine LAt.runU tOk 1 (by kernel_rfl) ?_
  refine LAt.doneU [10, 4, 3, 2] [3, 2] (by kernel_rfl) ?_
  refine Tr.to ⟨17, 0, [(10, .val false [.lit (.bool (!r1))]), (4, .val false [.lit (.bool false)]), (3, .adr (.box 3) [(0, 0)] 2 0), (2, .adr (.box 2) [(0, 0)] 2 0)], [(3, (CV.frzRow (Vtab.row x1))), (2, (CV.frzRow (Vtab.row x0)))]⟩ (by kernel_rfl) ?_
  cases h1 : (!r1)
  · have H := bifF h1 H
    refine Tr.cond (b := false) (by kernel_rfl) (fun h => nomatch h) (fun _ => ?_)
    refine Tr.skip ?_
    show Tr _ _ _ _ _
    refine Tr.seq ?_
    refine Tr.rs ?_
    refine LAt.runU tOk 4 (by kernel_rfl) ?_
    obtain ⟨r2, er2, H⟩ := bind_some H
    refine LAt.callU tOk [.rd, .rd] (f := 85) (av := #[.tmp 12, .tmp 14]) (ats := #[23, 23]) (d := (some 15)) (ty := 4) (g := none) (by kernel_rfl) (by kernel_rfl) (by kernel_rfl) [] (laws_eqIntS n x0.Pvid x1.Pvid r2 er2) (by kernel_rfl) (.inl rfl) ?_
    refine LAt.runU tOk 1 (by kernel_rfl) ?_
    refine LAt.doneU [16, 4] [] (by kernel_rfl) ?_
    refine Tr.to ⟨17, 0, [(16, .val false [.lit (.bool (!r2))]), (4, .val false [.lit (.bool false)])], []⟩ (by kernel_rfl) ?_
    cases h2 : (!r2)
    · have H := bifF h2 H
      refine Tr.cond (b := false) (by kernel_rfl) (fun h => nomatch h) (fun _ => ?_)
      refine Tr.skip ?_
      show Tr _ _ _ _ _
      refine Tr.rs ?_
      refine LAt.runU tOk 1 (by kernel_rfl) ?_
      refine LAt.doneU [4] [] (by kernel_rfl) ?_
      refine Tr.ret ?_
      have H := Option.some.inj H
      subst H
      exact Fin.of _ [(false, [.lit (.bool true)])] (by kernel_rfl) rfl rfl
    · have H := bifT h2 H
      refine Tr.cond (b := true) (by kernel_rfl) (fun _ => ?_) (fun h => nomatch h)
      refine Tr.rs ?_
      refine LAt.runU tOk 1 (by kernel_rfl) ?_
      refine LAt.doneU [4] [] (by kernel_rfl) ?_
      refine Tr.ret ?_
      have H := Option.some.inj H
      subst H
      exact Fin.of _ [(false, [.lit (.bool false)])] (by kernel_rfl) rfl rfl
  · have H := bifT h1 H
    refine Tr.cond (b := true) (by kernel_rfl) (fun _ => ?_) (fun h => nomatch h)
    refine Tr.rs ?_
    refine LAt.runU tOk 1 (by kernel_rfl) ?_
    refine LAt.doneU [4, 3, 2] [3, 2] (by kernel_rfl) ?_
    refine Tr.ret ?_
    have H := Option.some.inj H
    subst H
    exact Fin.of _ [(false, [.lit (.bool false)])] (by kernel_rfl) rfl rfl

def laws_markVrowS_J1 (n : Nat) (y4 : (List Vrow)) (y5 : Int) : Option (Int × (List Vrow)) :=
  (some (y5, y4))
def laws_markVrowS_L2 (n : Nat) : Nat → Int → (List Vrow) → Int → Option (((List Vrow) × Int) ⊕ (Int × (List Vrow)))
  | 0, _, _, _ => none
  | mo6 + 1, y1, y2, y3 => (bif (decide (y1 < (y2.length : Int))) then ((idx y2 y1).bind fun v7 => ((idx (y2.set (y1.toNat) (⟨y3, v7.Members, v7.Bare⟩ : Vrow)) y1).bind fun v8 => ((idx ((y2.set (y1.toNat) (⟨y3, v7.Members, v7.Bare⟩ : Vrow)).set (y1.toNat) (⟨v8.Id, (IntKind.wrap .i64 (y3 + 1)), v8.Bare⟩ : Vrow)) y1).bind fun v9 => (laws_markVrowS_L2 n mo6 (IntKind.wrap .i64 (y1 + 1)) (((y2.set (y1.toNat) (⟨y3, v7.Members, v7.Bare⟩ : Vrow)).set (y1.toNat) (⟨v8.Id, (IntKind.wrap .i64 (y3 + 1)), v8.Bare⟩ : Vrow)).set (y1.toNat) (⟨v9.Id, v9.Members, (IntKind.wrap .i64 ((IntKind.wrap .i64 (y3 + 1)) + 1))⟩ : Vrow)) (IntKind.wrap .i64 ((IntKind.wrap .i64 ((IntKind.wrap .i64 (y3 + 1)) + 1)) + 1)))))) else (some (Sum.inl (y2, y3))))
def laws_markVrowSF (n : Nat) (x0 : (List Vrow)) (x1 : Int) : Option (Int × (List Vrow)) :=
  ((laws_markVrowS_L2 n n 0 x0 x1).bind fun o => match o with | .inl (y4, y5) => (laws_markVrowS_J1 n y4 y5) | .inr r => some r)
/-- loop.example/g00326/laws.markVrowS -/
theorem laws_markVrowS (n : Nat) (x0 : (List Vrow)) (x1 : Int) (r : Int × (List Vrow)) (H : laws_markVrowSF n x0 x1 = some r) : LCall Try.prog 86 [.io false [.sl true 3 (x0.map Vrow.row)], .val false [.lit (.int .i64 x1)]] [.val false [.lit (.int .i64 r.1)]] [(0, [.sl true 3 (r.2.map Vrow.row)])] := by
  refine LCall.of_body tOk Try.func86 rfl (c := (.seq (.region 0 (rg Try.f86 0) false) (.seq (.seq (.region 1 (rg Try.f86 1) false) (.block 0 (.loop (.seq (.seq (.region 2 (rg Try.f86 2) false) (.cond (.tmp 9) .skip (.exit 0))) (.seq (.block 1 (.seq (.region 4 (rg Try.f86 4) false) (.seq (.region 5 (rg Try.f86 5) false) (.seq (.region 6 (rg Try.f86 6) false) (.seq (.region 7 (rg Try.f86 7) false) (.seq (.region 8 (rg Try.f86 8) false) (.region 9 (rg Try.f86 9) false))))))) (.region 3 (rg Try.f86 3) false)))))) (.seq (.region 10 (rg Try.f86 10) false) .ret)))) (by kernel_rfl) (Nat.le_of_ble_eq_true (by kernel_rfl)) 1 (rs := [.tmp 4]) rfl [0] (by decide) [(false, [.lit (.int .i64 r.1)])] [[.sl true 3 (r.2.map Vrow.row)]] [] fun cx => ?_
  show Tr _ _ _ ⟨34, 1, [(0, .val false [.sl true 3 (x0.map Vrow.row)]), (1, .val false [.lit (.int .i64 x1)])], []⟩ _
  unfold laws_markVrowSF at H
  refine Tr.rs ?_
  refine LAt.runU tOk 1 (by kernel_rfl) ?_
  refine LAt.doneU [4, 0, 1] [] (by kernel_rfl) ?_
  refine Tr.seq ?_
  refine Tr.rs ?_
  refine LAt.runU tOk 1 (by kernel_rfl) ?_
  refine LAt.doneU [5, 4, 0, 1] [] (by kernel_rfl) ?_
  obtain ⟨o6, eo6, Ho6⟩ := bind_some H
  clear H
  refine Tr.mid (ι := (List Vrow) × Int) (fun v => ⟨34, 1, [(4, .val false [.lit (.int .i64 0)]), (0, .val false [.sl true 3 (v.1.map Vrow.row)]), (1, .val false [.lit (.int .i64 v.2)])], []⟩) (fun v => laws_markVrowS_J1 n v.1 v.2 = some r) ?_ ?_
  · refine Tr.block ?_
    refine Tr.loop (ι := Nat × (Int × (List Vrow) × Int)) (fun v => ⟨34, 1, [(5, .val false [.lit (.int .i64 v.2.1)]), (4, .val false [.lit (.int .i64 0)]), (0, .val false [.sl true 3 (v.2.2.1.map Vrow.row)]), (1, .val false [.lit (.int .i64 v.2.2.2)])], []⟩) (fun v => laws_markVrowS_L2 n v.1 v.2.1 v.2.2.1 v.2.2.2 = some o6) (fun v => v.1) (n, (0, x0, x1)) eo6 (St.sub_of [5, 4, 0, 1] [] (by kernel_rfl)) ?_
    rintro ⟨mo6, y1, y2, y3⟩ H
    have H : laws_markVrowS_L2 n mo6 y1 y2 y3 = some o6 := H
    obtain _ | mo6 := mo6
    · cases (show (none : Option _) = some o6 from H)
    · rw [laws_markVrowS_L2] at H
      refine Tr.seq ?_
      refine Tr.rs ?_
      refine LAt.runU tOk 2 (by kernel_rfl) ?_
      refine LAt.lenE tOk (t := 27) (ty := 3) (e := 56) (x := (.tmp 7)) (d := 8) (g := none) ⟨(.slot 0), [], 0, true, 3, (y2.map Vrow.row)⟩ (y2).length _ (by kernel_rfl) (by kernel_rfl) (by kernel_rfl) (by kernel_rfl) (by kernel_rfl) (map_len _ _) rfl ?_
      refine LAt.runU tOk 1 (by kernel_rfl) ?_
      refine LAt.doneU [9, 8, 7, 6, 5, 4, 0, 1] [] (by kernel_rfl) ?_
      refine Tr.to ⟨34, 1, [(9, .val false [.lit (.bool (decide (y1 < (y2.length : Int))))]), (8, .val false [.lit (.int .i64 (y2.length : Int))]), (7, .ref (.slot 0) [] 0 0 1 false), (6, .val false [.lit (.int .i64 y1)]), (5, .val false [.lit (.int .i64 y1)]), (4, .val false [.lit (.int .i64 0)]), (0, .val false [.sl true 3 (y2.map Vrow.row)]), (1, .val false [.lit (.int .i64 y3)])], []⟩ (by kernel_rfl) ?_
      cases h1 : (decide (y1 < (y2.length : Int)))
      · have H := bifF h1 H
        refine Tr.cond (b := false) (by kernel_rfl) (fun h => nomatch h) (fun _ => ?_)
        refine Tr.exit ?_
        refine And.intro (fun _ => ?_) (fun h => absurd rfl h)
        have H := Option.some.inj H
        subst H
        have H := Ho6
        dsimp only at H
        exact Exists.intro (y2, y3) (And.intro H (St.sub_of [4, 0, 1] [] (by kernel_rfl)))
      · have H := bifT h1 H
        refine Tr.cond (b := true) (by kernel_rfl) (fun _ => ?_) (fun h => nomatch h)
        refine Tr.skip ?_
        show Tr _ _ _ _ _
        refine Tr.seq ?_
        refine Tr.block ?_
        refine Tr.rs ?_
        refine LAt.runU tOk 3 (by kernel_rfl) ?_
        obtain ⟨v7, ev7, H⟩ := bind_some H
        refine LAt.indexO tOk (t := 27) (ty := 0) (x := (.tmp 12)) (y := (.tmp 13)) (d := 15) (g := none) ⟨(.slot 0), [], 0, true, 3, (y2.map Vrow.row)⟩ y1 (y1.toNat) (Vrow.row v7) _ (by kernel_rfl) (by kernel_rfl) (by kernel_rfl) (by kernel_rfl) rfl (by kernel_rfl) (idx_isE ev7) rfl rfl ?_
        refine LAt.runU tOk 1 (by kernel_rfl) ?_
        refine LAt.storeU tOk (t := 3) (ty := 0) (ad := (.tmp 16)) (x := (.tmp 14)) (g := none) ⟨.int .i64, 1, 8, [.lit (.int .i64 0)]⟩ false [.lit (.int .i64 y3)] (.slot 0) [(0, (y1.toNat))] [(0, (y1.toNat))] 3 0 [.sl true 3 (y2.map Vrow.row)] (Vrow.row v7) [.sl true 3 (y2.map Vrow.row)] [.sl true 3 ((y2.set (y1.toNat) (⟨y3, v7.Members, v7.Bare⟩ : Vrow)).map Vrow.row)] (by kernel_rfl) (by kernel_rfl) (by kernel_rfl) (by kernel_rfl) (by kernel_rfl) (by kernel_rfl) (getQ_elem rfl (idx_get ev7).2) rfl (by intro h; cases h) (by kernel_rfl) (by kernel_rfl) (by kernel_rfl) (modQ_elem (new := (⟨y3, v7.Members, v7.Bare⟩ : Vrow)) rfl (idx_get ev7).2 rfl) (by kernel_rfl) ?_
        refine LAt.doneU [0, 16, 15, 14, 13, 9, 8, 6, 5, 4, 1] [] (by kernel_rfl) ?_
        refine Tr.rs ?_
        refine LAt.runU tOk 3 (by kernel_rfl) ?_
        refine LAt.doneU [1, 18, 17, 0, 16, 15, 14, 13, 9, 8, 6, 5, 4] [] (by kernel_rfl) ?_
        refine Tr.rs ?_
        refine LAt.runU tOk 3 (by kernel_rfl) ?_
        obtain ⟨v8, ev8, H⟩ := bind_some H
        refine LAt.indexO tOk (t := 27) (ty := 0) (x := (.tmp 19)) (y := (.tmp 20)) (d := 22) (g := none) ⟨(.slot 0), [], 0, true, 3, ((y2.set (y1.toNat) (⟨y3, v7.Members, v7.Bare⟩ : Vrow)).map Vrow.row)⟩ y1 (y1.toNat) (Vrow.row v8) _ (by kernel_rfl) (by kernel_rfl) (by kernel_rfl) (by kernel_rfl) rfl (by kernel_rfl) (idx_isE ev8) rfl rfl ?_
        refine LAt.runU tOk 1 (by kernel_rfl) ?_
        refine LAt.storeU tOk (t := 3) (ty := 0) (ad := (.tmp 23)) (x := (.tmp 21)) (g := none) ⟨.int .i64, 1, 8, [.lit (.int .i64 0)]⟩ false [.lit (.int .i64 (IntKind.wrap .i64 (y3 + 1)))] (.slot 0) [(0, (y1.toNat))] [(0, (y1.toNat))] 3 1 [.sl true 3 ((y2.set (y1.toNat) (⟨y3, v7.Members, v7.Bare⟩ : Vrow)).map Vrow.row)] (Vrow.row v8) [.sl true 3 ((y2.set (y1.toNat) (⟨y3, v7.Members, v7.Bare⟩ : Vrow)).map Vrow.row)] [.sl true 3 (((y2.set (y1.toNat) (⟨y3, v7.Members, v7.Bare⟩ : Vrow)).set (y1.toNat) (⟨v8.Id, (IntKind.wrap .i64 (y3 + 1)), v8.Bare⟩ : Vrow)).map Vrow.row)] (by kernel_rfl) (by kernel_rfl) (by kernel_rfl) (by kernel_rfl) (by kernel_rfl) (by kernel_rfl) (getQ_elem rfl (idx_get ev8).2) rfl (by intro h; cases h) (by kernel_rfl) (by kernel_rfl) (by kernel_rfl) (modQ_elem (new := (⟨v8.Id, (IntKind.wrap .i64 (y3 + 1)), v8.Bare⟩ : Vrow)) rfl (idx_get ev8).2 rfl) (by kernel_rfl) ?_
        refine LAt.doneU [0, 23, 22, 21, 20, 1, 18, 17, 16, 15, 14, 13, 9, 8, 6, 5, 4] [] (by kernel_rfl) ?_
        refine Tr.rs ?_
        refine LAt.runU tOk 3 (by kernel_rfl) ?_
        refine LAt.doneU [1, 25, 24, 0, 23, 22, 21, 20, 18, 17, 16, 15, 14, 13, 9, 8, 6, 5, 4] [] (by kernel_rfl) ?_
        refine Tr.rs ?_
        refine LAt.runU tOk 3 (by kernel_rfl) ?_
        obtain ⟨v9, ev9, H⟩ := bind_some H
        refine LAt.indexO tOk (t := 27) (ty := 0) (x := (.tmp 26)) (y := (.tmp 27)) (d := 29) (g := none) ⟨(.slot 0), [], 0, true, 3, (((y2.set (y1.toNat) (⟨y3, v7.Members, v7.Bare⟩ : Vrow)).set (y1.toNat) (⟨v8.Id, (IntKind.wrap .i64 (y3 + 1)), v8.Bare⟩ : Vrow)).map Vrow.row)⟩ y1 (y1.toNat) (Vrow.row v9) _ (by kernel_rfl) (by kernel_rfl) (by kernel_rfl) (by kernel_rfl) rfl (by kernel_rfl) (idx_isE ev9) rfl rfl ?_
        refine LAt.runU tOk 1 (by kernel_rfl) ?_
        refine LAt.storeU tOk (t := 3) (ty := 0) (ad := (.tmp 30)) (x := (.tmp 28)) (g := none) ⟨.int .i64, 1, 8, [.lit (.int .i64 0)]⟩ false [.lit (.int .i64 (IntKind.wrap .i64 ((IntKind.wrap .i64 (y3 + 1)) + 1)))] (.slot 0) [(0, (y1.toNat))] [(0, (y1.toNat))] 3 2 [.sl true 3 (((y2.set (y1.toNat) (⟨y3, v7.Members, v7.Bare⟩ : Vrow)).set (y1.toNat) (⟨v8.Id, (IntKind.wrap .i64 (y3 + 1)), v8.Bare⟩ : Vrow)).map Vrow.row)] (Vrow.row v9) [.sl true 3 (((y2.set (y1.toNat) (⟨y3, v7.Members, v7.Bare⟩ : Vrow)).set (y1.toNat) (⟨v8.Id, (IntKind.wrap .i64 (y3 + 1)), v8.Bare⟩ : Vrow)).map Vrow.row)] [.sl true 3 ((((y2.set (y1.toNat) (⟨y3, v7.Members, v7.Bare⟩ : Vrow)).set (y1.toNat) (⟨v8.Id, (IntKind.wrap .i64 (y3 + 1)), v8.Bare⟩ : Vrow)).set (y1.toNat) (⟨v9.Id, v9.Members, (IntKind.wrap .i64 ((IntKind.wrap .i64 (y3 + 1)) + 1))⟩ : Vrow)).map Vrow.row)] (by kernel_rfl) (by kernel_rfl) (by kernel_rfl) (by kernel_rfl) (by kernel_rfl) (by kernel_rfl) (getQ_elem rfl (idx_get ev9).2) rfl (by intro h; cases h) (by kernel_rfl) (by kernel_rfl) (by kernel_rfl) (modQ_elem (new := (⟨v9.Id, v9.Members, (IntKind.wrap .i64 ((IntKind.wrap .i64 (y3 + 1)) + 1))⟩ : Vrow)) rfl (idx_get ev9).2 rfl) (by kernel_rfl) ?_
        refine LAt.doneU [0, 30, 29, 28, 27, 1, 25, 24, 23, 22, 21, 20, 18, 17, 16, 15, 14, 13, 9, 8, 6, 5, 4] [] (by kernel_rfl) ?_
        refine Tr.at ?_
        refine LAt.runU tOk 3 (by kernel_rfl) ?_
        refine LAt.doneU [1, 32, 31, 0, 30, 29, 28, 27, 25, 24, 23, 22, 21, 20, 18, 17, 16, 15, 14, 13, 9, 8, 6, 5, 4] [] (by kernel_rfl) ?_
        show Tr _ _ _ _ _
        refine Tr.at ?_
        refine LAt.runU tOk 3 (by kernel_rfl) ?_
        refine LAt.doneU [5, 11, 10, 1, 32, 31, 0, 30, 29, 28, 27, 25, 24, 23, 22, 21, 20, 18, 17, 16, 15, 14, 13, 9, 8, 6, 4] [] (by kernel_rfl) ?_
        exact Exists.intro (mo6, ((IntKind.wrap .i64 (y1 + 1)), (((y2.set (y1.toNat) (⟨y3, v7.Members, v7.Bare⟩ : Vrow)).set (y1.toNat) (⟨v8.Id, (IntKind.wrap .i64 (y3 + 1)), v8.Bare⟩ : Vrow)).set (y1.toNat) (⟨v9.Id, v9.Members, (IntKind.wrap .i64 ((IntKind.wrap .i64 (y3 + 1)) + 1))⟩ : Vrow)), (IntKind.wrap .i64 ((IntKind.wrap .i64 ((IntKind.wrap .i64 (y3 + 1)) + 1)) + 1)))) (And.intro H (And.intro (Nat.lt_succ_self mo6) (St.sub_of [5, 4, 0, 1] [] (by kernel_rfl))))
  · rintro ⟨y4, y5⟩ H
    have H : (laws_markVrowS_J1 n y4 y5) = some r := H
    unfold laws_markVrowS_J1 at H
    show Tr _ _ _ _ _
    refine Tr.rs ?_
    refine LAt.runU tOk 2 (by kernel_rfl) ?_
    refine LAt.doneU [4, 0] [] (by kernel_rfl) ?_
    refine Tr.ret ?_
    have H := Option.some.inj H
    subst H
    exact Fin.ofY _ [(false, [.lit (.int .i64 y5)])] [false] _ [[.sl true 3 (y4.map Vrow.row)]] _ [] (by kernel_rfl) rfl rfl rfl (by kernel_rfl) (by kernel_rfl) (by kernel_rfl) (by kernel_rfl) rfl rfl rfl

def laws_markIntS_J1 (n : Nat) (y4 : (List Int)) (y5 : Int) : Option (Int × (List Int)) :=
  (some (y5, y4))
def laws_markIntS_L2 (n : Nat) : Nat → Int → (List Int) → Int → Option (((List Int) × Int) ⊕ (Int × (List Int)))
  | 0, _, _, _ => none
  | mo6 + 1, y1, y2, y3 => (bif (decide (y1 < (y2.length : Int))) then ((idx y2 y1).bind fun v7 => (laws_markIntS_L2 n mo6 (IntKind.wrap .i64 (y1 + 1)) (y2.set (y1.toNat) y3) (IntKind.wrap .i64 (y3 + 1)))) else (some (Sum.inl (y2, y3))))
def laws_markIntSF (n : Nat) (x0 : (List Int)) (x1 : Int) : Option (Int × (List Int)) :=
  ((laws_markIntS_L2 n n 0 x0 x1).bind fun o => match o with | .inl (y4, y5) => (laws_markIntS_J1 n y4 y5) | .inr r => some r)
/-- loop.example/g00326/laws.markIntS -/
theorem laws_markIntS (n : Nat) (x0 : (List Int)) (x1 : Int) (r : Int × (List Int)) (H : laws_markIntSF n x0 x1 = some r) : LCall Try.prog 87 [.io false [.sl true 1 (x0.map intRow)], .val false [.lit (.int .i64 x1)]] [.val false [.lit (.int .i64 r.1)]] [(0, [.sl true 1 (r.2.map intRow)])] := by
  refine LCall.of_body tOk Try.func87 rfl (c := (.seq (.region 0 (rg Try.f87 0) false) (.seq (.seq (.region 1 (rg Try.f87 1) false) (.block 0 (.loop (.seq (.seq (.region 2 (rg Try.f87 2) false) (.cond (.tmp 9) .skip (.exit 0))) (.seq (.block 1 (.seq (.region 4 (rg Try.f87 4) false) (.region 5 (rg Try.f87 5) false))) (.region 3 (rg Try.f87 3) false)))))) (.seq (.region 6 (rg Try.f87 6) false) .ret)))) (by kernel_rfl) (Nat.le_of_ble_eq_true (by kernel_rfl)) 1 (rs := [.tmp 4]) rfl [0] (by decide) [(false, [.lit (.int .i64 r.1)])] [[.sl true 1 (r.2.map intRow)]] [] fun cx => ?_
  show Tr _ _ _ ⟨19, 1, [(0, .val false [.sl true 1 (x0.map intRow)]), (1, .val false [.lit (.int .i64 x1)])], []⟩ _
  unfold laws_markIntSF at H
  refine Tr.rs ?_
  refine LAt.runU tOk 1 (by kernel_rfl) ?_
  refine LAt.doneU [4, 0, 1] [] (by kernel_rfl) ?_
  refine Tr.seq ?_
  refine Tr.rs ?_
  refine LAt.runU tOk 1 (by kernel_rfl) ?_
  refine LAt.doneU [5, 4, 0, 1] [] (by kernel_rfl) ?_
  obtain ⟨o6, eo6, Ho6⟩ := bind_some H
  clear H
  refine Tr.mid (ι := (List Int) × Int) (fun v => ⟨19, 1, [(4, .val false [.lit (.int .i64 0)]), (0, .val false [.sl true 1 (v.1.map intRow)]), (1, .val false [.lit (.int .i64 v.2)])], []⟩) (fun v => laws_markIntS_J1 n v.1 v.2 = some r) ?_ ?_
  · refine Tr.block ?_
    refine Tr.loop (ι := Nat × (Int × (List Int) × Int)) (fun v => ⟨19, 1, [(5, .val false [.lit (.int .i64 v.2.1)]), (4, .val false [.lit (.int .i64 0)]), (0, .val false [.sl true 1 (v.2.2.1.map intRow)]), (1, .val false [.lit (.int .i64 v.2.2.2)])], []⟩) (fun v => laws_markIntS_L2 n v.1 v.2.1 v.2.2.1 v.2.2.2 = some o6) (fun v => v.1) (n, (0, x0, x1)) eo6 (St.sub_of [5, 4, 0, 1] [] (by kernel_rfl)) ?_
    rintro ⟨mo6, y1, y2, y3⟩ H
    have H : laws_markIntS_L2 n mo6 y1 y2 y3 = some o6 := H
    obtain _ | mo6 := mo6
    · cases (show (none : Option _) = some o6 from H)
    · rw [laws_markIntS_L2] at H
      refine Tr.seq ?_
      refine Tr.rs ?_
      refine LAt.runU tOk 2 (by kernel_rfl) ?_
      refine LAt.lenE tOk (t := 23) (ty := 3) (e := 3) (x := (.tmp 7)) (d := 8) (g := none) ⟨(.slot 0), [], 0, true, 1, (y2.map intRow)⟩ (y2).length _ (by kernel_rfl) (by kernel_rfl) (by kernel_rfl) (by kernel_rfl) (by kernel_rfl) (map_len _ _) rfl ?_
      refine LAt.runU tOk 1 (by kernel_rfl) ?_
      refine LAt.doneU [9, 8, 7, 6, 5, 4, 0, 1] [] (by kernel_rfl) ?_
      refine Tr.to ⟨19, 1, [(9, .val false [.lit (.bool (decide (y1 < (y2.length : Int))))]), (8, .val false [.lit (.int .i64 (y2.length : Int))]), (7, .ref (.slot 0) [] 0 0 1 false), (6, .val false [.lit (.int .i64 y1)]), (5, .val false [.lit (.int .i64 y1)]), (4, .val false [.lit (.int .i64 0)]), (0, .val false [.sl true 1 (y2.map intRow)]), (1, .val false [.lit (.int .i64 y3)])], []⟩ (by kernel_rfl) ?_
      cases h1 : (decide (y1 < (y2.length : Int)))
      · have H := bifF h1 H
        refine Tr.cond (b := false) (by kernel_rfl) (fun h => nomatch h) (fun _ => ?_)
        refine Tr.exit ?_
        refine And.intro (fun _ => ?_) (fun h => absurd rfl h)
        have H := Option.some.inj H
        subst H
        have H := Ho6
        dsimp only at H
        exact Exists.intro (y2, y3) (And.intro H (St.sub_of [4, 0, 1] [] (by kernel_rfl)))
      · have H := bifT h1 H
        refine Tr.cond (b := true) (by kernel_rfl) (fun _ => ?_) (fun h => nomatch h)
        refine Tr.skip ?_
        show Tr _ _ _ _ _
        refine Tr.seq ?_
        refine Tr.block ?_
        refine Tr.rs ?_
        refine LAt.runU tOk 3 (by kernel_rfl) ?_
        obtain ⟨v7, ev7, H⟩ := bind_some H
        refine LAt.indexO tOk (t := 23) (ty := 0) (x := (.tmp 12)) (y := (.tmp 13)) (d := 15) (g := none) ⟨(.slot 0), [], 0, true, 1, (y2.map intRow)⟩ y1 (y1.toNat) (intRow v7) _ (by kernel_rfl) (by kernel_rfl) (by kernel_rfl) (by kernel_rfl) rfl (by kernel_rfl) (idx_isE ev7) rfl rfl ?_
        refine LAt.storeU tOk (t := 3) (ty := 0) (ad := (.tmp 15)) (x := (.tmp 14)) (g := none) ⟨.int .i64, 1, 8, [.lit (.int .i64 0)]⟩ false [.lit (.int .i64 y3)] (.slot 0) [(0, (y1.toNat))] [(0, (y1.toNat))] 1 0 [.sl true 1 (y2.map intRow)] (intRow v7) [.sl true 1 (y2.map intRow)] [.sl true 1 ((y2.set (y1.toNat) y3).map intRow)] (by kernel_rfl) (by kernel_rfl) (by kernel_rfl) (by kernel_rfl) (by kernel_rfl) (by kernel_rfl) (getQ_elem rfl (idx_get ev7).2) rfl (by intro h; cases h) (by kernel_rfl) (by kernel_rfl) (by kernel_rfl) (modQ_elem (new := y3) rfl (idx_get ev7).2 rfl) (by kernel_rfl) ?_
        refine LAt.doneU [0, 15, 14, 13, 9, 8, 6, 5, 4, 1] [] (by kernel_rfl) ?_
        refine Tr.at ?_
        refine LAt.runU tOk 3 (by kernel_rfl) ?_
        refine LAt.doneU [1, 17, 16, 0, 15, 14, 13, 9, 8, 6, 5, 4] [] (by kernel_rfl) ?_
        show Tr _ _ _ _ _
        refine Tr.at ?_
        refine LAt.runU tOk 3 (by kernel_rfl) ?_
        refine LAt.doneU [5, 11, 10, 1, 17, 16, 0, 15, 14, 13, 9, 8, 6, 4] [] (by kernel_rfl) ?_
        exact Exists.intro (mo6, ((IntKind.wrap .i64 (y1 + 1)), (y2.set (y1.toNat) y3), (IntKind.wrap .i64 (y3 + 1)))) (And.intro H (And.intro (Nat.lt_succ_self mo6) (St.sub_of [5, 4, 0, 1] [] (by kernel_rfl))))
  · rintro ⟨y4, y5⟩ H
    have H : (laws_markIntS_J1 n y4 y5) = some r := H
    unfold laws_markIntS_J1 at H
    show Tr _ _ _ _ _
    refine Tr.rs ?_
    refine LAt.runU tOk 2 (by kernel_rfl) ?_
    refine LAt.doneU [4, 0] [] (by kernel_rfl) ?_
    refine Tr.ret ?_
    have H := Option.some.inj H
    subst H
    exact Fin.ofY _ [(false, [.lit (.int .i64 y5)])] [false] _ [[.sl true 1 (y4.map intRow)]] _ [] (by kernel_rfl) rfl rfl rfl (by kernel_rfl) (by kernel_rfl) (by kernel_rfl) (by kernel_rfl) rfl rfl rfl

def laws_markVtabF (n : Nat) (x0 : Vtab) (x1 : Int) : Option (Int × Vtab) :=
  ((laws_markVrowSF n x0.Rows x1).bind fun r1 => ((laws_markIntSF n x0.Pvid r1.1).bind fun r2 => (some (r2.1, (⟨r1.2, r2.2⟩ : Vtab)))))
/-- loop.example/g00326/laws.markVtab -/
theorem laws_markVtab (n : Nat) (x0 : Vtab) (x1 : Int) (r : Int × Vtab) (H : laws_markVtabF n x0 x1 = some r) : LCall Try.prog 20 [.io true (Vtab.row x0), .val false [.lit (.int .i64 x1)]] [.val false [.lit (.int .i64 r.1)]] [(0, (Vtab.row r.2))] := by
  refine LCall.of_body tOk Try.func20 rfl (c := (.seq (.region 0 (rg Try.f20 0) false) (.seq (.region 1 (rg Try.f20 1) false) (.seq (.region 2 (rg Try.f20 2) false) (.seq (.region 3 (rg Try.f20 3) false) .ret))))) (by kernel_rfl) (Nat.le_of_ble_eq_true (by kernel_rfl)) 1 (rs := [.tmp 4]) rfl [0] (by decide) [(false, [.lit (.int .i64 r.1)])] [(Vtab.row r.2)] [] fun cx => ?_
  show Tr _ _ _ ⟨14, 1, [(0, .val true (Vtab.row x0)), (1, .val false [.lit (.int .i64 x1)])], []⟩ _
  unfold laws_markVtabF at H
  refine Tr.rs ?_
  refine LAt.boxK (T := lk tab) (t := 29) (ty := 0) (x := 0) (d := 2) (g := none) true (Vtab.row x0) (by kernel_rfl) (by kernel_rfl) (by kernel_rfl) (by kernel_rfl) (by kernel_rfl) (by kernel_rfl) ?_
  refine LAt.runU tOk 1 (by kernel_rfl) ?_
  refine LAt.doneU [4, 0, 2, 1] [2] (by kernel_rfl) ?_
  refine Tr.rs ?_
  refine LAt.runU tOk 3 (by kernel_rfl) ?_
  obtain ⟨r1, er1, H⟩ := bind_some H
  refine LAt.callL tOk [.lend, .rd] (f := 86) (av := #[.tmp 6, .tmp 7]) (ats := #[27, 3]) (d := (some 8)) (ty := 3) (g := none) (by kernel_rfl) (by kernel_rfl) (by kernel_rfl) [] (laws_markVrowS n x0.Rows x1 r1 er1) (by kernel_rfl) (.inl rfl) ?_
  refine LAt.runU tOk 1 (by kernel_rfl) ?_
  refine LAt.doneU [1, 4, 2, 0] [2] (by kernel_rfl) ?_
  refine Tr.rs ?_
  refine LAt.runU tOk 3 (by kernel_rfl) ?_
  obtain ⟨r2, er2, H⟩ := bind_some H
  refine LAt.callL tOk [.lend, .rd] (f := 87) (av := #[.tmp 10, .tmp 11]) (ats := #[23, 3]) (d := (some 12)) (ty := 3) (g := none) (by kernel_rfl) (by kernel_rfl) (by kernel_rfl) [] (laws_markIntS n x0.Pvid r1.1 r2 er2) (by kernel_rfl) (.inl rfl) ?_
  refine LAt.runU tOk 1 (by kernel_rfl) ?_
  refine LAt.doneU [1, 4, 0] [2] (by kernel_rfl) ?_
  refine Tr.rs ?_
  refine LAt.runU tOk 2 (by kernel_rfl) ?_
  refine LAt.doneU [4, 0] [2] (by kernel_rfl) ?_
  refine Tr.ret ?_
  have H := Option.some.inj H
  subst H
  exact Fin.ofY _ [(false, [.lit (.int .i64 r2.1)])] [true] _ [[.sl true 3 (r1.2.map Vrow.row), .sl true 1 (r2.2.map intRow)]] _ [] (by kernel_rfl) rfl rfl rfl (by kernel_rfl) (by kernel_rfl) (by kernel_rfl) (by kernel_rfl) rfl rfl rfl
end Go.Proofs.Ytgpcfaiacggoiaa.Tw
