/- Functions of the program, over trees. -/
import Derived.Test.YtgpcfaiacggoiaaProg
import Derived.Test.YtgpcfaiacggoiaaTlRule
import Derived.Test.YtgpcfaiacggoiaaTlU3
import Derived.Test.YtgpcfaiacggoiaaTwBO0
import Derived.WalkKit
set_option linter.unusedVariables false
set_option linter.unusedSimpArgs false
set_option maxRecDepth 100000
set_option maxHeartbeats 1000000
namespace Go.Proofs.Ytgpcfaiacggoiaa.Tw
open Go Go.TL Go.Proofs


def spec_VtabOk_J2 (n : Nat) : Option (Bool) :=
  (some true)
def spec_VtabOk_L3 (n : Nat) : Nat → Vtab → Int → Option ((Unit) ⊕ (Bool))
  | 0, _, _ => none
  | mo5 + 1, x0, y4 => (bif (decide (y4 < (x0.Pvid.length : Int))) then ((idx x0.Pvid y4).bind fun v6 => ((spec_RowAtF n x0 v6).bind fun r7 => (bif (decide (r7 < 0)) then (some (Sum.inr false)) else (spec_VtabOk_L3 n mo5 x0 (IntKind.wrap .i64 (y4 + 1)))))) else (some (Sum.inl ())))
def spec_VtabOk_J1 (n : Nat) (x0 : Vtab) : Option (Bool) :=
  ((spec_VtabOk_L3 n n x0 0).bind fun o => match o with | .inl _ => (spec_VtabOk_J2 n) | .inr r => some r)
def spec_VtabOk_L4 (n : Nat) : Nat → Vtab → Int → Int → Option ((Unit) ⊕ (Bool))
  | 0, _, _, _ => none
  | mo8 + 1, x0, x1, y3 => (bif (decide (y3 < (x0.Rows.length : Int))) then ((idx x0.Rows y3).bind fun v9 => ((spec_l1InF n v9.Id 1 99).bind fun r10 => (bif (!r10) then (some (Sum.inr false)) else ((spec_l1InF n v9.Members 0 (IntKind.wrap .i64 ((IntKind.wrap .i64 (1 * 2 ^ min (((IntKind.wrap .u64 x1) : Int)).toNat (IntKind.bits .i64))) - 1))).bind fun r11 => (bif (!r11) then (some (Sum.inr false)) else ((spec_l1InF n v9.Bare 0 (IntKind.wrap .i64 ((IntKind.wrap .i64 (1 * 2 ^ min (((IntKind.wrap .u64 x1) : Int)).toNat (IntKind.bits .i64))) - 1))).bind fun r12 => (bif (!r12) then (some (Sum.inr false)) else (bif ((IntKind.wrap .i64 (BitVec.ofInt (IntKind.bits .i64) v9.Bare &&& BitVec.ofInt (IntKind.bits .i64) v9.Members).toNat) != v9.Bare) then (some (Sum.inr false)) else (bif (decide (y3 > 0)) then ((idx x0.Rows (IntKind.wrap .i64 (y3 - 1))).bind fun v13 => (bif (decide (v13.Id ≥ v9.Id)) then (some (Sum.inr false)) else (spec_VtabOk_L4 n mo8 x0 x1 (IntKind.wrap .i64 (y3 + 1))))) else (spec_VtabOk_L4 n mo8 x0 x1 (IntKind.wrap .i64 (y3 + 1)))))))))))) else (some (Sum.inl ())))
def spec_VtabOkF (n : Nat) (x0 : Vtab) (x1 : Int) : Option (Bool) :=
  ((spec_l1InF n x1 1 6).bind fun r1 => (bif (!r1) then (some false) else (bif ((x0.Pvid.length : Int) != x1) then (some false) else (bif (decide ((x0.Rows.length : Int) > 6)) then (some false) else (bif (decide ((0 : Int) ≤ (IntKind.wrap .u64 x1))) then ((spec_VtabOk_L4 n n x0 x1 0).bind fun o => match o with | .inl _ => (spec_VtabOk_J1 n x0) | .inr r => some r) else none)))))
/-- loop.example/g00326/spec.VtabOk -/
theorem spec_VtabOk (n : Nat) (x0 : Vtab) (x1 : Int) (r : Bool) (H : spec_VtabOkF n x0 x1 = some r) : LCall Try.prog 49 [.val true (CV.frzRow (Vtab.row x0)), .val false [.lit (.int .i64 x1)]] [.val false [.lit (.bool r)]] [] := by
  refine LCall.of_body tOk Try.func49 rfl (c := (.seq (.region 0 (rg Try.f49 0) false) (.seq (.seq (.region 1 (rg Try.f49 1) false) (.cond (.tmp 24) (.seq (.region 2 (rg Try.f49 2) false) .ret) .skip)) (.seq (.region 3 (rg Try.f49 3) false) (.seq (.seq (.region 4 (rg Try.f49 4) false) (.block 0 (.loop (.seq (.seq (.region 5 (rg Try.f49 5) false) (.cond (.tmp 33) .skip (.exit 0))) (.seq (.block 1 (.seq (.region 7 (rg Try.f49 7) false) (.seq (.region 8 (rg Try.f49 8) true) (.cond (.tmp 84) (.seq (.region 9 (rg Try.f49 9) false) .ret) .skip)))) (.region 6 (rg Try.f49 6) false)))))) (.seq (.seq (.region 10 (rg Try.f49 10) false) (.block 2 (.loop (.seq (.seq (.region 11 (rg Try.f49 11) false) (.cond (.tmp 89) .skip (.exit 2))) (.seq (.block 3 (.seq (.region 13 (rg Try.f49 13) true) (.cond (.tmp 99) (.seq (.region 14 (rg Try.f49 14) false) .ret) .skip))) (.region 12 (rg Try.f49 12) false)))))) (.seq (.region 15 (rg Try.f49 15) false) .ret))))))) (by kernel_rfl) (Nat.le_of_ble_eq_true (by kernel_rfl)) 0 (rs := [.tmp 4]) rfl [] .nil [(false, [.lit (.bool r)])] [] [] fun cx => ?_
  show Tr _ _ _ ⟨100, 0, [(0, .val true (CV.frzRow (Vtab.row x0))), (1, .val false [.lit (.int .i64 x1)])], []⟩ _
  unfold spec_VtabOkF at H
  refine Tr.rs ?_
  refine LAt.runU tOk 2 (by kernel_rfl) ?_
  refine LAt.doneU [4, 2, 1] [2] (by kernel_rfl) ?_
  refine Tr.seq ?_
  refine Tr.rs ?_
  refine LAt.runU tOk 1 (by kernel_rfl) ?_
  obtain ⟨r1, er1, H⟩ := bind_some H
  refine LAt.callU tOk [.rd, .rd, .rd] (f := 76) (av := #[.tmp 9, .const (.int .i64 1), .const (.int .i64 6)]) (ats := #[3, 3, 3]) (d := (some 10)) (ty := 4) (g := none) (by kernel_rfl) (by kernel_rfl) (by kernel_rfl) [] (spec_l1In n x1 1 6 r1 er1) (by kernel_rfl) (.inl rfl) ?_
  refine LAt.runU tOk 2 (by kernel_rfl) ?_
  refine LAt.to ⟨100, 0, [(12, .val false [.lit (.bool (!r1))]), (11, .val false [.lit (.bool (!r1))]), (10, .val false [.lit (.bool r1)]), (9, .val false [.lit (.int .i64 x1)]), (4, .val false [.lit (.bool false)]), (2, .adr (.box 2) [(0, 0)] 2 0), (1, .val false [.lit (.int .i64 x1)])], [(2, (CV.frzRow (Vtab.row x0)))]⟩ (by kernel_rfl) ?_
  cases h1 : (!r1)
  · have H := bifF h1 H
    refine LAt.runU tOk 2 (by kernel_rfl) ?_
    refine LAt.lenE tOk (t := 23) (ty := 3) (e := 3) (x := (.tmp 14)) (d := 15) (g := (some (3, false))) ⟨(.slot 14), [], 0, false, 1, (CV.frzEs (x0.Pvid.map intRow))⟩ (x0.Pvid).length _ (by kernel_rfl) (by kernel_rfl) (by kernel_rfl) (by kernel_rfl) (by kernel_rfl) (frz_len _ _) rfl ?_
    refine LAt.runU tOk 4 (by kernel_rfl) ?_
    refine LAt.to ⟨100, 0, [(19, .val false [.lit (.bool ((x0.Pvid.length : Int) != x1))]), (18, .val false [.lit (.bool ((x0.Pvid.length : Int) != x1))]), (17, .val false [.lit (.bool ((x0.Pvid.length : Int) != x1))]), (16, .val false [.lit (.int .i64 x1)]), (15, .val false [.lit (.int .i64 (x0.Pvid.length : Int))]), (14, .val false [.sl false 1 (CV.frzEs (x0.Pvid.map intRow))]), (13, .adr (.box 2) [(0, 0)] 2 1), (12, .val false [.lit (.bool false)]), (11, .val false [.lit (.bool false)]), (10, .val false [.lit (.bool r1)]), (9, .val false [.lit (.int .i64 x1)]), (4, .val false [.lit (.bool false)]), (2, .adr (.box 2) [(0, 0)] 2 0), (1, .val false [.lit (.int .i64 x1)])], [(2, (CV.frzRow (Vtab.row x0)))]⟩ (by kernel_rfl) ?_
    cases h2 : ((x0.Pvid.length : Int) != x1)
    · have H := bifF h2 H
      refine LAt.runU tOk 2 (by kernel_rfl) ?_
      refine LAt.lenE tOk (t := 27) (ty := 3) (e := 56) (x := (.tmp 21)) (d := 22) (g := (some (10, false))) ⟨(.slot 21), [], 0, false, 3, (CV.frzEs (x0.Rows.map Vrow.row))⟩ (x0.Rows).length _ (by kernel_rfl) (by kernel_rfl) (by kernel_rfl) (by kernel_rfl) (by kernel_rfl) (frz_len _ _) rfl ?_
      refine LAt.runU tOk 2 (by kernel_rfl) ?_
      refine LAt.doneU [24, 4, 2, 1] [2] (by kernel_rfl) ?_
      refine Tr.to ⟨100, 0, [(24, .val false [.lit (.bool (decide ((x0.Rows.length : Int) > 6)))]), (4, .val false [.lit (.bool false)]), (2, .adr (.box 2) [(0, 0)] 2 0), (1, .val false [.lit (.int .i64 x1)])], [(2, (CV.frzRow (Vtab.row x0)))]⟩ (by kernel_rfl) ?_
      cases h3 : (decide ((x0.Rows.length : Int) > 6))
      · have H := bifF h3 H
        refine Tr.cond (b := false) (by kernel_rfl) (fun h => nomatch h) (fun _ => ?_)
        refine Tr.skip ?_
        show Tr _ _ _ _ _
        refine Tr.rs ?_
        refine LAt.runU tOk 2 (by kernel_rfl) ?_
        obtain ⟨hg2, H⟩ := guard_some H
        refine LAt.binC tOk (op := .shl) (t := 3) (ty := 136) (ty' := 3) (x := (.const (.int .i64 1))) (y := (.tmp 26)) (d := 27) (g := none) (.int .i64 1) (.int .u64 (IntKind.wrap .u64 x1)) (.int .i64 (IntKind.wrap .i64 (1 * 2 ^ min (((IntKind.wrap .u64 x1) : Int)).toNat (IntKind.bits .i64)))) _ (by kernel_rfl) (by kernel_rfl) (by kernel_rfl) (by kernel_rfl) (by kernel_rfl) (φ := (0 : Int) ≤ (IntKind.wrap .u64 x1)) (by kernel_rfl) (of_decide_eq_true hg2) rfl ?_
        refine LAt.runU tOk 2 (by kernel_rfl) ?_
        refine LAt.doneU [5, 4, 2] [2] (by kernel_rfl) ?_
        refine Tr.seq ?_
        refine Tr.rs ?_
        refine LAt.runU tOk 1 (by kernel_rfl) ?_
        refine LAt.doneU [6, 5, 4, 2] [2] (by kernel_rfl) ?_
        obtain ⟨o8, eo8, Ho8⟩ := bind_some H
        clear H
        refine Tr.mid (ι := Unit) (fun v => ⟨100, 0, [(4, .val false [.lit (.bool false)]), (2, .adr (.box 2) [(0, 0)] 2 0)], [(2, (CV.frzRow (Vtab.row x0)))]⟩) (fun v => spec_VtabOk_J1 n x0 = some r) ?_ ?_
        · refine Tr.block ?_
          refine Tr.loop (ι := Nat × (Int)) (fun v => ⟨100, 0, [(6, .val false [.lit (.int .i64 v.2)]), (5, .val false [.lit (.int .i64 (IntKind.wrap .i64 ((IntKind.wrap .i64 (1 * 2 ^ min (((IntKind.wrap .u64 x1) : Int)).toNat (IntKind.bits .i64))) - 1)))]), (4, .val false [.lit (.bool false)]), (2, .adr (.box 2) [(0, 0)] 2 0)], [(2, (CV.frzRow (Vtab.row x0)))]⟩) (fun v => spec_VtabOk_L4 n v.1 x0 x1 v.2 = some o8) (fun v => v.1) (n, 0) eo8 (St.sub_of [6, 5, 4, 2] [2] (by kernel_rfl)) ?_
          rintro ⟨mo8, y3⟩ H
          have H : spec_VtabOk_L4 n mo8 x0 x1 y3 = some o8 := H
          obtain _ | mo8 := mo8
          · cases (show (none : Option _) = some o8 from H)
          · rw [spec_VtabOk_L4] at H
            refine Tr.seq ?_
            refine Tr.rs ?_
            refine LAt.runU tOk 3 (by kernel_rfl) ?_
            refine LAt.lenE tOk (t := 27) (ty := 3) (e := 56) (x := (.tmp 31)) (d := 32) (g := none) ⟨(.slot 31), [], 0, false, 3, (CV.frzEs (x0.Rows.map Vrow.row))⟩ (x0.Rows).length _ (by kernel_rfl) (by kernel_rfl) (by kernel_rfl) (by kernel_rfl) (by kernel_rfl) (frz_len _ _) rfl ?_
            refine LAt.runU tOk 1 (by kernel_rfl) ?_
            refine LAt.doneU [33, 32, 31, 30, 29, 6, 5, 4, 2] [2] (by kernel_rfl) ?_
            refine Tr.to ⟨100, 0, [(33, .val false [.lit (.bool (decide (y3 < (x0.Rows.length : Int))))]), (32, .val false [.lit (.int .i64 (x0.Rows.length : Int))]), (31, .val false [.sl false 3 (CV.frzEs (x0.Rows.map Vrow.row))]), (30, .adr (.box 2) [(0, 0)] 2 0), (29, .val false [.lit (.int .i64 y3)]), (6, .val false [.lit (.int .i64 y3)]), (5, .val false [.lit (.int .i64 (IntKind.wrap .i64 ((IntKind.wrap .i64 (1 * 2 ^ min (((IntKind.wrap .u64 x1) : Int)).toNat (IntKind.bits .i64))) - 1)))]), (4, .val false [.lit (.bool false)]), (2, .adr (.box 2) [(0, 0)] 2 0)], [(2, (CV.frzRow (Vtab.row x0)))]⟩ (by kernel_rfl) ?_
            cases h6 : (decide (y3 < (x0.Rows.length : Int)))
            · have H := bifF h6 H
              refine Tr.cond (b := false) (by kernel_rfl) (fun h => nomatch h) (fun _ => ?_)
              refine Tr.exit ?_
              refine And.intro (fun _ => ?_) (fun h => absurd rfl h)
              have H := Option.some.inj H
              subst H
              have H := Ho8
              dsimp only at H
              exact Exists.intro () (And.intro H (St.sub_of [4, 2] [2] (by kernel_rfl)))
            · have H := bifT h6 H
              refine Tr.cond (b := true) (by kernel_rfl) (fun _ => ?_) (fun h => nomatch h)
              refine Tr.skip ?_
              show Tr _ _ _ _ _
              refine Tr.seq ?_
              refine Tr.block ?_
              refine Tr.rs ?_
              refine LAt.runU tOk 3 (by kernel_rfl) ?_
              obtain ⟨v9, ev9, H⟩ := bind_some H
              refine LAt.indexF tOk (t := 27) (ty := 0) (x := (.tmp 37)) (y := (.tmp 38)) (d := 39) (g := none) ⟨(.slot 37), [], 0, false, 3, (CV.frzEs (x0.Rows.map Vrow.row))⟩ y3 (Vrow.row v9) _ (by kernel_rfl) (by kernel_rfl) (by kernel_rfl) (by kernel_rfl) rfl (idx_isF ev9) rfl ?_
              refine LAt.runU tOk 3 (by kernel_rfl) ?_
              refine LAt.doneU [7, 40, 39, 38, 37, 36, 33, 32, 31, 30, 29, 6, 5, 4, 2] [7, 2] (by kernel_rfl) ?_
              obtain ⟨r10, er10, H⟩ := bind_some H
              refine Tr.to ⟨100, 0, [(7, .adr (.box 7) [(0, 0)] 3 0), (40, .val true (Vrow.row v9)), (39, .fad ((Vrow.row v9))), (38, .val false [.lit (.int .i64 y3)]), (37, .val false [.sl false 3 (CV.frzEs (x0.Rows.map Vrow.row))]), (36, .adr (.box 2) [(0, 0)] 2 0), (33, .val false [.lit (.bool true)]), (32, .val false [.lit (.int .i64 (x0.Rows.length : Int))]), (31, .val false [.sl false 3 (CV.frzEs (x0.Rows.map Vrow.row))]), (30, .adr (.box 2) [(0, 0)] 2 0), (29, .val false [.lit (.int .i64 y3)]), (6, .val false [.lit (.int .i64 y3)]), (5, .val false [.lit (.int .i64 (IntKind.wrap .i64 ((IntKind.wrap .i64 (1 * 2 ^ min (((IntKind.wrap .u64 x1) : Int)).toNat (IntKind.bits .i64))) - 1)))]), (4, .val false [.lit (.bool false)]), (2, .adr (.box 2) [(0, 0)] 2 0)], [(7, (Vrow.row v9)), (2, (CV.frzRow (Vtab.row x0)))]⟩ (by kernel_rfl) ?_
              cases h7 : (!r10)
              · have H := bifF h7 H
                obtain ⟨r11, er11, H⟩ := bind_some H
                refine Tr.to ⟨100, 0, [(7, .adr (.box 7) [(0, 0)] 3 0), (40, .val true (Vrow.row v9)), (39, .fad ((Vrow.row v9))), (38, .val false [.lit (.int .i64 y3)]), (37, .val false [.sl false 3 (CV.frzEs (x0.Rows.map Vrow.row))]), (36, .adr (.box 2) [(0, 0)] 2 0), (33, .val false [.lit (.bool true)]), (32, .val false [.lit (.int .i64 (x0.Rows.length : Int))]), (31, .val false [.sl false 3 (CV.frzEs (x0.Rows.map Vrow.row))]), (30, .adr (.box 2) [(0, 0)] 2 0), (29, .val false [.lit (.int .i64 y3)]), (6, .val false [.lit (.int .i64 y3)]), (5, .val false [.lit (.int .i64 (IntKind.wrap .i64 ((IntKind.wrap .i64 (1 * 2 ^ min (((IntKind.wrap .u64 x1) : Int)).toNat (IntKind.bits .i64))) - 1)))]), (4, .val false [.lit (.bool false)]), (2, .adr (.box 2) [(0, 0)] 2 0)], [(7, (Vrow.row v9)), (2, (CV.frzRow (Vtab.row x0)))]⟩ (by kernel_rfl) ?_
                cases h8 : (!r11)
                · have H := bifF h8 H
                  obtain ⟨r12, er12, H⟩ := bind_some H
                  refine Tr.to ⟨100, 0, [(7, .adr (.box 7) [(0, 0)] 3 0), (40, .val true (Vrow.row v9)), (39, .fad ((Vrow.row v9))), (38, .val false [.lit (.int .i64 y3)]), (37, .val false [.sl false 3 (CV.frzEs (x0.Rows.map Vrow.row))]), (36, .adr (.box 2) [(0, 0)] 2 0), (33, .val false [.lit (.bool true)]), (32, .val false [.lit (.int .i64 (x0.Rows.length : Int))]), (31, .val false [.sl false 3 (CV.frzEs (x0.Rows.map Vrow.row))]), (30, .adr (.box 2) [(0, 0)] 2 0), (29, .val false [.lit (.int .i64 y3)]), (6, .val false [.lit (.int .i64 y3)]), (5, .val false [.lit (.int .i64 (IntKind.wrap .i64 ((IntKind.wrap .i64 (1 * 2 ^ min (((IntKind.wrap .u64 x1) : Int)).toNat (IntKind.bits .i64))) - 1)))]), (4, .val false [.lit (.bool false)]), (2, .adr (.box 2) [(0, 0)] 2 0)], [(7, (Vrow.row v9)), (2, (CV.frzRow (Vtab.row x0)))]⟩ (by kernel_rfl) ?_
                  cases h9 : (!r12)
                  · have H := bifF h9 H
                    refine Tr.to ⟨100, 0, [(7, .adr (.box 7) [(0, 0)] 3 0), (40, .val true (Vrow.row v9)), (39, .fad ((Vrow.row v9))), (38, .val false [.lit (.int .i64 y3)]), (37, .val false [.sl false 3 (CV.frzEs (x0.Rows.map Vrow.row))]), (36, .adr (.box 2) [(0, 0)] 2 0), (33, .val false [.lit (.bool true)]), (32, .val false [.lit (.int .i64 (x0.Rows.length : Int))]), (31, .val false [.sl false 3 (CV.frzEs (x0.Rows.map Vrow.row))]), (30, .adr (.box 2) [(0, 0)] 2 0), (29, .val false [.lit (.int .i64 y3)]), (6, .val false [.lit (.int .i64 y3)]), (5, .val false [.lit (.int .i64 (IntKind.wrap .i64 ((IntKind.wrap .i64 (1 * 2 ^ min (((IntKind.wrap .u64 x1) : Int)).toNat (IntKind.bits .i64))) - 1)))]), (4, .val false [.lit (.bool false)]), (2, .adr (.box 2) [(0, 0)] 2 0)], [(7, (Vrow.row v9)), (2, (CV.frzRow (Vtab.row x0)))]⟩ (by kernel_rfl) ?_
                    cases h10 : ((IntKind.wrap .i64 (BitVec.ofInt (IntKind.bits .i64) v9.Bare &&& BitVec.ofInt (IntKind.bits .i64) v9.Members).toNat) != v9.Bare)
                    · have H := bifF h10 H
                      refine Tr.to ⟨100, 0, [(7, .adr (.box 7) [(0, 0)] 3 0), (40, .val true (Vrow.row v9)), (39, .fad ((Vrow.row v9))), (38, .val false [.lit (.int .i64 y3)]), (37, .val false [.sl false 3 (CV.frzEs (x0.Rows.map Vrow.row))]), (36, .adr (.box 2) [(0, 0)] 2 0), (33, .val false [.lit (.bool true)]), (32, .val false [.lit (.int .i64 (x0.Rows.length : Int))]), (31, .val false [.sl false 3 (CV.frzEs (x0.Rows.map Vrow.row))]), (30, .adr (.box 2) [(0, 0)] 2 0), (29, .val false [.lit (.int .i64 y3)]), (6, .val false [.lit (.int .i64 y3)]), (5, .val false [.lit (.int .i64 (IntKind.wrap .i64 ((IntKind.wrap .i64 (1 * 2 ^ min (((IntKind.wrap .u64 x1) : Int)).toNat (IntKind.bits .i64))) - 1)))]), (4, .val false [.lit (.bool false)]), (2, .adr (.box 2) [(0, 0)] 2 0)], [(7, (Vrow.row v9)), (2, (CV.frzRow (Vtab.row x0)))]⟩ (by kernel_rfl) ?_
                      cases h11 : (decide (y3 > 0))
                      · have H := bifF h11 H
                        refine Tr.draws mixed 44 (by kernel_rfl) ⟨100, 0, [(84, .val false [.lit (.bool false)]), (83, .val false [.lit (.bool false)]), (82, .tup []), (81, .tup []), (80, .tup []), (79, .tup []), (78, .tup []), (77, .tup []), (76, .tup []), (75, .tup []), (74, .tup []), (73, .tup []), (72, .val false [.lit (.bool false)]), (71, .val false [.lit (.bool false)]), (70, .val false [.lit (.int .i64 y3)]), (69, .val false [.lit (.bool false)]), (68, .val false [.lit (.bool false)]), (67, .val false [.lit (.bool false)]), (66, .val false [.lit (.int .i64 v9.Bare)]), (65, .adr (.box 7) [(0, 0)] 3 2), (64, .val false [.lit (.int .i64 (IntKind.wrap .i64 (BitVec.ofInt (IntKind.bits .i64) v9.Bare &&& BitVec.ofInt (IntKind.bits .i64) v9.Members).toNat))]), (63, .val false [.lit (.int .i64 v9.Members)]), (62, .adr (.box 7) [(0, 0)] 3 1), (61, .val false [.lit (.int .i64 v9.Bare)]), (60, .adr (.box 7) [(0, 0)] 3 2), (59, .val false [.lit (.bool false)]), (58, .val false [.lit (.bool false)]), (57, .val false [.lit (.bool false)]), (56, .val false [.lit (.bool r12)]), (55, .val false [.lit (.int .i64 (IntKind.wrap .i64 ((IntKind.wrap .i64 (1 * 2 ^ min (((IntKind.wrap .u64 x1) : Int)).toNat (IntKind.bits .i64))) - 1)))]), (54, .val false [.lit (.int .i64 v9.Bare)]), (53, .adr (.box 7) [(0, 0)] 3 2), (52, .val false [.lit (.bool false)]), (51, .val false [.lit (.bool false)]), (50, .val false [.lit (.bool false)]), (49, .val false [.lit (.bool r11)]), (48, .val false [.lit (.int .i64 (IntKind.wrap .i64 ((IntKind.wrap .i64 (1 * 2 ^ min (((IntKind.wrap .u64 x1) : Int)).toNat (IntKind.bits .i64))) - 1)))]), (47, .val false [.lit (.int .i64 v9.Members)]), (46, .adr (.box 7) [(0, 0)] 3 1), (45, .val false [.lit (.bool false)]), (44, .val false [.lit (.bool false)]), (43, .val false [.lit (.bool r10)]), (42, .val false [.lit (.int .i64 v9.Id)]), (41, .adr (.box 7) [(0, 0)] 3 0), (7, .adr (.box 7) [(0, 0)] 3 0), (40, .val true (Vrow.row v9)), (39, .fad ((Vrow.row v9))), (38, .val false [.lit (.int .i64 y3)]), (37, .val false [.sl false 3 (CV.frzEs (x0.Rows.map Vrow.row))]), (36, .adr (.box 2) [(0, 0)] 2 0), (33, .val false [.lit (.bool true)]), (32, .val false [.lit (.int .i64 (x0.Rows.length : Int))]), (31, .val false [.sl false 3 (CV.frzEs (x0.Rows.map Vrow.row))]), (30, .adr (.box 2) [(0, 0)] 2 0), (29, .val false [.lit (.int .i64 y3)]), (6, .val false [.lit (.int .i64 y3)]), (5, .val false [.lit (.int .i64 (IntKind.wrap .i64 ((IntKind.wrap .i64 (1 * 2 ^ min (((IntKind.wrap .u64 x1) : Int)).toNat (IntKind.bits .i64))) - 1)))]), (4, .val false [.lit (.bool false)]), (2, .adr (.box 2) [(0, 0)] 2 0)], [(7, (Vrow.row v9)), (2, (CV.frzRow (Vtab.row x0)))]⟩ (fun cx => ?_) ?_
                        · refine AT.runU tOk [(0, []), (1, [2, 8, 15])] 42 [⟨[2, 8, 15], 3, 41, 42⟩] [1, 0] rfl (by kernel_rfl) (fun cx => ?_)
                          refine AT.big1 tOk 2 (by kernel_rfl) (by kernel_rfl) ?_
                          refine LAt.callU tOk [.rd, .rd, .rd] (f := 76) (av := #[.tmp 42, .const (.int .i64 1), .const (.int .i64 99)]) (ats := #[3, 3, 3]) (d := (some 43)) (ty := 4) (g := none) (by kernel_rfl) (by kernel_rfl) (by kernel_rfl) [] (spec_l1In n v9.Id 1 99 r10 er10) (by kernel_rfl) (.inl rfl) ?_
                          refine LAt.fin (by kernel_rfl) (And.intro (And.intro (by kernel_rfl) (by kernel_rfl)) ?_)
                          refine AT.runU tOk [(3, []), (4, [])] 39 [⟨[2, 8, 15], 3, 41, 42⟩] [4, 3, 2, 1, 0] rfl (by kernel_rfl) (fun cx => ?_)
                          refine AT.to ⟨100, 0, [(45, .val false [.lit (.bool (!r10))]), (44, .val false [.lit (.bool (!r10))]), (43, .val false [.lit (.bool r10)]), (42, .val false [.lit (.int .i64 v9.Id)]), (41, .adr (.box 7) [(0, 0)] 3 0), (7, .adr (.box 7) [(0, 0)] 3 0), (40, .val true (Vrow.row v9)), (39, .fad ((Vrow.row v9))), (38, .val false [.lit (.int .i64 y3)]), (37, .val false [.sl false 3 (CV.frzEs (x0.Rows.map Vrow.row))]), (36, .adr (.box 2) [(0, 0)] 2 0), (33, .val false [.lit (.bool true)]), (32, .val false [.lit (.int .i64 (x0.Rows.length : Int))]), (31, .val false [.sl false 3 (CV.frzEs (x0.Rows.map Vrow.row))]), (30, .adr (.box 2) [(0, 0)] 2 0), (29, .val false [.lit (.int .i64 y3)]), (6, .val false [.lit (.int .i64 y3)]), (5, .val false [.lit (.int .i64 (IntKind.wrap .i64 ((IntKind.wrap .i64 (1 * 2 ^ min (((IntKind.wrap .u64 x1) : Int)).toNat (IntKind.bits .i64))) - 1)))]), (4, .val false [.lit (.bool false)]), (2, .adr (.box 2) [(0, 0)] 2 0)], [(7, (Vrow.row v9)), (2, (CV.frzRow (Vtab.row x0)))]⟩ (by kernel_rfl) ?_
                          rw [h7]
                          refine AT.runU tOk [(5, []), (6, [8, 15]), (7, [])] 36 [⟨[8, 15], 3, 46, 47⟩, ⟨[2, 8, 15], 3, 41, 42⟩] [7, 6, 5, 4, 3, 2, 1, 0] rfl (by kernel_rfl) (fun cx => ?_)
                          refine AT.big1 tOk 8 (by kernel_rfl) (by kernel_rfl) ?_
                          refine LAt.callU tOk [.rd, .rd, .rd] (f := 76) (av := #[.tmp 47, .const (.int .i64 0), .tmp 48]) (ats := #[3, 3, 3]) (d := (some 49)) (ty := 4) (g := (some (4, false))) (by kernel_rfl) (by kernel_rfl) (by kernel_rfl) [] (spec_l1In n v9.Members 0 (IntKind.wrap .i64 ((IntKind.wrap .i64 (1 * 2 ^ min (((IntKind.wrap .u64 x1) : Int)).toNat (IntKind.bits .i64))) - 1)) r11 er11) (by kernel_rfl) (.inl rfl) ?_
                          refine LAt.fin (by kernel_rfl) (And.intro (And.intro (by kernel_rfl) (by kernel_rfl)) ?_)
                          refine AT.runU tOk [(9, []), (10, []), (11, [])] 32 [⟨[8, 15], 3, 46, 47⟩, ⟨[2, 8, 15], 3, 41, 42⟩] [11, 10, 9, 8, 7, 6, 5, 4, 3, 2, 1, 0] rfl (by kernel_rfl) (fun cx => ?_)
                          refine AT.to ⟨100, 0, [(52, .val false [.lit (.bool (!r11))]), (51, .val false [.lit (.bool (!r11))]), (50, .val false [.lit (.bool (!r11))]), (49, .val false [.lit (.bool r11)]), (48, .val false [.lit (.int .i64 (IntKind.wrap .i64 ((IntKind.wrap .i64 (1 * 2 ^ min (((IntKind.wrap .u64 x1) : Int)).toNat (IntKind.bits .i64))) - 1)))]), (47, .val false [.lit (.int .i64 v9.Members)]), (46, .adr (.box 7) [(0, 0)] 3 1), (45, .val false [.lit (.bool false)]), (44, .val false [.lit (.bool false)]), (43, .val false [.lit (.bool r10)]), (42, .val false [.lit (.int .i64 v9.Id)]), (41, .adr (.box 7) [(0, 0)] 3 0), (7, .adr (.box 7) [(0, 0)] 3 0), (40, .val true (Vrow.row v9)), (39, .fad ((Vrow.row v9))), (38, .val false [.lit (.int .i64 y3)]), (37, .val false [.sl false 3 (CV.frzEs (x0.Rows.map Vrow.row))]), (36, .adr (.box 2) [(0, 0)] 2 0), (33, .val false [.lit (.bool true)]), (32, .val false [.lit (.int .i64 (x0.Rows.length : Int))]), (31, .val false [.sl false 3 (CV.frzEs (x0.Rows.map Vrow.row))]), (30, .adr (.box 2) [(0, 0)] 2 0), (29, .val false [.lit (.int .i64 y3)]), (6, .val false [.lit (.int .i64 y3)]), (5, .val false [.lit (.int .i64 (IntKind.wrap .i64 ((IntKind.wrap .i64 (1 * 2 ^ min (((IntKind.wrap .u64 x1) : Int)).toNat (IntKind.bits .i64))) - 1)))]), (4, .val false [.lit (.bool false)]), (2, .adr (.box 2) [(0, 0)] 2 0)], [(7, (Vrow.row v9)), (2, (CV.frzRow (Vtab.row x0)))]⟩ (by kernel_rfl) ?_
                          rw [h8]
                          refine AT.runU tOk [(12, []), (13, [15]), (14, [])] 29 [⟨[15], 3, 53, 54⟩, ⟨[8, 15], 3, 46, 47⟩, ⟨[2, 8, 15], 3, 41, 42⟩] [14, 13, 12, 11, 10, 9, 8, 7, 6, 5, 4, 3, 2, 1, 0] rfl (by kernel_rfl) (fun cx => ?_)
                          refine AT.big1 tOk 15 (by kernel_rfl) (by kernel_rfl) ?_
                          refine LAt.callU tOk [.rd, .rd, .rd] (f := 76) (av := #[.tmp 54, .const (.int .i64 0), .tmp 55]) (ats := #[3, 3, 3]) (d := (some 56)) (ty := 4) (g := (some (11, false))) (by kernel_rfl) (by kernel_rfl) (by kernel_rfl) [] (spec_l1In n v9.Bare 0 (IntKind.wrap .i64 ((IntKind.wrap .i64 (1 * 2 ^ min (((IntKind.wrap .u64 x1) : Int)).toNat (IntKind.bits .i64))) - 1)) r12 er12) (by kernel_rfl) (.inl rfl) ?_
                          refine LAt.fin (by kernel_rfl) (And.intro (And.intro (by kernel_rfl) (by kernel_rfl)) ?_)
                          refine AT.runU tOk [(16, []), (17, []), (18, [])] 25 [⟨[15], 3, 53, 54⟩, ⟨[8, 15], 3, 46, 47⟩, ⟨[2, 8, 15], 3, 41, 42⟩] [18, 17, 16, 15, 14, 13, 12, 11, 10, 9, 8, 7, 6, 5, 4, 3, 2, 1, 0] rfl (by kernel_rfl) (fun cx => ?_)
                          refine AT.to ⟨100, 0, [(59, .val false [.lit (.bool (!r12))]), (58, .val false [.lit (.bool (!r12))]), (57, .val false [.lit (.bool (!r12))]), (56, .val false [.lit (.bool r12)]), (55, .val false [.lit (.int .i64 (IntKind.wrap .i64 ((IntKind.wrap .i64 (1 * 2 ^ min (((IntKind.wrap .u64 x1) : Int)).toNat (IntKind.bits .i64))) - 1)))]), (54, .val false [.lit (.int .i64 v9.Bare)]), (53, .adr (.box 7) [(0, 0)] 3 2), (52, .val false [.lit (.bool false)]), (51, .val false [.lit (.bool false)]), (50, .val false [.lit (.bool false)]), (49, .val false [.lit (.bool r11)]), (48, .val false [.lit (.int .i64 (IntKind.wrap .i64 ((IntKind.wrap .i64 (1 * 2 ^ min (((IntKind.wrap .u64 x1) : Int)).toNat (IntKind.bits .i64))) - 1)))]), (47, .val false [.lit (.int .i64 v9.Members)]), (46, .adr (.box 7) [(0, 0)] 3 1), (45, .val false [.lit (.bool false)]), (44, .val false [.lit (.bool false)]), (43, .val false [.lit (.bool r10)]), (42, .val false [.lit (.int .i64 v9.Id)]), (41, .adr (.box 7) [(0, 0)] 3 0), (7, .adr (.box 7) [(0, 0)] 3 0), (40, .val true (Vrow.row v9)), (39, .fad ((Vrow.row v9))), (38, .val false [.lit (.int .i64 y3)]), (37, .val false [.sl false 3 (CV.frzEs (x0.Rows.map Vrow.row))]), (36, .adr (.box 2) [(0, 0)] 2 0), (33, .val false [.lit (.bool true)]), (32, .val false [.lit (.int .i64 (x0.Rows.length : Int))]), (31, .val false [.sl false 3 (CV.frzEs (x0.Rows.map Vrow.row))]), (30, .adr (.box 2) [(0, 0)] 2 0), (29, .val false [.lit (.int .i64 y3)]), (6, .val false [.lit (.int .i64 y3)]), (5, .val false [.lit (.int .i64 (IntKind.wrap .i64 ((IntKind.wrap .i64 (1 * 2 ^ min (((IntKind.wrap .u64 x1) : Int)).toNat (IntKind.bits .i64))) - 1)))]), (4, .val false [.lit (.bool false)]), (2, .adr (.box 2) [(0, 0)] 2 0)], [(7, (Vrow.row v9)), (2, (CV.frzRow (Vtab.row x0)))]⟩ (by kernel_rfl) ?_
                          rw [h9]
                          refine AT.runU tOk [(19, []), (20, []), (21, []), (22, []), (23, []), (24, []), (25, []), (26, []), (27, []), (28, [])] 15 [⟨[], 3, 65, 66⟩, ⟨[], 3, 62, 63⟩, ⟨[], 3, 60, 61⟩, ⟨[15], 3, 53, 54⟩, ⟨[8, 15], 3, 46, 47⟩, ⟨[2, 8, 15], 3, 41, 42⟩] [28, 27, 26, 25, 24, 23, 22, 21, 20, 19, 18, 17, 16, 15, 14, 13, 12, 11, 10, 9, 8, 7, 6, 5, 4, 3, 2, 1, 0] rfl (by kernel_rfl) (fun cx => ?_)
                          refine AT.to ⟨100, 0, [(69, .val false [.lit (.bool ((IntKind.wrap .i64 (BitVec.ofInt (IntKind.bits .i64) v9.Bare &&& BitVec.ofInt (IntKind.bits .i64) v9.Members).toNat) != v9.Bare))]), (68, .val false [.lit (.bool ((IntKind.wrap .i64 (BitVec.ofInt (IntKind.bits .i64) v9.Bare &&& BitVec.ofInt (IntKind.bits .i64) v9.Members).toNat) != v9.Bare))]), (67, .val false [.lit (.bool ((IntKind.wrap .i64 (BitVec.ofInt (IntKind.bits .i64) v9.Bare &&& BitVec.ofInt (IntKind.bits .i64) v9.Members).toNat) != v9.Bare))]), (66, .val false [.lit (.int .i64 v9.Bare)]), (65, .adr (.box 7) [(0, 0)] 3 2), (64, .val false [.lit (.int .i64 (IntKind.wrap .i64 (BitVec.ofInt (IntKind.bits .i64) v9.Bare &&& BitVec.ofInt (IntKind.bits .i64) v9.Members).toNat))]), (63, .val false [.lit (.int .i64 v9.Members)]), (62, .adr (.box 7) [(0, 0)] 3 1), (61, .val false [.lit (.int .i64 v9.Bare)]), (60, .adr (.box 7) [(0, 0)] 3 2), (59, .val false [.lit (.bool false)]), (58, .val false [.lit (.bool false)]), (57, .val false [.lit (.bool false)]), (56, .val false [.lit (.bool r12)]), (55, .val false [.lit (.int .i64 (IntKind.wrap .i64 ((IntKind.wrap .i64 (1 * 2 ^ min (((IntKind.wrap .u64 x1) : Int)).toNat (IntKind.bits .i64))) - 1)))]), (54, .val false [.lit (.int .i64 v9.Bare)]), (53, .adr (.box 7) [(0, 0)] 3 2), (52, .val false [.lit (.bool false)]), (51, .val false [.lit (.bool false)]), (50, .val false [.lit (.bool false)]), (49, .val false [.lit (.bool r11)]), (48, .val false [.lit (.int .i64 (IntKind.wrap .i64 ((IntKind.wrap .i64 (1 * 2 ^ min (((IntKind.wrap .u64 x1) : Int)).toNat (IntKind.bits .i64))) - 1)))]), (47, .val false [.lit (.int .i64 v9.Members)]), (46, .adr (.box 7) [(0, 0)] 3 1), (45, .val false [.lit (.bool false)]), (44, .val false [.lit (.bool false)]), (43, .val false [.lit (.bool r10)]), (42, .val false [.lit (.int .i64 v9.Id)]), (41, .adr (.box 7) [(0, 0)] 3 0), (7, .adr (.box 7) [(0, 0)] 3 0), (40, .val true (Vrow.row v9)), (39, .fad ((Vrow.row v9))), (38, .val false [.lit (.int .i64 y3)]), (37, .val false [.sl false 3 (CV.frzEs (x0.Rows.map Vrow.row))]), (36, .adr (.box 2) [(0, 0)] 2 0), (33, .val false [.lit (.bool true)]), (32, .val false [.lit (.int .i64 (x0.Rows.length : Int))]), (31, .val false [.sl false 3 (CV.frzEs (x0.Rows.map Vrow.row))]), (30, .adr (.box 2) [(0, 0)] 2 0), (29, .val false [.lit (.int .i64 y3)]), (6, .val false [.lit (.int .i64 y3)]), (5, .val false [.lit (.int .i64 (IntKind.wrap .i64 ((IntKind.wrap .i64 (1 * 2 ^ min (((IntKind.wrap .u64 x1) : Int)).toNat (IntKind.bits .i64))) - 1)))]), (4, .val false [.lit (.bool false)]), (2, .adr (.box 2) [(0, 0)] 2 0)], [(7, (Vrow.row v9)), (2, (CV.frzRow (Vtab.row x0)))]⟩ (by kernel_rfl) ?_
                          rw [h10]
                          refine AT.runU tOk [(29, []), (30, []), (31, [])] 12 [⟨[], 3, 65, 66⟩, ⟨[], 3, 62, 63⟩, ⟨[], 3, 60, 61⟩, ⟨[15], 3, 53, 54⟩, ⟨[8, 15], 3, 46, 47⟩, ⟨[2, 8, 15], 3, 41, 42⟩] [31, 30, 29, 28, 27, 26, 25, 24, 23, 22, 21, 20, 19, 18, 17, 16, 15, 14, 13, 12, 11, 10, 9, 8, 7, 6, 5, 4, 3, 2, 1, 0] rfl (by kernel_rfl) (fun cx => ?_)
                          refine AT.to ⟨100, 0, [(72, .val false [.lit (.bool (decide (y3 > 0)))]), (71, .val false [.lit (.bool (decide (y3 > 0)))]), (70, .val false [.lit (.int .i64 y3)]), (69, .val false [.lit (.bool false)]), (68, .val false [.lit (.bool false)]), (67, .val false [.lit (.bool false)]), (66, .val false [.lit (.int .i64 v9.Bare)]), (65, .adr (.box 7) [(0, 0)] 3 2), (64, .val false [.lit (.int .i64 (IntKind.wrap .i64 (BitVec.ofInt (IntKind.bits .i64) v9.Bare &&& BitVec.ofInt (IntKind.bits .i64) v9.Members).toNat))]), (63, .val false [.lit (.int .i64 v9.Members)]), (62, .adr (.box 7) [(0, 0)] 3 1), (61, .val false [.lit (.int .i64 v9.Bare)]), (60, .adr (.box 7) [(0, 0)] 3 2), (59, .val false [.lit (.bool false)]), (58, .val false [.lit (.bool false)]), (57, .val false [.lit (.bool false)]), (56, .val false [.lit (.bool r12)]), (55, .val false [.lit (.int .i64 (IntKind.wrap .i64 ((IntKind.wrap .i64 (1 * 2 ^ min (((IntKind.wrap .u64 x1) : Int)).toNat (IntKind.bits .i64))) - 1)))]), (54, .val false [.lit (.int .i64 v9.Bare)]), (53, .adr (.box 7) [(0, 0)] 3 2), (52, .val false [.lit (.bool false)]), (51, .val false [.lit (.bool false)]), (50, .val false [.lit (.bool false)]), (49, .val false [.lit (.bool r11)]), (48, .val false [.lit (.int .i64 (IntKind.wrap .i64 ((IntKind.wrap .i64 (1 * 2 ^ min (((IntKind.wrap .u64 x1) : Int)).toNat (IntKind.bits .i64))) - 1)))]), (47, .val false [.lit (.int .i64 v9.Members)]), (46, .adr (.box 7) [(0, 0)] 3 1), (45, .val false [.lit (.bool false)]), (44, .val false [.lit (.bool false)]), (43, .val false [.lit (.bool r10)]), (42, .val false [.lit (.int .i64 v9.Id)]), (41, .adr (.box 7) [(0, 0)] 3 0), (7, .adr (.box 7) [(0, 0)] 3 0), (40, .val true (Vrow.row v9)), (39, .fad ((Vrow.row v9))), (38, .val false [.lit (.int .i64 y3)]), (37, .val false [.sl false 3 (CV.frzEs (x0.Rows.map Vrow.row))]), (36, .adr (.box 2) [(0, 0)] 2 0), (33, .val false [.lit (.bool true)]), (32, .val false [.lit (.int .i64 (x0.Rows.length : Int))]), (31, .val false [.sl false 3 (CV.frzEs (x0.Rows.map Vrow.row))]), (30, .adr (.box 2) [(0, 0)] 2 0), (29, .val false [.lit (.int .i64 y3)]), (6, .val false [.lit (.int .i64 y3)]), (5, .val false [.lit (.int .i64 (IntKind.wrap .i64 ((IntKind.wrap .i64 (1 * 2 ^ min (((IntKind.wrap .u64 x1) : Int)).toNat (IntKind.bits .i64))) - 1)))]), (4, .val false [.lit (.bool false)]), (2, .adr (.box 2) [(0, 0)] 2 0)], [(7, (Vrow.row v9)), (2, (CV.frzRow (Vtab.row x0)))]⟩ (by kernel_rfl) ?_
                          rw [h11]
                          refine AT.runU tOk [(32, []), (33, []), (34, []), (35, []), (36, []), (37, []), (38, []), (39, []), (40, []), (41, []), (42, []), (43, [])] 0 [⟨[], 3, 65, 66⟩, ⟨[], 3, 62, 63⟩, ⟨[], 3, 60, 61⟩, ⟨[15], 3, 53, 54⟩, ⟨[8, 15], 3, 46, 47⟩, ⟨[2, 8, 15], 3, 41, 42⟩] [43, 42, 41, 40, 39, 38, 37, 36, 35, 34, 33, 32, 31, 30, 29, 28, 27, 26, 25, 24, 23, 22, 21, 20, 19, 18, 17, 16, 15, 14, 13, 12, 11, 10, 9, 8, 7, 6, 5, 4, 3, 2, 1, 0] rfl (by kernel_rfl) (fun cx => ?_)
                          exact AT.done [84, 83, 82, 81, 80, 79, 78, 77, 76, 75, 74, 73, 72, 71, 70, 69, 68, 67, 66, 65, 64, 63, 62, 61, 60, 59, 58, 57, 56, 55, 54, 53, 52, 51, 50, 49, 48, 47, 46, 45, 44, 43, 42, 41, 7, 40, 39, 38, 37, 36, 33, 32, 31, 30, 29, 6, 5, 4, 2] [7, 2] _ (by kernel_rfl) (by kernel_rfl) rfl
                        · refine Tr.cond (b := false) (by kernel_rfl) (fun h => nomatch h) (fun _ => ?_)
                          refine Tr.skip ?_
                          show Tr _ _ _ _ _
                          refine Tr.at ?_
                          refine LAt.runU tOk 3 (by kernel_rfl) ?_
                          refine LAt.doneU [6, 35, 34, 84, 83, 82, 81, 80, 79, 78, 77, 76, 75, 74, 73, 72, 71, 70, 69, 68, 67, 66, 65, 64, 63, 62, 61, 60, 59, 58, 57, 56, 55, 54, 53, 52, 51, 50, 49, 48, 47, 46, 45, 44, 43, 42, 41, 7, 40, 39, 38, 37, 36, 33, 32, 31, 30, 29, 5, 4, 2] [7, 2] (by kernel_rfl) ?_
                          exact Exists.intro (mo8, (IntKind.wrap .i64 (y3 + 1))) (And.intro H (And.intro (Nat.lt_succ_self mo8) (St.sub_of [6, 5, 4, 2] [2] (by kernel_rfl))))
                      · have H := bifT h11 H
                        obtain ⟨v13, ev13, H⟩ := bind_some H
                        refine Tr.draws mixed 44 (by kernel_rfl) ⟨100, 0, [(84, .val false [.lit (.bool (decide (v13.Id ≥ v9.Id)))]), (83, .val false [.lit (.bool (decide (v13.Id ≥ v9.Id)))]), (82, .val false [.lit (.bool (decide (v13.Id ≥ v9.Id)))]), (81, .val false [.lit (.int .i64 v9.Id)]), (80, .adr (.box 7) [(0, 0)] 3 0), (79, .val false [.lit (.int .i64 v13.Id)]), (78, .fad ((Vrow.row v13))), (77, .fad ((Vrow.row v13))), (76, .val false [.lit (.int .i64 (IntKind.wrap .i64 (y3 - 1)))]), (75, .val false [.lit (.int .i64 y3)]), (74, .ref (.box 2) [(0, 0)] 2 0 1 false), (73, .adr (.box 2) [(0, 0)] 2 0), (72, .val false [.lit (.bool true)]), (71, .val false [.lit (.bool true)]), (70, .val false [.lit (.int .i64 y3)]), (69, .val false [.lit (.bool false)]), (68, .val false [.lit (.bool false)]), (67, .val false [.lit (.bool false)]), (66, .val false [.lit (.int .i64 v9.Bare)]), (65, .adr (.box 7) [(0, 0)] 3 2), (64, .val false [.lit (.int .i64 (IntKind.wrap .i64 (BitVec.ofInt (IntKind.bits .i64) v9.Bare &&& BitVec.ofInt (IntKind.bits .i64) v9.Members).toNat))]), (63, .val false [.lit (.int .i64 v9.Members)]), (62, .adr (.box 7) [(0, 0)] 3 1), (61, .val false [.lit (.int .i64 v9.Bare)]), (60, .adr (.box 7) [(0, 0)] 3 2), (59, .val false [.lit (.bool false)]), (58, .val false [.lit (.bool false)]), (57, .val false [.lit (.bool false)]), (56, .val false [.lit (.bool r12)]), (55, .val false [.lit (.int .i64 (IntKind.wrap .i64 ((IntKind.wrap .i64 (1 * 2 ^ min (((IntKind.wrap .u64 x1) : Int)).toNat (IntKind.bits .i64))) - 1)))]), (54, .val false [.lit (.int .i64 v9.Bare)]), (53, .adr (.box 7) [(0, 0)] 3 2), (52, .val false [.lit (.bool false)]), (51, .val false [.lit (.bool false)]), (50, .val false [.lit (.bool false)]), (49, .val false [.lit (.bool r11)]), (48, .val false [.lit (.int .i64 (IntKind.wrap .i64 ((IntKind.wrap .i64 (1 * 2 ^ min (((IntKind.wrap .u64 x1) : Int)).toNat (IntKind.bits .i64))) - 1)))]), (47, .val false [.lit (.int .i64 v9.Members)]), (46, .adr (.box 7) [(0, 0)] 3 1), (45, .val false [.lit (.bool false)]), (44, .val false [.lit (.bool false)]), (43, .val false [.lit (.bool r10)]), (42, .val false [.lit (.int .i64 v9.Id)]), (41, .adr (.box 7) [(0, 0)] 3 0), (7, .adr (.box 7) [(0, 0)] 3 0), (40, .val true (Vrow.row v9)), (39, .fad ((Vrow.row v9))), (38, .val false [.lit (.int .i64 y3)]), (37, .val false [.sl false 3 (CV.frzEs (x0.Rows.map Vrow.row))]), (36, .adr (.box 2) [(0, 0)] 2 0), (33, .val false [.lit (.bool true)]), (32, .val false [.lit (.int .i64 (x0.Rows.length : Int))]), (31, .val false [.sl false 3 (CV.frzEs (x0.Rows.map Vrow.row))]), (30, .adr (.box 2) [(0, 0)] 2 0), (29, .val false [.lit (.int .i64 y3)]), (6, .val false [.lit (.int .i64 y3)]), (5, .val false [.lit (.int .i64 (IntKind.wrap .i64 ((IntKind.wrap .i64 (1 * 2 ^ min (((IntKind.wrap .u64 x1) : Int)).toNat (IntKind.bits .i64))) - 1)))]), (4, .val false [.lit (.bool false)]), (2, .adr (.box 2) [(0, 0)] 2 0)], [(7, (Vrow.row v9)), (2, (CV.frzRow (Vtab.row x0)))]⟩ (fun cx => ?_) ?_
                        · refine AT.runU tOk [(0, []), (1, [2, 8, 15])] 42 [⟨[2, 8, 15], 3, 41, 42⟩] [1, 0] rfl (by kernel_rfl) (fun cx => ?_)
                          refine AT.big1 tOk 2 (by kernel_rfl) (by kernel_rfl) ?_
                          refine LAt.callU tOk [.rd, .rd, .rd] (f := 76) (av := #[.tmp 42, .const (.int .i64 1), .const (.int .i64 99)]) (ats := #[3, 3, 3]) (d := (some 43)) (ty := 4) (g := none) (by kernel_rfl) (by kernel_rfl) (by kernel_rfl) [] (spec_l1In n v9.Id 1 99 r10 er10) (by kernel_rfl) (.inl rfl) ?_
                          refine LAt.fin (by kernel_rfl) (And.intro (And.intro (by kernel_rfl) (by kernel_rfl)) ?_)
                          refine AT.runU tOk [(3, []), (4, [])] 39 [⟨[2, 8, 15], 3, 41, 42⟩] [4, 3, 2, 1, 0] rfl (by kernel_rfl) (fun cx => ?_)
                          refine AT.to ⟨100, 0, [(45, .val false [.lit (.bool (!r10))]), (44, .val false [.lit (.bool (!r10))]), (43, .val false [.lit (.bool r10)]), (42, .val false [.lit (.int .i64 v9.Id)]), (41, .adr (.box 7) [(0, 0)] 3 0), (7, .adr (.box 7) [(0, 0)] 3 0), (40, .val true (Vrow.row v9)), (39, .fad ((Vrow.row v9))), (38, .val false [.lit (.int .i64 y3)]), (37, .val false [.sl false 3 (CV.frzEs (x0.Rows.map Vrow.row))]), (36, .adr (.box 2) [(0, 0)] 2 0), (33, .val false [.lit (.bool true)]), (32, .val false [.lit (.int .i64 (x0.Rows.length : Int))]), (31, .val false [.sl false 3 (CV.frzEs (x0.Rows.map Vrow.row))]), (30, .adr (.box 2) [(0, 0)] 2 0), (29, .val false [.lit (.int .i64 y3)]), (6, .val false [.lit (.int .i64 y3)]), (5, .val false [.lit (.int .i64 (IntKind.wrap .i64 ((IntKind.wrap .i64 (1 * 2 ^ min (((IntKind.wrap .u64 x1) : Int)).toNat (IntKind.bits .i64))) - 1)))]), (4, .val false [.lit (.bool false)]), (2, .adr (.box 2) [(0, 0)] 2 0)], [(7, (Vrow.row v9)), (2, (CV.frzRow (Vtab.row x0)))]⟩ (by kernel_rfl) ?_
                          rw [h7]
                          refine AT.runU tOk [(5, []), (6, [8, 15]), (7, [])] 36 [⟨[8, 15], 3, 46, 47⟩, ⟨[2, 8, 15], 3, 41, 42⟩] [7, 6, 5, 4, 3, 2, 1, 0] rfl (by kernel_rfl) (fun cx => ?_)
                          refine AT.big1 tOk 8 (by kernel_rfl) (by kernel_rfl) ?_
                          refine LAt.callU tOk [.rd, .rd, .rd] (f := 76) (av := #[.tmp 47, .const (.int .i64 0), .tmp 48]) (ats := #[3, 3, 3]) (d := (some 49)) (ty := 4) (g := (some (4, false))) (by kernel_rfl) (by kernel_rfl) (by kernel_rfl) [] (spec_l1In n v9.Members 0 (IntKind.wrap .i64 ((IntKind.wrap .i64 (1 * 2 ^ min (((IntKind.wrap .u64 x1) : Int)).toNat (IntKind.bits .i64))) - 1)) r11 er11) (by kernel_rfl) (.inl rfl) ?_
                          refine LAt.fin (by kernel_rfl) (And.intro (And.intro (by kernel_rfl) (by kernel_rfl)) ?_)
                          refine AT.runU tOk [(9, []), (10, []), (11, [])] 32 [⟨[8, 15], 3, 46, 47⟩, ⟨[2, 8, 15], 3, 41, 42⟩] [11, 10, 9, 8, 7, 6, 5, 4, 3, 2, 1, 0] rfl (by kernel_rfl) (fun cx => ?_)
                          refine AT.to ⟨100, 0, [(52, .val false [.lit (.bool (!r11))]), (51, .val false [.lit (.bool (!r11))]), (50, .val false [.lit (.bool (!r11))]), (49, .val false [.lit (.bool r11)]), (48, .val false [.lit (.int .i64 (IntKind.wrap .i64 ((IntKind.wrap .i64 (1 * 2 ^ min (((IntKind.wrap .u64 x1) : Int)).toNat (IntKind.bits .i64))) - 1)))]), (47, .val false [.lit (.int .i64 v9.Members)]), (46, .adr (.box 7) [(0, 0)] 3 1), (45, .val false [.lit (.bool false)]), (44, .val false [.lit (.bool false)]), (43, .val false [.lit (.bool r10)]), (42, .val false [.lit (.int .i64 v9.Id)]), (41, .adr (.box 7) [(0, 0)] 3 0), (7, .adr (.box 7) [(0, 0)] 3 0), (40, .val true (Vrow.row v9)), (39, .fad ((Vrow.row v9))), (38, .val false [.lit (.int .i64 y3)]), (37, .val false [.sl false 3 (CV.frzEs (x0.Rows.map Vrow.row))]), (36, .adr (.box 2) [(0, 0)] 2 0), (33, .val false [.lit (.bool true)]), (32, .val false [.lit (.int .i64 (x0.Rows.length : Int))]), (31, .val false [.sl false 3 (CV.frzEs (x0.Rows.map Vrow.row))]), (30, .adr (.box 2) [(0, 0)] 2 0), (29, .val false [.lit (.int .i64 y3)]), (6, .val false [.lit (.int .i64 y3)]), (5, .val false [.lit (.int .i64 (IntKind.wrap .i64 ((IntKind.wrap .i64 (1 * 2 ^ min (((IntKind.wrap .u64 x1) : Int)).toNat (IntKind.bits .i64))) - 1)))]), (4, .val false [.lit (.bool false)]), (2, .adr (.box 2) [(0, 0)] 2 0)], [(7, (Vrow.row v9)), (2, (CV.frzRow (Vtab.row x0)))]⟩ (by kernel_rfl) ?_
                          rw [h8]
                          refine AT.runU tOk [(12, []), (13, [15]), (14, [])] 29 [⟨[15], 3, 53, 54⟩, ⟨[8, 15], 3, 46, 47⟩, ⟨[2, 8, 15], 3, 41, 42⟩] [14, 13, 12, 11, 10, 9, 8, 7, 6, 5, 4, 3, 2, 1, 0] rfl (by kernel_rfl) (fun cx => ?_)
                          refine AT.big1 tOk 15 (by kernel_rfl) (by kernel_rfl) ?_
                          refine LAt.callU tOk [.rd, .rd, .rd] (f := 76) (av := #[.tmp 54, .const (.int .i64 0), .tmp 55]) (ats := #[3, 3, 3]) (d := (some 56)) (ty := 4) (g := (some (11, false))) (by kernel_rfl) (by kernel_rfl) (by kernel_rfl) [] (spec_l1In n v9.Bare 0 (IntKind.wrap .i64 ((IntKind.wrap .i64 (1 * 2 ^ min (((IntKind.wrap .u64 x1) : Int)).toNat (IntKind.bits .i64))) - 1)) r12 er12) (by kernel_rfl) (.inl rfl) ?_
                          refine LAt.fin (by kernel_rfl) (And.intro (And.intro (by kernel_rfl) (by kernel_rfl)) ?_)
                          refine AT.runU tOk [(16, []), (17, []), (18, [])] 25 [⟨[15], 3, 53, 54⟩, ⟨[8, 15], 3, 46, 47⟩, ⟨[2, 8, 15], 3, 41, 42⟩] [18, 17, 16, 15, 14, 13, 12, 11, 10, 9, 8, 7, 6, 5, 4, 3, 2, 1, 0] rfl (by kernel_rfl) (fun cx => ?_)
                          refine AT.to ⟨100, 0, [(59, .val false [.lit (.bool (!r12))]), (58, .val false [.lit (.bool (!r12))]), (57, .val false [.lit (.bool (!r12))]), (56, .val false [.lit (.bool r12)]), (55, .val false [.lit (.int .i64 (IntKind.wrap .i64 ((IntKind.wrap .i64 (1 * 2 ^ min (((IntKind.wrap .u64 x1) : Int)).toNat (IntKind.bits .i64))) - 1)))]), (54, .val false [.lit (.int .i64 v9.Bare)]), (53, .adr (.box 7) [(0, 0)] 3 2), (52, .val false [.lit (.bool false)]), (51, .val false [.lit (.bool false)]), (50, .val false [.lit (.bool false)]), (49, .val false [.lit (.bool r11)]), (48, .val false [.lit (.int .i64 (IntKind.wrap .i64 ((IntKind.wrap .i64 (1 * 2 ^ min (((IntKind.wrap .u64 x1) : Int)).toNat (IntKind.bits .i64))) - 1)))]), (47, .val false [.lit (.int .i64 v9.Members)]), (46, .adr (.box 7) [(0, 0)] 3 1), (45, .val false [.lit (.bool false)]), (44, .val false [.lit (.bool false)]), (43, .val false [.lit (.bool r10)]), (42, .val false [.lit (.int .i64 v9.Id)]), (41, .adr (.box 7) [(0, 0)] 3 0), (7, .adr (.box 7) [(0, 0)] 3 0), (40, .val true (Vrow.row v9)), (39, .fad ((Vrow.row v9))), (38, .val false [.lit (.int .i64 y3)]), (37, .val false [.sl false 3 (CV.frzEs (x0.Rows.map Vrow.row))]), (36, .adr (.box 2) [(0, 0)] 2 0), (33, .val false [.lit (.bool true)]), (32, .val false [.lit (.int .i64 (x0.Rows.length : Int))]), (31, .val false [.sl false 3 (CV.frzEs (x0.Rows.map Vrow.row))]), (30, .adr (.box 2) [(0, 0)] 2 0), (29, .val false [.lit (.int .i64 y3)]), (6, .val false [.lit (.int .i64 y3)]), (5, .val false [.lit (.int .i64 (IntKind.wrap .i64 ((IntKind.wrap .i64 (1 * 2 ^ min (((IntKind.wrap .u64 x1) : Int)).toNat (IntKind.bits .i64))) - 1)))]), (4, .val false [.lit (.bool false)]), (2, .adr (.box 2) [(0, 0)] 2 0)], [(7, (Vrow.row v9)), (2, (CV.frzRow (Vtab.row x0)))]⟩ (by kernel_rfl) ?_
                          rw [h9]
                          refine AT.runU tOk [(19, []), (20, []), (21, []), (22, []), (23, []), (24, []), (25, []), (26, []), (27, []), (28, [])] 15 [⟨[], 3, 65, 66⟩, ⟨[], 3, 62, 63⟩, ⟨[], 3, 60, 61⟩, ⟨[15], 3, 53, 54⟩, ⟨[8, 15], 3, 46, 47⟩, ⟨[2, 8, 15], 3, 41, 42⟩] [28, 27, 26, 25, 24, 23, 22, 21, 20, 19, 18, 17, 16, 15, 14, 13, 12, 11, 10, 9, 8, 7, 6, 5, 4, 3, 2, 1, 0] rfl (by kernel_rfl) (fun cx => ?_)
                          refine AT.to ⟨100, 0, [(69, .val false [.lit (.bool ((IntKind.wrap .i64 (BitVec.ofInt (IntKind.bits .i64) v9.Bare &&& BitVec.ofInt (IntKind.bits .i64) v9.Members).toNat) != v9.Bare))]), (68, .val false [.lit (.bool ((IntKind.wrap .i64 (BitVec.ofInt (IntKind.bits .i64) v9.Bare &&& BitVec.ofInt (IntKind.bits .i64) v9.Members).toNat) != v9.Bare))]), (67, .val false [.lit (.bool ((IntKind.wrap .i64 (BitVec.ofInt (IntKind.bits .i64) v9.Bare &&& BitVec.ofInt (IntKind.bits .i64) v9.Members).toNat) != v9.Bare))]), (66, .val false [.lit (.int .i64 v9.Bare)]), (65, .adr (.box 7) [(0, 0)] 3 2), (64, .val false [.lit (.int .i64 (IntKind.wrap .i64 (BitVec.ofInt (IntKind.bits .i64) v9.Bare &&& BitVec.ofInt (IntKind.bits .i64) v9.Members).toNat))]), (63, .val false [.lit (.int .i64 v9.Members)]), (62, .adr (.box 7) [(0, 0)] 3 1), (61, .val false [.lit (.int .i64 v9.Bare)]), (60, .adr (.box 7) [(0, 0)] 3 2), (59, .val false [.lit (.bool false)]), (58, .val false [.lit (.bool false)]), (57, .val false [.lit (.bool false)]), (56, .val false [.lit (.bool r12)]), (55, .val false [.lit (.int .i64 (IntKind.wrap .i64 ((IntKind.wrap .i64 (1 * 2 ^ min (((IntKind.wrap .u64 x1) : Int)).toNat (IntKind.bits .i64))) - 1)))]), (54, .val false [.lit (.int .i64 v9.Bare)]), (53, .adr (.box 7) [(0, 0)] 3 2), (52, .val false [.lit (.bool false)]), (51, .val false [.lit (.bool false)]), (50, .val false [.lit (.bool false)]), (49, .val false [.lit (.bool r11)]), (48, .val false [.lit (.int .i64 (IntKind.wrap .i64 ((IntKind.wrap .i64 (1 * 2 ^ min (((IntKind.wrap .u64 x1) : Int)).toNat (IntKind.bits .i64))) - 1)))]), (47, .val false [.lit (.int .i64 v9.Members)]), (46, .adr (.box 7) [(0, 0)] 3 1), (45, .val false [.lit (.bool false)]), (44, .val false [.lit (.bool false)]), (43, .val false [.lit (.bool r10)]), (42, .val false [.lit (.int .i64 v9.Id)]), (41, .adr (.box 7) [(0, 0)] 3 0), (7, .adr (.box 7) [(0, 0)] 3 0), (40, .val true (Vrow.row v9)), (39, .fad ((Vrow.row v9))), (38, .val false [.lit (.int .i64 y3)]), (37, .val false [.sl false 3 (CV.frzEs (x0.Rows.map Vrow.row))]), (36, .adr (.box 2) [(0, 0)] 2 0), (33, .val false [.lit (.bool true)]), (32, .val false [.lit (.int .i64 (x0.Rows.length : Int))]), (31, .val false [.sl false 3 (CV.frzEs (x0.Rows.map Vrow.row))]), (30, .adr (.box 2) [(0, 0)] 2 0), (29, .val false [.lit (.int .i64 y3)]), (6, .val false [.lit (.int .i64 y3)]), (5, .val false [.lit (.int .i64 (IntKind.wrap .i64 ((IntKind.wrap .i64 (1 * 2 ^ min (((IntKind.wrap .u64 x1) : Int)).toNat (IntKind.bits .i64))) - 1)))]), (4, .val false [.lit (.bool false)]), (2, .adr (.box 2) [(0, 0)] 2 0)], [(7, (Vrow.row v9)), (2, (CV.frzRow (Vtab.row x0)))]⟩ (by kernel_rfl) ?_
                          rw [h10]
                          refine AT.runU tOk [(29, []), (30, []), (31, [])] 12 [⟨[], 3, 65, 66⟩, ⟨[], 3, 62, 63⟩, ⟨[], 3, 60, 61⟩, ⟨[15], 3, 53, 54⟩, ⟨[8, 15], 3, 46, 47⟩, ⟨[2, 8, 15], 3, 41, 42⟩] [31, 30, 29, 28, 27, 26, 25, 24, 23, 22, 21, 20, 19, 18, 17, 16, 15, 14, 13, 12, 11, 10, 9, 8, 7, 6, 5, 4, 3, 2, 1, 0] rfl (by kernel_rfl) (fun cx => ?_)
                          refine AT.to ⟨100, 0, [(72, .val false [.lit (.bool (decide (y3 > 0)))]), (71, .val false [.lit (.bool (decide (y3 > 0)))]), (70, .val false [.lit (.int .i64 y3)]), (69, .val false [.lit (.bool false)]), (68, .val false [.lit (.bool false)]), (67, .val false [.lit (.bool false)]), (66, .val false [.lit (.int .i64 v9.Bare)]), (65, .adr (.box 7) [(0, 0)] 3 2), (64, .val false [.lit (.int .i64 (IntKind.wrap .i64 (BitVec.ofInt (IntKind.bits .i64) v9.Bare &&& BitVec.ofInt (IntKind.bits .i64) v9.Members).toNat))]), (63, .val false [.lit (.int .i64 v9.Members)]), (62, .adr (.box 7) [(0, 0)] 3 1), (61, .val false [.lit (.int .i64 v9.Bare)]), (60, .adr (.box 7) [(0, 0)] 3 2), (59, .val false [.lit (.bool false)]), (58, .val false [.lit (.bool false)]), (57, .val false [.lit (.bool false)]), (56, .val false [.lit (.bool r12)]), (55, .val false [.lit (.int .i64 (IntKind.wrap .i64 ((IntKind.wrap .i64 (1 * 2 ^ min (((IntKind.wrap .u64 x1) : Int)).toNat (IntKind.bits .i64))) - 1)))]), (54, .val false [.lit (.int .i64 v9.Bare)]), (53, .adr (.box 7) [(0, 0)] 3 2), (52, .val false [.lit (.bool false)]), (51, .val false [.lit (.bool false)]), (50, .val false [.lit (.bool false)]), (49, .val false [.lit (.bool r11)]), (48, .val false [.lit (.int .i64 (IntKind.wrap .i64 ((IntKind.wrap .i64 (1 * 2 ^ min (((IntKind.wrap .u64 x1) : Int)).toNat (IntKind.bits .i64))) - 1)))]), (47, .val false [.lit (.int .i64 v9.Members)]), (46, .adr (.box 7) [(0, 0)] 3 1), (45, .val false [.lit (.bool false)]), (44, .val false [.lit (.bool false)]), (43, .val false [.lit (.bool r10)]), (42, .val false [.lit (.int .i64 v9.Id)]), (41, .adr (.box 7) [(0, 0)] 3 0), (7, .adr (.box 7) [(0, 0)] 3 0), (40, .val true (Vrow.row v9)), (39, .fad ((Vrow.row v9))), (38, .val false [.lit (.int .i64 y3)]), (37, .val false [.sl false 3 (CV.frzEs (x0.Rows.map Vrow.row))]), (36, .adr (.box 2) [(0, 0)] 2 0), (33, .val false [.lit (.bool true)]), (32, .val false [.lit (.int .i64 (x0.Rows.length : Int))]), (31, .val false [.sl false 3 (CV.frzEs (x0.Rows.map Vrow.row))]), (30, .adr (.box 2) [(0, 0)] 2 0), (29, .val false [.lit (.int .i64 y3)]), (6, .val false [.lit (.int .i64 y3)]), (5, .val false [.lit (.int .i64 (IntKind.wrap .i64 ((IntKind.wrap .i64 (1 * 2 ^ min (((IntKind.wrap .u64 x1) : Int)).toNat (IntKind.bits .i64))) - 1)))]), (4, .val false [.lit (.bool false)]), (2, .adr (.box 2) [(0, 0)] 2 0)], [(7, (Vrow.row v9)), (2, (CV.frzRow (Vtab.row x0)))]⟩ (by kernel_rfl) ?_
                          rw [h11]
                          refine AT.runU tOk [(32, []), (33, []), (34, []), (35, [])] 8 [⟨[], 27, 73, 74⟩, ⟨[], 3, 65, 66⟩, ⟨[], 3, 62, 63⟩, ⟨[], 3, 60, 61⟩, ⟨[15], 3, 53, 54⟩, ⟨[8, 15], 3, 46, 47⟩, ⟨[2, 8, 15], 3, 41, 42⟩] [35, 34, 33, 32, 31, 30, 29, 28, 27, 26, 25, 24, 23, 22, 21, 20, 19, 18, 17, 16, 15, 14, 13, 12, 11, 10, 9, 8, 7, 6, 5, 4, 3, 2, 1, 0] rfl (by kernel_rfl) (fun cx => ?_)
                          refine AT.indexF tOk 36 (t := 27) (ty := 0) (x := (.tmp 74)) (y := (.tmp 76)) (d := 77) (g := (some (31, true))) ⟨(.box 2), [(0, 0)], 0, false, 3, (CV.frzEs (x0.Rows.map Vrow.row))⟩ (IntKind.wrap .i64 (y3 - 1)) (Vrow.row v13) _ (by kernel_rfl) (by kernel_rfl) (by kernel_rfl) (by kernel_rfl) (by kernel_rfl) (by kernel_rfl) rfl (idx_isF ev13) rfl (fun cx => ?_)
                          refine AT.runU tOk [(37, []), (38, []), (39, []), (40, []), (41, []), (42, []), (43, [])] 0 [⟨[], 3, 80, 81⟩, ⟨[], 27, 73, 74⟩, ⟨[], 3, 65, 66⟩, ⟨[], 3, 62, 63⟩, ⟨[], 3, 60, 61⟩, ⟨[15], 3, 53, 54⟩, ⟨[8, 15], 3, 46, 47⟩, ⟨[2, 8, 15], 3, 41, 42⟩] [43, 42, 41, 40, 39, 38, 37, 36, 35, 34, 33, 32, 31, 30, 29, 28, 27, 26, 25, 24, 23, 22, 21, 20, 19, 18, 17, 16, 15, 14, 13, 12, 11, 10, 9, 8, 7, 6, 5, 4, 3, 2, 1, 0] rfl (by kernel_rfl) (fun cx => ?_)
                          exact AT.done [84, 83, 82, 81, 80, 79, 78, 77, 76, 75, 74, 73, 72, 71, 70, 69, 68, 67, 66, 65, 64, 63, 62, 61, 60, 59, 58, 57, 56, 55, 54, 53, 52, 51, 50, 49, 48, 47, 46, 45, 44, 43, 42, 41, 7, 40, 39, 38, 37, 36, 33, 32, 31, 30, 29, 6, 5, 4, 2] [7, 2] _ (by kernel_rfl) (by kernel_rfl) rfl
                        · refine Tr.to ⟨100, 0, [(84, .val false [.lit (.bool (decide (v13.Id ≥ v9.Id)))]), (83, .val false [.lit (.bool (decide (v13.Id ≥ v9.Id)))]), (82, .val false [.lit (.bool (decide (v13.Id ≥ v9.Id)))]), (81, .val false [.lit (.int .i64 v9.Id)]), (80, .adr (.box 7) [(0, 0)] 3 0), (79, .val false [.lit (.int .i64 v13.Id)]), (78, .fad ((Vrow.row v13))), (77, .fad ((Vrow.row v13))), (76, .val false [.lit (.int .i64 (IntKind.wrap .i64 (y3 - 1)))]), (75, .val false [.lit (.int .i64 y3)]), (74, .ref (.box 2) [(0, 0)] 2 0 1 false), (73, .adr (.box 2) [(0, 0)] 2 0), (72, .val false [.lit (.bool true)]), (71, .val false [.lit (.bool true)]), (70, .val false [.lit (.int .i64 y3)]), (69, .val false [.lit (.bool false)]), (68, .val false [.lit (.bool false)]), (67, .val false [.lit (.bool false)]), (66, .val false [.lit (.int .i64 v9.Bare)]), (65, .adr (.box 7) [(0, 0)] 3 2), (64, .val false [.lit (.int .i64 (IntKind.wrap .i64 (BitVec.ofInt (IntKind.bits .i64) v9.Bare &&& BitVec.ofInt (IntKind.bits .i64) v9.Members).toNat))]), (63, .val false [.lit (.int .i64 v9.Members)]), (62, .adr (.box 7) [(0, 0)] 3 1), (61, .val false [.lit (.int .i64 v9.Bare)]), (60, .adr (.box 7) [(0, 0)] 3 2), (59, .val false [.lit (.bool false)]), (58, .val false [.lit (.bool false)]), (57, .val false [.lit (.bool false)]), (56, .val false [.lit (.bool r12)]), (55, .val false [.lit (.int .i64 (IntKind.wrap .i64 ((IntKind.wrap .i64 (1 * 2 ^ min (((IntKind.wrap .u64 x1) : Int)).toNat (IntKind.bits .i64))) - 1)))]), (54, .val false [.lit (.int .i64 v9.Bare)]), (53, .adr (.box 7) [(0, 0)] 3 2), (52, .val false [.lit (.bool false)]), (51, .val false [.lit (.bool false)]), (50, .val false [.lit (.bool false)]), (49, .val false [.lit (.bool r11)]), (48, .val false [.lit (.int .i64 (IntKind.wrap .i64 ((IntKind.wrap .i64 (1 * 2 ^ min (((IntKind.wrap .u64 x1) : Int)).toNat (IntKind.bits .i64))) - 1)))]), (47, .val false [.lit (.int .i64 v9.Members)]), (46, .adr (.box 7) [(0, 0)] 3 1), (45, .val false [.lit (.bool false)]), (44, .val false [.lit (.bool false)]), (43, .val false [.lit (.bool r10)]), (42, .val false [.lit (.int .i64 v9.Id)]), (41, .adr (.box 7) [(0, 0)] 3 0), (7, .adr (.box 7) [(0, 0)] 3 0), (40, .val true (Vrow.row v9)), (39, .fad ((Vrow.row v9))), (38, .val false [.lit (.int .i64 y3)]), (37, .val false [.sl false 3 (CV.frzEs (x0.Rows.map Vrow.row))]), (36, .adr (.box 2) [(0, 0)] 2 0), (33, .val false [.lit (.bool true)]), (32, .val false [.lit (.int .i64 (x0.Rows.length : Int))]), (31, .val false [.sl false 3 (CV.frzEs (x0.Rows.map Vrow.row))]), (30, .adr (.box 2) [(0, 0)] 2 0), (29, .val false [.lit (.int .i64 y3)]), (6, .val false [.lit (.int .i64 y3)]), (5, .val false [.lit (.int .i64 (IntKind.wrap .i64 ((IntKind.wrap .i64 (1 * 2 ^ min (((IntKind.wrap .u64 x1) : Int)).toNat (IntKind.bits .i64))) - 1)))]), (4, .val false [.lit (.bool false)]), (2, .adr (.box 2) [(0, 0)] 2 0)], [(7, (Vrow.row v9)), (2, (CV.frzRow (Vtab.row x0)))]⟩ (by kernel_rfl) ?_
                          cases h12 : (decide (v13.Id ≥ v9.Id))
                          · have H := bifF h12 H
                            refine Tr.cond (b := false) (by kernel_rfl) (fun h => nomatch h) (fun _ => ?_)
                            refine Tr.skip ?_
                            show Tr _ _ _ _ _
                            refine Tr.at ?_
                            refine LAt.runU tOk 3 (by kernel_rfl) ?_
                            refine LAt.doneU [6, 35, 34, 84, 83, 82, 81, 80, 79, 78, 77, 76, 75, 74, 73, 72, 71, 70, 69, 68, 67, 66, 65, 64, 63, 62, 61, 60, 59, 58, 57, 56, 55, 54, 53, 52, 51, 50, 49, 48, 47, 46, 45, 44, 43, 42, 41, 7, 40, 39, 38, 37, 36, 33, 32, 31, 30, 29, 5, 4, 2] [7, 2] (by kernel_rfl) ?_
                            exact Exists.intro (mo8, (IntKind.wrap .i64 (y3 + 1))) (And.intro H (And.intro (Nat.lt_succ_self mo8) (St.sub_of [6, 5, 4, 2] [2] (by kernel_rfl))))
                          · have H := bifT h12 H
                            refine Tr.cond (b := true) (by kernel_rfl) (fun _ => ?_) (fun h => nomatch h)
                            refine Tr.rs ?_
                            refine LAt.runU tOk 1 (by kernel_rfl) ?_
                            refine LAt.doneU [4, 84, 83, 82, 81, 80, 79, 78, 77, 76, 75, 74, 73, 72, 71, 70, 69, 68, 67, 66, 65, 64, 63, 62, 61, 60, 59, 58, 57, 56, 55, 54, 53, 52, 51, 50, 49, 48, 47, 46, 45, 44, 43, 42, 41, 7, 40, 39, 38, 37, 36, 33, 32, 31, 30, 29, 6, 5, 2] [7, 2] (by kernel_rfl) ?_
                            refine Tr.ret ?_
                            have H := Option.some.inj H
                            subst H
                            have H := Ho8
                            dsimp only at H
                            have H := Option.some.inj H
                            subst H
                            exact Fin.of _ [(false, [.lit (.bool false)])] (by kernel_rfl) rfl rfl
                    · have H := bifT h10 H
                      refine Tr.draws mixed 44 (by kernel_rfl) ⟨100, 0, [(84, .val false [.lit (.bool true)]), (83, .tup []), (82, .tup []), (81, .tup []), (80, .tup []), (79, .tup []), (78, .tup []), (77, .tup []), (76, .tup []), (75, .tup []), (74, .tup []), (73, .tup []), (72, .tup []), (71, .tup []), (70, .tup []), (69, .val false [.lit (.bool true)]), (68, .val false [.lit (.bool true)]), (67, .val false [.lit (.bool true)]), (66, .val false [.lit (.int .i64 v9.Bare)]), (65, .adr (.box 7) [(0, 0)] 3 2), (64, .val false [.lit (.int .i64 (IntKind.wrap .i64 (BitVec.ofInt (IntKind.bits .i64) v9.Bare &&& BitVec.ofInt (IntKind.bits .i64) v9.Members).toNat))]), (63, .val false [.lit (.int .i64 v9.Members)]), (62, .adr (.box 7) [(0, 0)] 3 1), (61, .val false [.lit (.int .i64 v9.Bare)]), (60, .adr (.box 7) [(0, 0)] 3 2), (59, .val false [.lit (.bool false)]), (58, .val false [.lit (.bool false)]), (57, .val false [.lit (.bool false)]), (56, .val false [.lit (.bool r12)]), (55, .val false [.lit (.int .i64 (IntKind.wrap .i64 ((IntKind.wrap .i64 (1 * 2 ^ min (((IntKind.wrap .u64 x1) : Int)).toNat (IntKind.bits .i64))) - 1)))]), (54, .val false [.lit (.int .i64 v9.Bare)]), (53, .adr (.box 7) [(0, 0)] 3 2), (52, .val false [.lit (.bool false)]), (51, .val false [.lit (.bool false)]), (50, .val false [.lit (.bool false)]), (49, .val false [.lit (.bool r11)]), (48, .val false [.lit (.int .i64 (IntKind.wrap .i64 ((IntKind.wrap .i64 (1 * 2 ^ min (((IntKind.wrap .u64 x1) : Int)).toNat (IntKind.bits .i64))) - 1)))]), (47, .val false [.lit (.int .i64 v9.Members)]), (46, .adr (.box 7) [(0, 0)] 3 1), (45, .val false [.lit (.bool false)]), (44, .val false [.lit (.bool false)]), (43, .val false [.lit (.bool r10)]), (42, .val false [.lit (.int .i64 v9.Id)]), (41, .adr (.box 7) [(0, 0)] 3 0), (7, .adr (.box 7) [(0, 0)] 3 0), (40, .val true (Vrow.row v9)), (39, .fad ((Vrow.row v9))), (38, .val false [.lit (.int .i64 y3)]), (37, .val false [.sl false 3 (CV.frzEs (x0.Rows.map Vrow.row))]), (36, .adr (.box 2) [(0, 0)] 2 0), (33, .val false [.lit (.bool true)]), (32, .val false [.lit (.int .i64 (x0.Rows.length : Int))]), (31, .val false [.sl false 3 (CV.frzEs (x0.Rows.map Vrow.row))]), (30, .adr (.box 2) [(0, 0)] 2 0), (29, .val false [.lit (.int .i64 y3)]), (6, .val false [.lit (.int .i64 y3)]), (5, .val false [.lit (.int .i64 (IntKind.wrap .i64 ((IntKind.wrap .i64 (1 * 2 ^ min (((IntKind.wrap .u64 x1) : Int)).toNat (IntKind.bits .i64))) - 1)))]), (4, .val false [.lit (.bool false)]), (2, .adr (.box 2) [(0, 0)] 2 0)], [(7, (Vrow.row v9)), (2, (CV.frzRow (Vtab.row x0)))]⟩ (fun cx => ?_) ?_
                      · refine AT.runU tOk [(0, []), (1, [2, 8, 15])] 42 [⟨[2, 8, 15], 3, 41, 42⟩] [1, 0] rfl (by kernel_rfl) (fun cx => ?_)
                        refine AT.big1 tOk 2 (by kernel_rfl) (by kernel_rfl) ?_
                        refine LAt.callU tOk [.rd, .rd, .rd] (f := 76) (av := #[.tmp 42, .const (.int .i64 1), .const (.int .i64 99)]) (ats := #[3, 3, 3]) (d := (some 43)) (ty := 4) (g := none) (by kernel_rfl) (by kernel_rfl) (by kernel_rfl) [] (spec_l1In n v9.Id 1 99 r10 er10) (by kernel_rfl) (.inl rfl) ?_
                        refine LAt.fin (by kernel_rfl) (And.intro (And.intro (by kernel_rfl) (by kernel_rfl)) ?_)
                        refine AT.runU tOk [(3, []), (4, [])] 39 [⟨[2, 8, 15], 3, 41, 42⟩] [4, 3, 2, 1, 0] rfl (by kernel_rfl) (fun cx => ?_)
                        refine AT.to ⟨100, 0, [(45, .val false [.lit (.bool (!r10))]), (44, .val false [.lit (.bool (!r10))]), (43, .val false [.lit (.bool r10)]), (42, .val false [.lit (.int .i64 v9.Id)]), (41, .adr (.box 7) [(0, 0)] 3 0), (7, .adr (.box 7) [(0, 0)] 3 0), (40, .val true (Vrow.row v9)), (39, .fad ((Vrow.row v9))), (38, .val false [.lit (.int .i64 y3)]), (37, .val false [.sl false 3 (CV.frzEs (x0.Rows.map Vrow.row))]), (36, .adr (.box 2) [(0, 0)] 2 0), (33, .val false [.lit (.bool true)]), (32, .val false [.lit (.int .i64 (x0.Rows.length : Int))]), (31, .val false [.sl false 3 (CV.frzEs (x0.Rows.map Vrow.row))]), (30, .adr (.box 2) [(0, 0)] 2 0), (29, .val false [.lit (.int .i64 y3)]), (6, .val false [.lit (.int .i64 y3)]), (5, .val false [.lit (.int .i64 (IntKind.wrap .i64 ((IntKind.wrap .i64 (1 * 2 ^ min (((IntKind.wrap .u64 x1) : Int)).toNat (IntKind.bits .i64))) - 1)))]), (4, .val false [.lit (.bool false)]), (2, .adr (.box 2) [(0, 0)] 2 0)], [(7, (Vrow.row v9)), (2, (CV.frzRow (Vtab.row x0)))]⟩ (by kernel_rfl) ?_
                        rw [h7]
                        refine AT.runU tOk [(5, []), (6, [8, 15]), (7, [])] 36 [⟨[8, 15], 3, 46, 47⟩, ⟨[2, 8, 15], 3, 41, 42⟩] [7, 6, 5, 4, 3, 2, 1, 0] rfl (by kernel_rfl) (fun cx => ?_)
                        refine AT.big1 tOk 8 (by kernel_rfl) (by kernel_rfl) ?_
                        refine LAt.callU tOk [.rd, .rd, .rd] (f := 76) (av := #[.tmp 47, .const (.int .i64 0), .tmp 48]) (ats := #[3, 3, 3]) (d := (some 49)) (ty := 4) (g := (some (4, false))) (by kernel_rfl) (by kernel_rfl) (by kernel_rfl) [] (spec_l1In n v9.Members 0 (IntKind.wrap .i64 ((IntKind.wrap .i64 (1 * 2 ^ min (((IntKind.wrap .u64 x1) : Int)).toNat (IntKind.bits .i64))) - 1)) r11 er11) (by kernel_rfl) (.inl rfl) ?_
                        refine LAt.fin (by kernel_rfl) (And.intro (And.intro (by kernel_rfl) (by kernel_rfl)) ?_)
                        refine AT.runU tOk [(9, []), (10, []), (11, [])] 32 [⟨[8, 15], 3, 46, 47⟩, ⟨[2, 8, 15], 3, 41, 42⟩] [11, 10, 9, 8, 7, 6, 5, 4, 3, 2, 1, 0] rfl (by kernel_rfl) (fun cx => ?_)
                        refine AT.to ⟨100, 0, [(52, .val false [.lit (.bool (!r11))]), (51, .val false [.lit (.bool (!r11))]), (50, .val false [.lit (.bool (!r11))]), (49, .val false [.lit (.bool r11)]), (48, .val false [.lit (.int .i64 (IntKind.wrap .i64 ((IntKind.wrap .i64 (1 * 2 ^ min (((IntKind.wrap .u64 x1) : Int)).toNat (IntKind.bits .i64))) - 1)))]), (47, .val false [.lit (.int .i64 v9.Members)]), (46, .adr (.box 7) [(0, 0)] 3 1), (45, .val false [.lit (.bool false)]), (44, .val false [.lit (.bool false)]), (43, .val false [.lit (.bool r10)]), (42, .val false [.lit (.int .i64 v9.Id)]), (41, .adr (.box 7) [(0, 0)] 3 0), (7, .adr (.box 7) [(0, 0)] 3 0), (40, .val true (Vrow.row v9)), (39, .fad ((Vrow.row v9))), (38, .val false [.lit (.int .i64 y3)]), (37, .val false [.sl false 3 (CV.frzEs (x0.Rows.map Vrow.row))]), (36, .adr (.box 2) [(0, 0)] 2 0), (33, .val false [.lit (.bool true)]), (32, .val false [.lit (.int .i64 (x0.Rows.length : Int))]), (31, .val false [.sl false 3 (CV.frzEs (x0.Rows.map Vrow.row))]), (30, .adr (.box 2) [(0, 0)] 2 0), (29, .val false [.lit (.int .i64 y3)]), (6, .val false [.lit (.int .i64 y3)]), (5, .val false [.lit (.int .i64 (IntKind.wrap .i64 ((IntKind.wrap .i64 (1 * 2 ^ min (((IntKind.wrap .u64 x1) : Int)).toNat (IntKind.bits .i64))) - 1)))]), (4, .val false [.lit (.bool false)]), (2, .adr (.box 2) [(0, 0)] 2 0)], [(7, (Vrow.row v9)), (2, (CV.frzRow (Vtab.row x0)))]⟩ (by kernel_rfl) ?_
                        rw [h8]
                        refine AT.runU tOk [(12, []), (13, [15]), (14, [])] 29 [⟨[15], 3, 53, 54⟩, ⟨[8, 15], 3, 46, 47⟩, ⟨[2, 8, 15], 3, 41, 42⟩] [14, 13, 12, 11, 10, 9, 8, 7, 6, 5, 4, 3, 2, 1, 0] rfl (by kernel_rfl) (fun cx => ?_)
                        refine AT.big1 tOk 15 (by kernel_rfl) (by kernel_rfl) ?_
                        refine LAt.callU tOk [.rd, .rd, .rd] (f := 76) (av := #[.tmp 54, .const (.int .i64 0), .tmp 55]) (ats := #[3, 3, 3]) (d := (some 56)) (ty := 4) (g := (some (11, false))) (by kernel_rfl) (by kernel_rfl) (by kernel_rfl) [] (spec_l1In n v9.Bare 0 (IntKind.wrap .i64 ((IntKind.wrap .i64 (1 * 2 ^ min (((IntKind.wrap .u64 x1) : Int)).toNat (IntKind.bits .i64))) - 1)) r12 er12) (by kernel_rfl) (.inl rfl) ?_
                        refine LAt.fin (by kernel_rfl) (And.intro (And.intro (by kernel_rfl) (by kernel_rfl)) ?_)
                        refine AT.runU tOk [(16, []), (17, []), (18, [])] 25 [⟨[15], 3, 53, 54⟩, ⟨[8, 15], 3, 46, 47⟩, ⟨[2, 8, 15], 3, 41, 42⟩] [18, 17, 16, 15, 14, 13, 12, 11, 10, 9, 8, 7, 6, 5, 4, 3, 2, 1, 0] rfl (by kernel_rfl) (fun cx => ?_)
                        refine AT.to ⟨100, 0, [(59, .val false [.lit (.bool (!r12))]), (58, .val false [.lit (.bool (!r12))]), (57, .val false [.lit (.bool (!r12))]), (56, .val false [.lit (.bool r12)]), (55, .val false [.lit (.int .i64 (IntKind.wrap .i64 ((IntKind.wrap .i64 (1 * 2 ^ min (((IntKind.wrap .u64 x1) : Int)).toNat (IntKind.bits .i64))) - 1)))]), (54, .val false [.lit (.int .i64 v9.Bare)]), (53, .adr (.box 7) [(0, 0)] 3 2), (52, .val false [.lit (.bool false)]), (51, .val false [.lit (.bool false)]), (50, .val false [.lit (.bool false)]), (49, .val false [.lit (.bool r11)]), (48, .val false [.lit (.int .i64 (IntKind.wrap .i64 ((IntKind.wrap .i64 (1 * 2 ^ min (((IntKind.wrap .u64 x1) : Int)).toNat (IntKind.bits .i64))) - 1)))]), (47, .val false [.lit (.int .i64 v9.Members)]), (46, .adr (.box 7) [(0, 0)] 3 1), (45, .val false [.lit (.bool false)]), (44, .val false [.lit (.bool false)]), (43, .val false [.lit (.bool r10)]), (42, .val false [.lit (.int .i64 v9.Id)]), (41, .adr (.box 7) [(0, 0)] 3 0), (7, .adr (.box 7) [(0, 0)] 3 0), (40, .val true (Vrow.row v9)), (39, .fad ((Vrow.row v9))), (38, .val false [.lit (.int .i64 y3)]), (37, .val false [.sl false 3 (CV.frzEs (x0.Rows.map Vrow.row))]), (36, .adr (.box 2) [(0, 0)] 2 0), (33, .val false [.lit (.bool true)]), (32, .val false [.lit (.int .i64 (x0.Rows.length : Int))]), (31, .val false [.sl false 3 (CV.frzEs (x0.Rows.map Vrow.row))]), (30, .adr (.box 2) [(0, 0)] 2 0), (29, .val false [.lit (.int .i64 y3)]), (6, .val false [.lit (.int .i64 y3)]), (5, .val false [.lit (.int .i64 (IntKind.wrap .i64 ((IntKind.wrap .i64 (1 * 2 ^ min (((IntKind.wrap .u64 x1) : Int)).toNat (IntKind.bits .i64))) - 1)))]), (4, .val false [.lit (.bool false)]), (2, .adr (.box 2) [(0, 0)] 2 0)], [(7, (Vrow.row v9)), (2, (CV.frzRow (Vtab.row x0)))]⟩ (by kernel_rfl) ?_
                        rw [h9]
                        refine AT.runU tOk [(19, []), (20, []), (21, []), (22, []), (23, []), (24, []), (25, []), (26, []), (27, []), (28, [])] 15 [⟨[], 3, 65, 66⟩, ⟨[], 3, 62, 63⟩, ⟨[], 3, 60, 61⟩, ⟨[15], 3, 53, 54⟩, ⟨[8, 15], 3, 46, 47⟩, ⟨[2, 8, 15], 3, 41, 42⟩] [28, 27, 26, 25, 24, 23, 22, 21, 20, 19, 18, 17, 16, 15, 14, 13, 12, 11, 10, 9, 8, 7, 6, 5, 4, 3, 2, 1, 0] rfl (by kernel_rfl) (fun cx => ?_)
                        refine AT.to ⟨100, 0, [(69, .val false [.lit (.bool ((IntKind.wrap .i64 (BitVec.ofInt (IntKind.bits .i64) v9.Bare &&& BitVec.ofInt (IntKind.bits .i64) v9.Members).toNat) != v9.Bare))]), (68, .val false [.lit (.bool ((IntKind.wrap .i64 (BitVec.ofInt (IntKind.bits .i64) v9.Bare &&& BitVec.ofInt (IntKind.bits .i64) v9.Members).toNat) != v9.Bare))]), (67, .val false [.lit (.bool ((IntKind.wrap .i64 (BitVec.ofInt (IntKind.bits .i64) v9.Bare &&& BitVec.ofInt (IntKind.bits .i64) v9.Members).toNat) != v9.Bare))]), (66, .val false [.lit (.int .i64 v9.Bare)]), (65, .adr (.box 7) [(0, 0)] 3 2), (64, .val false [.lit (.int .i64 (IntKind.wrap .i64 (BitVec.ofInt (IntKind.bits .i64) v9.Bare &&& BitVec.ofInt (IntKind.bits .i64) v9.Members).toNat))]), (63, .val false [.lit (.int .i64 v9.Members)]), (62, .adr (.box 7) [(0, 0)] 3 1), (61, .val false [.lit (.int .i64 v9.Bare)]), (60, .adr (.box 7) [(0, 0)] 3 2), (59, .val false [.lit (.bool false)]), (58, .val false [.lit (.bool false)]), (57, .val false [.lit (.bool false)]), (56, .val false [.lit (.bool r12)]), (55, .val false [.lit (.int .i64 (IntKind.wrap .i64 ((IntKind.wrap .i64 (1 * 2 ^ min (((IntKind.wrap .u64 x1) : Int)).toNat (IntKind.bits .i64))) - 1)))]), (54, .val false [.lit (.int .i64 v9.Bare)]), (53, .adr (.box 7) [(0, 0)] 3 2), (52, .val false [.lit (.bool false)]), (51, .val false [.lit (.bool false)]), (50, .val false [.lit (.bool false)]), (49, .val false [.lit (.bool r11)]), (48, .val false [.lit (.int .i64 (IntKind.wrap .i64 ((IntKind.wrap .i64 (1 * 2 ^ min (((IntKind.wrap .u64 x1) : Int)).toNat (IntKind.bits .i64))) - 1)))]), (47, .val false [.lit (.int .i64 v9.Members)]), (46, .adr (.box 7) [(0, 0)] 3 1), (45, .val false [.lit (.bool false)]), (44, .val false [.lit (.bool false)]), (43, .val false [.lit (.bool r10)]), (42, .val false [.lit (.int .i64 v9.Id)]), (41, .adr (.box 7) [(0, 0)] 3 0), (7, .adr (.box 7) [(0, 0)] 3 0), (40, .val true (Vrow.row v9)), (39, .fad ((Vrow.row v9))), (38, .val false [.lit (.int .i64 y3)]), (37, .val false [.sl false 3 (CV.frzEs (x0.Rows.map Vrow.row))]), (36, .adr (.box 2) [(0, 0)] 2 0), (33, .val false [.lit (.bool true)]), (32, .val false [.lit (.int .i64 (x0.Rows.length : Int))]), (31, .val false [.sl false 3 (CV.frzEs (x0.Rows.map Vrow.row))]), (30, .adr (.box 2) [(0, 0)] 2 0), (29, .val false [.lit (.int .i64 y3)]), (6, .val false [.lit (.int .i64 y3)]), (5, .val false [.lit (.int .i64 (IntKind.wrap .i64 ((IntKind.wrap .i64 (1 * 2 ^ min (((IntKind.wrap .u64 x1) : Int)).toNat (IntKind.bits .i64))) - 1)))]), (4, .val false [.lit (.bool false)]), (2, .adr (.box 2) [(0, 0)] 2 0)], [(7, (Vrow.row v9)), (2, (CV.frzRow (Vtab.row x0)))]⟩ (by kernel_rfl) ?_
                        rw [h10]
                        refine AT.runU tOk [(29, []), (30, []), (31, []), (32, []), (33, []), (34, []), (35, []), (36, []), (37, []), (38, []), (39, []), (40, []), (41, []), (42, []), (43, [])] 0 [⟨[], 3, 65, 66⟩, ⟨[], 3, 62, 63⟩, ⟨[], 3, 60, 61⟩, ⟨[15], 3, 53, 54⟩, ⟨[8, 15], 3, 46, 47⟩, ⟨[2, 8, 15], 3, 41, 42⟩] [43, 42, 41, 40, 39, 38, 37, 36, 35, 34, 33, 32, 31, 30, 29, 28, 27, 26, 25, 24, 23, 22, 21, 20, 19, 18, 17, 16, 15, 14, 13, 12, 11, 10, 9, 8, 7, 6, 5, 4, 3, 2, 1, 0] rfl (by kernel_rfl) (fun cx => ?_)
                        exact AT.done [84, 83, 82, 81, 80, 79, 78, 77, 76, 75, 74, 73, 72, 71, 70, 69, 68, 67, 66, 65, 64, 63, 62, 61, 60, 59, 58, 57, 56, 55, 54, 53, 52, 51, 50, 49, 48, 47, 46, 45, 44, 43, 42, 41, 7, 40, 39, 38, 37, 36, 33, 32, 31, 30, 29, 6, 5, 4, 2] [7, 2] _ (by kernel_rfl) (by kernel_rfl) rfl
                      · refine Tr.cond (b := true) (by kernel_rfl) (fun _ => ?_) (fun h => nomatch h)
                        refine Tr.rs ?_
                        refine LAt.runU tOk 1 (by kernel_rfl) ?_
                        refine LAt.doneU [4, 84, 83, 82, 81, 80, 79, 78, 77, 76, 75, 74, 73, 72, 71, 70, 69, 68, 67, 66, 65, 64, 63, 62, 61, 60, 59, 58, 57, 56, 55, 54, 53, 52, 51, 50, 49, 48, 47, 46, 45, 44, 43, 42, 41, 7, 40, 39, 38, 37, 36, 33, 32, 31, 30, 29, 6, 5, 2] [7, 2] (by kernel_rfl) ?_
                        refine Tr.ret ?_
                        have H := Option.some.inj H
                        subst H
                        have H := Ho8
                        dsimp only at H
                        have H := Option.some.inj H
                        subst H
                        exact Fin.of _ [(false, [.lit (.bool false)])] (by kernel_rfl) rfl rfl
                  · have H := bifT h9 H
                    refine Tr.draws mixed 44 (by kernel_rfl) ⟨100, 0, [(84, .val false [.lit (.bool true)]), (83, .tup []), (82, .tup []), (81, .tup []), (80, .tup []), (79, .tup []), (78, .tup []), (77, .tup []), (76, .tup []), (75, .tup []), (74, .tup []), (73, .tup []), (72, .tup []), (71, .tup []), (70, .tup []), (69, .val false [.lit (.bool true)]), (68, .val false [.lit (.bool true)]), (67, .tup []), (66, .tup []), (65, .tup []), (64, .tup []), (63, .tup []), (62, .tup []), (61, .tup []), (60, .tup []), (59, .val false [.lit (.bool true)]), (58, .val false [.lit (.bool true)]), (57, .val false [.lit (.bool true)]), (56, .val false [.lit (.bool r12)]), (55, .val false [.lit (.int .i64 (IntKind.wrap .i64 ((IntKind.wrap .i64 (1 * 2 ^ min (((IntKind.wrap .u64 x1) : Int)).toNat (IntKind.bits .i64))) - 1)))]), (54, .val false [.lit (.int .i64 v9.Bare)]), (53, .adr (.box 7) [(0, 0)] 3 2), (52, .val false [.lit (.bool false)]), (51, .val false [.lit (.bool false)]), (50, .val false [.lit (.bool false)]), (49, .val false [.lit (.bool r11)]), (48, .val false [.lit (.int .i64 (IntKind.wrap .i64 ((IntKind.wrap .i64 (1 * 2 ^ min (((IntKind.wrap .u64 x1) : Int)).toNat (IntKind.bits .i64))) - 1)))]), (47, .val false [.lit (.int .i64 v9.Members)]), (46, .adr (.box 7) [(0, 0)] 3 1), (45, .val false [.lit (.bool false)]), (44, .val false [.lit (.bool false)]), (43, .val false [.lit (.bool r10)]), (42, .val false [.lit (.int .i64 v9.Id)]), (41, .adr (.box 7) [(0, 0)] 3 0), (7, .adr (.box 7) [(0, 0)] 3 0), (40, .val true (Vrow.row v9)), (39, .fad ((Vrow.row v9))), (38, .val false [.lit (.int .i64 y3)]), (37, .val false [.sl false 3 (CV.frzEs (x0.Rows.map Vrow.row))]), (36, .adr (.box 2) [(0, 0)] 2 0), (33, .val false [.lit (.bool true)]), (32, .val false [.lit (.int .i64 (x0.Rows.length : Int))]), (31, .val false [.sl false 3 (CV.frzEs (x0.Rows.map Vrow.row))]), (30, .adr (.box 2) [(0, 0)] 2 0), (29, .val false [.lit (.int .i64 y3)]), (6, .val false [.lit (.int .i64 y3)]), (5, .val false [.lit (.int .i64 (IntKind.wrap .i64 ((IntKind.wrap .i64 (1 * 2 ^ min (((IntKind.wrap .u64 x1) : Int)).toNat (IntKind.bits .i64))) - 1)))]), (4, .val false [.lit (.bool false)]), (2, .adr (.box 2) [(0, 0)] 2 0)], [(7, (Vrow.row v9)), (2, (CV.frzRow (Vtab.row x0)))]⟩ (fun cx => ?_) ?_
                    · refine AT.runU tOk [(0, []), (1, [2, 8, 15])] 42 [⟨[2, 8, 15], 3, 41, 42⟩] [1, 0] rfl (by kernel_rfl) (fun cx => ?_)
                      refine AT.big1 tOk 2 (by kernel_rfl) (by kernel_rfl) ?_
                      refine LAt.callU tOk [.rd, .rd, .rd] (f := 76) (av := #[.tmp 42, .const (.int .i64 1), .const (.int .i64 99)]) (ats := #[3, 3, 3]) (d := (some 43)) (ty := 4) (g := none) (by kernel_rfl) (by kernel_rfl) (by kernel_rfl) [] (spec_l1In n v9.Id 1 99 r10 er10) (by kernel_rfl) (.inl rfl) ?_
                      refine LAt.fin (by kernel_rfl) (And.intro (And.intro (by kernel_rfl) (by kernel_rfl)) ?_)
                      refine AT.runU tOk [(3, []), (4, [])] 39 [⟨[2, 8, 15], 3, 41, 42⟩] [4, 3, 2, 1, 0] rfl (by kernel_rfl) (fun cx => ?_)
                      refine AT.to ⟨100, 0, [(45, .val false [.lit (.bool (!r10))]), (44, .val false [.lit (.bool (!r10))]), (43, .val false [.lit (.bool r10)]), (42, .val false [.lit (.int .i64 v9.Id)]), (41, .adr (.box 7) [(0, 0)] 3 0), (7, .adr (.box 7) [(0, 0)] 3 0), (40, .val true (Vrow.row v9)), (39, .fad ((Vrow.row v9))), (38, .val false [.lit (.int .i64 y3)]), (37, .val false [.sl false 3 (CV.frzEs (x0.Rows.map Vrow.row))]), (36, .adr (.box 2) [(0, 0)] 2 0), (33, .val false [.lit (.bool true)]), (32, .val false [.lit (.int .i64 (x0.Rows.length : Int))]), (31, .val false [.sl false 3 (CV.frzEs (x0.Rows.map Vrow.row))]), (30, .adr (.box 2) [(0, 0)] 2 0), (29, .val false [.lit (.int .i64 y3)]), (6, .val false [.lit (.int .i64 y3)]), (5, .val false [.lit (.int .i64 (IntKind.wrap .i64 ((IntKind.wrap .i64 (1 * 2 ^ min (((IntKind.wrap .u64 x1) : Int)).toNat (IntKind.bits .i64))) - 1)))]), (4, .val false [.lit (.bool false)]), (2, .adr (.box 2) [(0, 0)] 2 0)], [(7, (Vrow.row v9)), (2, (CV.frzRow (Vtab.row x0)))]⟩ (by kernel_rfl) ?_
                      rw [h7]
                      refine AT.runU tOk [(5, []), (6, [8, 15]), (7, [])] 36 [⟨[8, 15], 3, 46, 47⟩, ⟨[2, 8, 15], 3, 41, 42⟩] [7, 6, 5, 4, 3, 2, 1, 0] rfl (by kernel_rfl) (fun cx => ?_)
                      refine AT.big1 tOk 8 (by kernel_rfl) (by kernel_rfl) ?_
                      refine LAt.callU tOk [.rd, .rd, .rd] (f := 76) (av := #[.tmp 47, .const (.int .i64 0), .tmp 48]) (ats := #[3, 3, 3]) (d := (some 49)) (ty := 4) (g := (some (4, false))) (by kernel_rfl) (by kernel_rfl) (by kernel_rfl) [] (spec_l1In n v9.Members 0 (IntKind.wrap .i64 ((IntKind.wrap .i64 (1 * 2 ^ min (((IntKind.wrap .u64 x1) : Int)).toNat (IntKind.bits .i64))) - 1)) r11 er11) (by kernel_rfl) (.inl rfl) ?_
                      refine LAt.fin (by kernel_rfl) (And.intro (And.intro (by kernel_rfl) (by kernel_rfl)) ?_)
                      refine AT.runU tOk [(9, []), (10, []), (11, [])] 32 [⟨[8, 15], 3, 46, 47⟩, ⟨[2, 8, 15], 3, 41, 42⟩] [11, 10, 9, 8, 7, 6, 5, 4, 3, 2, 1, 0] rfl (by kernel_rfl) (fun cx => ?_)
                      refine AT.to ⟨100, 0, [(52, .val false [.lit (.bool (!r11))]), (51, .val false [.lit (.bool (!r11))]), (50, .val false [.lit (.bool (!r11))]), (49, .val false [.lit (.bool r11)]), (48, .val false [.lit (.int .i64 (IntKind.wrap .i64 ((IntKind.wrap .i64 (1 * 2 ^ min (((IntKind.wrap .u64 x1) : Int)).toNat (IntKind.bits .i64))) - 1)))]), (47, .val false [.lit (.int .i64 v9.Members)]), (46, .adr (.box 7) [(0, 0)] 3 1), (45, .val false [.lit (.bool false)]), (44, .val false [.lit (.bool false)]), (43, .val false [.lit (.bool r10)]), (42, .val false [.lit (.int .i64 v9.Id)]), (41, .adr (.box 7) [(0, 0)] 3 0), (7, .adr (.box 7) [(0, 0)] 3 0), (40, .val true (Vrow.row v9)), (39, .fad ((Vrow.row v9))), (38, .val false [.lit (.int .i64 y3)]), (37, .val false [.sl false 3 (CV.frzEs (x0.Rows.map Vrow.row))]), (36, .adr (.box 2) [(0, 0)] 2 0), (33, .val false [.lit (.bool true)]), (32, .val false [.lit (.int .i64 (x0.Rows.length : Int))]), (31, .val false [.sl false 3 (CV.frzEs (x0.Rows.map Vrow.row))]), (30, .adr (.box 2) [(0, 0)] 2 0), (29, .val false [.lit (.int .i64 y3)]), (6, .val false [.lit (.int .i64 y3)]), (5, .val false [.lit (.int .i64 (IntKind.wrap .i64 ((IntKind.wrap .i64 (1 * 2 ^ min (((IntKind.wrap .u64 x1) : Int)).toNat (IntKind.bits .i64))) - 1)))]), (4, .val false [.lit (.bool false)]), (2, .adr (.box 2) [(0, 0)] 2 0)], [(7, (Vrow.row v9)), (2, (CV.frzRow (Vtab.row x0)))]⟩ (by kernel_rfl) ?_
                      rw [h8]
                      refine AT.runU tOk [(12, []), (13, [15]), (14, [])] 29 [⟨[15], 3, 53, 54⟩, ⟨[8, 15], 3, 46, 47⟩, ⟨[2, 8, 15], 3, 41, 42⟩] [14, 13, 12, 11, 10, 9, 8, 7, 6, 5, 4, 3, 2, 1, 0] rfl (by kernel_rfl) (fun cx => ?_)
                      refine AT.big1 tOk 15 (by kernel_rfl) (by kernel_rfl) ?_
                      refine LAt.callU tOk [.rd, .rd, .rd] (f := 76) (av := #[.tmp 54, .const (.int .i64 0), .tmp 55]) (ats := #[3, 3, 3]) (d := (some 56)) (ty := 4) (g := (some (11, false))) (by kernel_rfl) (by kernel_rfl) (by kernel_rfl) [] (spec_l1In n v9.Bare 0 (IntKind.wrap .i64 ((IntKind.wrap .i64 (1 * 2 ^ min (((IntKind.wrap .u64 x1) : Int)).toNat (IntKind.bits .i64))) - 1)) r12 er12) (by kernel_rfl) (.inl rfl) ?_
                      refine LAt.fin (by kernel_rfl) (And.intro (And.intro (by kernel_rfl) (by kernel_rfl)) ?_)
                      refine AT.runU tOk [(16, []), (17, []), (18, [])] 25 [⟨[15], 3, 53, 54⟩, ⟨[8, 15], 3, 46, 47⟩, ⟨[2, 8, 15], 3, 41, 42⟩] [18, 17, 16, 15, 14, 13, 12, 11, 10, 9, 8, 7, 6, 5, 4, 3, 2, 1, 0] rfl (by kernel_rfl) (fun cx => ?_)
                      refine AT.to ⟨100, 0, [(59, .val false [.lit (.bool (!r12))]), (58, .val false [.lit (.bool (!r12))]), (57, .val false [.lit (.bool (!r12))]), (56, .val false [.lit (.bool r12)]), (55, .val false [.lit (.int .i64 (IntKind.wrap .i64 ((IntKind.wrap .i64 (1 * 2 ^ min (((IntKind.wrap .u64 x1) : Int)).toNat (IntKind.bits .i64))) - 1)))]), (54, .val false [.lit (.int .i64 v9.Bare)]), (53, .adr (.box 7) [(0, 0)] 3 2), (52, .val false [.lit (.bool false)]), (51, .val false [.lit (.bool false)]), (50, .val false [.lit (.bool false)]), (49, .val false [.lit (.bool r11)]), (48, .val false [.lit (.int .i64 (IntKind.wrap .i64 ((IntKind.wrap .i64 (1 * 2 ^ min (((IntKind.wrap .u64 x1) : Int)).toNat (IntKind.bits .i64))) - 1)))]), (47, .val false [.lit (.int .i64 v9.Members)]), (46, .adr (.box 7) [(0, 0)] 3 1), (45, .val false [.lit (.bool false)]), (44, .val false [.lit (.bool false)]), (43, .val false [.lit (.bool r10)]), (42, .val false [.lit (.int .i64 v9.Id)]), (41, .adr (.box 7) [(0, 0)] 3 0), (7, .adr (.box 7) [(0, 0)] 3 0), (40, .val true (Vrow.row v9)), (39, .fad ((Vrow.row v9))), (38, .val false [.lit (.int .i64 y3)]), (37, .val false [.sl false 3 (CV.frzEs (x0.Rows.map Vrow.row))]), (36, .adr (.box 2) [(0, 0)] 2 0), (33, .val false [.lit (.bool true)]), (32, .val false [.lit (.int .i64 (x0.Rows.length : Int))]), (31, .val false [.sl false 3 (CV.frzEs (x0.Rows.map Vrow.row))]), (30, .adr (.box 2) [(0, 0)] 2 0), (29, .val false [.lit (.int .i64 y3)]), (6, .val false [.lit (.int .i64 y3)]), (5, .val false [.lit (.int .i64 (IntKind.wrap .i64 ((IntKind.wrap .i64 (1 * 2 ^ min (((IntKind.wrap .u64 x1) : Int)).toNat (IntKind.bits .i64))) - 1)))]), (4, .val false [.lit (.bool false)]), (2, .adr (.box 2) [(0, 0)] 2 0)], [(7, (Vrow.row v9)), (2, (CV.frzRow (Vtab.row x0)))]⟩ (by kernel_rfl) ?_
                      rw [h9]
                      refine AT.runU tOk [(19, []), (20, []), (21, []), (22, []), (23, []), (24, []), (25, []), (26, []), (27, []), (28, []), (29, []), (30, []), (31, []), (32, []), (33, []), (34, []), (35, []), (36, []), (37, []), (38, []), (39, []), (40, []), (41, []), (42, []), (43, [])] 0 [⟨[15], 3, 53, 54⟩, ⟨[8, 15], 3, 46, 47⟩, ⟨[2, 8, 15], 3, 41, 42⟩] [43, 42, 41, 40, 39, 38, 37, 36, 35, 34, 33, 32, 31, 30, 29, 28, 27, 26, 25, 24, 23, 22, 21, 20, 19, 18, 17, 16, 15, 14, 13, 12, 11, 10, 9, 8, 7, 6, 5, 4, 3, 2, 1, 0] rfl (by kernel_rfl) (fun cx => ?_)
                      exact AT.done [84, 83, 82, 81, 80, 79, 78, 77, 76, 75, 74, 73, 72, 71, 70, 69, 68, 67, 66, 65, 64, 63, 62, 61, 60, 59, 58, 57, 56, 55, 54, 53, 52, 51, 50, 49, 48, 47, 46, 45, 44, 43, 42, 41, 7, 40, 39, 38, 37, 36, 33, 32, 31, 30, 29, 6, 5, 4, 2] [7, 2] _ (by kernel_rfl) (by kernel_rfl) rfl
                    · refine Tr.cond (b := true) (by kernel_rfl) (fun _ => ?_) (fun h => nomatch h)
                      refine Tr.rs ?_
                      refine LAt.runU tOk 1 (by kernel_rfl) ?_
                      refine LAt.doneU [4, 84, 83, 82, 81, 80, 79, 78, 77, 76, 75, 74, 73, 72, 71, 70, 69, 68, 67, 66, 65, 64, 63, 62, 61, 60, 59, 58, 57, 56, 55, 54, 53, 52, 51, 50, 49, 48, 47, 46, 45, 44, 43, 42, 41, 7, 40, 39, 38, 37, 36, 33, 32, 31, 30, 29, 6, 5, 2] [7, 2] (by kernel_rfl) ?_
                      refine Tr.ret ?_
                      have H := Option.some.inj H
                      subst H
                      have H := Ho8
                      dsimp only at H
                      have H := Option.some.inj H
                      subst H
                      exact Fin.of _ [(false, [.lit (.bool false)])] (by kernel_rfl) rfl rfl
                · have H := bifT h8 H
                  refine Tr.draws mixed 44 (by kernel_rfl) ⟨100, 0, [(84, .val false [.lit (.bool true)]), (83, .tup []), (82, .tup []), (81, .tup []), (80, .tup []), (79, .tup []), (78, .tup []), (77, .tup []), (76, .tup []), (75, .tup []), (74, .tup []), (73, .tup []), (72, .tup []), (71, .tup []), (70, .tup []), (69, .val false [.lit (.bool true)]), (68, .val false [.lit (.bool true)]), (67, .tup []), (66, .tup []), (65, .tup []), (64, .tup []), (63, .tup []), (62, .tup []), (61, .tup []), (60, .tup []), (59, .val false [.lit (.bool true)]), (58, .val false [.lit (.bool true)]), (57, .tup []), (56, .tup []), (55, .tup []), (54, .tup []), (53, .tup []), (52, .val false [.lit (.bool true)]), (51, .val false [.lit (.bool true)]), (50, .val false [.lit (.bool true)]), (49, .val false [.lit (.bool r11)]), (48, .val false [.lit (.int .i64 (IntKind.wrap .i64 ((IntKind.wrap .i64 (1 * 2 ^ min (((IntKind.wrap .u64 x1) : Int)).toNat (IntKind.bits .i64))) - 1)))]), (47, .val false [.lit (.int .i64 v9.Members)]), (46, .adr (.box 7) [(0, 0)] 3 1), (45, .val false [.lit (.bool false)]), (44, .val false [.lit (.bool false)]), (43, .val false [.lit (.bool r10)]), (42, .val false [.lit (.int .i64 v9.Id)]), (41, .adr (.box 7) [(0, 0)] 3 0), (7, .adr (.box 7) [(0, 0)] 3 0), (40, .val true (Vrow.row v9)), (39, .fad ((Vrow.row v9))), (38, .val false [.lit (.int .i64 y3)]), (37, .val false [.sl false 3 (CV.frzEs (x0.Rows.map Vrow.row))]), (36, .adr (.box 2) [(0, 0)] 2 0), (33, .val false [.lit (.bool true)]), (32, .val false [.lit (.int .i64 (x0.Rows.length : Int))]), (31, .val false [.sl false 3 (CV.frzEs (x0.Rows.map Vrow.row))]), (30, .adr (.box 2) [(0, 0)] 2 0), (29, .val false [.lit (.int .i64 y3)]), (6, .val false [.lit (.int .i64 y3)]), (5, .val false [.lit (.int .i64 (IntKind.wrap .i64 ((IntKind.wrap .i64 (1 * 2 ^ min (((IntKind.wrap .u64 x1) : Int)).toNat (IntKind.bits .i64))) - 1)))]), (4, .val false [.lit (.bool false)]), (2, .adr (.box 2) [(0, 0)] 2 0)], [(7, (Vrow.row v9)), (2, (CV.frzRow (Vtab.row x0)))]⟩ (fun cx => ?_) ?_
                  · refine AT.runU tOk [(0, []), (1, [2, 8])] 42 [⟨[2, 8], 3, 41, 42⟩] [1, 0] rfl (by kernel_rfl) (fun cx => ?_)
                    refine AT.big1 tOk 2 (by kernel_rfl) (by kernel_rfl) ?_
                    refine LAt.callU tOk [.rd, .rd, .rd] (f := 76) (av := #[.tmp 42, .const (.int .i64 1), .const (.int .i64 99)]) (ats := #[3, 3, 3]) (d := (some 43)) (ty := 4) (g := none) (by kernel_rfl) (by kernel_rfl) (by kernel_rfl) [] (spec_l1In n v9.Id 1 99 r10 er10) (by kernel_rfl) (.inl rfl) ?_
                    refine LAt.fin (by kernel_rfl) (And.intro (And.intro (by kernel_rfl) (by kernel_rfl)) ?_)
                    refine AT.runU tOk [(3, []), (4, [])] 39 [⟨[2, 8], 3, 41, 42⟩] [4, 3, 2, 1, 0] rfl (by kernel_rfl) (fun cx => ?_)
                    refine AT.to ⟨100, 0, [(45, .val false [.lit (.bool (!r10))]), (44, .val false [.lit (.bool (!r10))]), (43, .val false [.lit (.bool r10)]), (42, .val false [.lit (.int .i64 v9.Id)]), (41, .adr (.box 7) [(0, 0)] 3 0), (7, .adr (.box 7) [(0, 0)] 3 0), (40, .val true (Vrow.row v9)), (39, .fad ((Vrow.row v9))), (38, .val false [.lit (.int .i64 y3)]), (37, .val false [.sl false 3 (CV.frzEs (x0.Rows.map Vrow.row))]), (36, .adr (.box 2) [(0, 0)] 2 0), (33, .val false [.lit (.bool true)]), (32, .val false [.lit (.int .i64 (x0.Rows.length : Int))]), (31, .val false [.sl false 3 (CV.frzEs (x0.Rows.map Vrow.row))]), (30, .adr (.box 2) [(0, 0)] 2 0), (29, .val false [.lit (.int .i64 y3)]), (6, .val false [.lit (.int .i64 y3)]), (5, .val false [.lit (.int .i64 (IntKind.wrap .i64 ((IntKind.wrap .i64 (1 * 2 ^ min (((IntKind.wrap .u64 x1) : Int)).toNat (IntKind.bits .i64))) - 1)))]), (4, .val false [.lit (.bool false)]), (2, .adr (.box 2) [(0, 0)] 2 0)], [(7, (Vrow.row v9)), (2, (CV.frzRow (Vtab.row x0)))]⟩ (by kernel_rfl) ?_
                    rw [h7]
                    refine AT.runU tOk [(5, []), (6, [8]), (7, [])] 36 [⟨[8], 3, 46, 47⟩, ⟨[2, 8], 3, 41, 42⟩] [7, 6, 5, 4, 3, 2, 1, 0] rfl (by kernel_rfl) (fun cx => ?_)
                    refine AT.big1 tOk 8 (by kernel_rfl) (by kernel_rfl) ?_
                    refine LAt.callU tOk [.rd, .rd, .rd] (f := 76) (av := #[.tmp 47, .const (.int .i64 0), .tmp 48]) (ats := #[3, 3, 3]) (d := (some 49)) (ty := 4) (g := (some (4, false))) (by kernel_rfl) (by kernel_rfl) (by kernel_rfl) [] (spec_l1In n v9.Members 0 (IntKind.wrap .i64 ((IntKind.wrap .i64 (1 * 2 ^ min (((IntKind.wrap .u64 x1) : Int)).toNat (IntKind.bits .i64))) - 1)) r11 er11) (by kernel_rfl) (.inl rfl) ?_
                    refine LAt.fin (by kernel_rfl) (And.intro (And.intro (by kernel_rfl) (by kernel_rfl)) ?_)
                    refine AT.runU tOk [(9, []), (10, []), (11, [])] 32 [⟨[8], 3, 46, 47⟩, ⟨[2, 8], 3, 41, 42⟩] [11, 10, 9, 8, 7, 6, 5, 4, 3, 2, 1, 0] rfl (by kernel_rfl) (fun cx => ?_)
                    refine AT.to ⟨100, 0, [(52, .val false [.lit (.bool (!r11))]), (51, .val false [.lit (.bool (!r11))]), (50, .val false [.lit (.bool (!r11))]), (49, .val false [.lit (.bool r11)]), (48, .val false [.lit (.int .i64 (IntKind.wrap .i64 ((IntKind.wrap .i64 (1 * 2 ^ min (((IntKind.wrap .u64 x1) : Int)).toNat (IntKind.bits .i64))) - 1)))]), (47, .val false [.lit (.int .i64 v9.Members)]), (46, .adr (.box 7) [(0, 0)] 3 1), (45, .val false [.lit (.bool false)]), (44, .val false [.lit (.bool false)]), (43, .val false [.lit (.bool r10)]), (42, .val false [.lit (.int .i64 v9.Id)]), (41, .adr (.box 7) [(0, 0)] 3 0), (7, .adr (.box 7) [(0, 0)] 3 0), (40, .val true (Vrow.row v9)), (39, .fad ((Vrow.row v9))), (38, .val false [.lit (.int .i64 y3)]), (37, .val false [.sl false 3 (CV.frzEs (x0.Rows.map Vrow.row))]), (36, .adr (.box 2) [(0, 0)] 2 0), (33, .val false [.lit (.bool true)]), (32, .val false [.lit (.int .i64 (x0.Rows.length : Int))]), (31, .val false [.sl false 3 (CV.frzEs (x0.Rows.map Vrow.row))]), (30, .adr (.box 2) [(0, 0)] 2 0), (29, .val false [.lit (.int .i64 y3)]), (6, .val false [.lit (.int .i64 y3)]), (5, .val false [.lit (.int .i64 (IntKind.wrap .i64 ((IntKind.wrap .i64 (1 * 2 ^ min (((IntKind.wrap .u64 x1) : Int)).toNat (IntKind.bits .i64))) - 1)))]), (4, .val false [.lit (.bool false)]), (2, .adr (.box 2) [(0, 0)] 2 0)], [(7, (Vrow.row v9)), (2, (CV.frzRow (Vtab.row x0)))]⟩ (by kernel_rfl) ?_
                    rw [h8]
                    refine AT.runU tOk [(12, []), (13, []), (14, []), (15, []), (16, []), (17, []), (18, []), (19, []), (20, []), (21, []), (22, []), (23, []), (24, []), (25, []), (26, []), (27, []), (28, []), (29, []), (30, []), (31, []), (32, []), (33, []), (34, []), (35, []), (36, []), (37, []), (38, []), (39, []), (40, []), (41, []), (42, []), (43, [])] 0 [⟨[8], 3, 46, 47⟩, ⟨[2, 8], 3, 41, 42⟩] [43, 42, 41, 40, 39, 38, 37, 36, 35, 34, 33, 32, 31, 30, 29, 28, 27, 26, 25, 24, 23, 22, 21, 20, 19, 18, 17, 16, 15, 14, 13, 12, 11, 10, 9, 8, 7, 6, 5, 4, 3, 2, 1, 0] rfl (by kernel_rfl) (fun cx => ?_)
                    exact AT.done [84, 83, 82, 81, 80, 79, 78, 77, 76, 75, 74, 73, 72, 71, 70, 69, 68, 67, 66, 65, 64, 63, 62, 61, 60, 59, 58, 57, 56, 55, 54, 53, 52, 51, 50, 49, 48, 47, 46, 45, 44, 43, 42, 41, 7, 40, 39, 38, 37, 36, 33, 32, 31, 30, 29, 6, 5, 4, 2] [7, 2] _ (by kernel_rfl) (by kernel_rfl) rfl
                  · refine Tr.cond (b := true) (by kernel_rfl) (fun _ => ?_) (fun h => nomatch h)
                    refine Tr.rs ?_
                    refine LAt.runU tOk 1 (by kernel_rfl) ?_
                    refine LAt.doneU [4, 84, 83, 82, 81, 80, 79, 78, 77, 76, 75, 74, 73, 72, 71, 70, 69, 68, 67, 66, 65, 64, 63, 62, 61, 60, 59, 58, 57, 56, 55, 54, 53, 52, 51, 50, 49, 48, 47, 46, 45, 44, 43, 42, 41, 7, 40, 39, 38, 37, 36, 33, 32, 31, 30, 29, 6, 5, 2] [7, 2] (by kernel_rfl) ?_
                    refine Tr.ret ?_
                    have H := Option.some.inj H
                    subst H
                    have H := Ho8
                    dsimp only at H
                    have H := Option.some.inj H
                    subst H
                    exact Fin.of _ [(false, [.lit (.bool false)])] (by kernel_rfl) rfl rfl
              · have H := bifT h7 H
                refine Tr.draws mixed 44 (by kernel_rfl) ⟨100, 0, [(84, .val false [.lit (.bool true)]), (83, .tup []), (82, .tup []), (81, .tup []), (80, .tup []), (79, .tup []), (78, .tup []), (77, .tup []), (76, .tup []), (75, .tup []), (74, .tup []), (73, .tup []), (72, .tup []), (71, .tup []), (70, .tup []), (69, .val false [.lit (.bool true)]), (68, .val false [.lit (.bool true)]), (67, .tup []), (66, .tup []), (65, .tup []), (64, .tup []), (63, .tup []), (62, .tup []), (61, .tup []), (60, .tup []), (59, .val false [.lit (.bool true)]), (58, .val false [.lit (.bool true)]), (57, .tup []), (56, .tup []), (55, .tup []), (54, .tup []), (53, .tup []), (52, .val false [.lit (.bool true)]), (51, .val false [.lit (.bool true)]), (50, .tup []), (49, .tup []), (48, .tup []), (47, .tup []), (46, .tup []), (45, .val false [.lit (.bool true)]), (44, .val false [.lit (.bool true)]), (43, .val false [.lit (.bool r10)]), (42, .val false [.lit (.int .i64 v9.Id)]), (41, .adr (.box 7) [(0, 0)] 3 0), (7, .adr (.box 7) [(0, 0)] 3 0), (40, .val true (Vrow.row v9)), (39, .fad ((Vrow.row v9))), (38, .val false [.lit (.int .i64 y3)]), (37, .val false [.sl false 3 (CV.frzEs (x0.Rows.map Vrow.row))]), (36, .adr (.box 2) [(0, 0)] 2 0), (33, .val false [.lit (.bool true)]), (32, .val false [.lit (.int .i64 (x0.Rows.length : Int))]), (31, .val false [.sl false 3 (CV.frzEs (x0.Rows.map Vrow.row))]), (30, .adr (.box 2) [(0, 0)] 2 0), (29, .val false [.lit (.int .i64 y3)]), (6, .val false [.lit (.int .i64 y3)]), (5, .val false [.lit (.int .i64 (IntKind.wrap .i64 ((IntKind.wrap .i64 (1 * 2 ^ min (((IntKind.wrap .u64 x1) : Int)).toNat (IntKind.bits .i64))) - 1)))]), (4, .val false [.lit (.bool false)]), (2, .adr (.box 2) [(0, 0)] 2 0)], [(7, (Vrow.row v9)), (2, (CV.frzRow (Vtab.row x0)))]⟩ (fun cx => ?_) ?_
                · refine AT.runU tOk [(0, []), (1, [2])] 42 [⟨[2], 3, 41, 42⟩] [1, 0] rfl (by kernel_rfl) (fun cx => ?_)
                  refine AT.big1 tOk 2 (by kernel_rfl) (by kernel_rfl) ?_
                  refine LAt.callU tOk [.rd, .rd, .rd] (f := 76) (av := #[.tmp 42, .const (.int .i64 1), .const (.int .i64 99)]) (ats := #[3, 3, 3]) (d := (some 43)) (ty := 4) (g := none) (by kernel_rfl) (by kernel_rfl) (by kernel_rfl) [] (spec_l1In n v9.Id 1 99 r10 er10) (by kernel_rfl) (.inl rfl) ?_
                  refine LAt.fin (by kernel_rfl) (And.intro (And.intro (by kernel_rfl) (by kernel_rfl)) ?_)
                  refine AT.runU tOk [(3, []), (4, [])] 39 [⟨[2], 3, 41, 42⟩] [4, 3, 2, 1, 0] rfl (by kernel_rfl) (fun cx => ?_)
                  refine AT.to ⟨100, 0, [(45, .val false [.lit (.bool (!r10))]), (44, .val false [.lit (.bool (!r10))]), (43, .val false [.lit (.bool r10)]), (42, .val false [.lit (.int .i64 v9.Id)]), (41, .adr (.box 7) [(0, 0)] 3 0), (7, .adr (.box 7) [(0, 0)] 3 0), (40, .val true (Vrow.row v9)), (39, .fad ((Vrow.row v9))), (38, .val false [.lit (.int .i64 y3)]), (37, .val false [.sl false 3 (CV.frzEs (x0.Rows.map Vrow.row))]), (36, .adr (.box 2) [(0, 0)] 2 0), (33, .val false [.lit (.bool true)]), (32, .val false [.lit (.int .i64 (x0.Rows.length : Int))]), (31, .val false [.sl false 3 (CV.frzEs (x0.Rows.map Vrow.row))]), (30, .adr (.box 2) [(0, 0)] 2 0), (29, .val false [.lit (.int .i64 y3)]), (6, .val false [.lit (.int .i64 y3)]), (5, .val false [.lit (.int .i64 (IntKind.wrap .i64 ((IntKind.wrap .i64 (1 * 2 ^ min (((IntKind.wrap .u64 x1) : Int)).toNat (IntKind.bits .i64))) - 1)))]), (4, .val false [.lit (.bool false)]), (2, .adr (.box 2) [(0, 0)] 2 0)], [(7, (Vrow.row v9)), (2, (CV.frzRow (Vtab.row x0)))]⟩ (by kernel_rfl) ?_
                  rw [h7]
                  refine AT.runU tOk [(5, []), (6, []), (7, []), (8, []), (9, []), (10, []), (11, []), (12, []), (13, []), (14, []), (15, []), (16, []), (17, []), (18, []), (19, []), (20, []), (21, []), (22, []), (23, []), (24, []), (25, []), (26, []), (27, []), (28, []), (29, []), (30, []), (31, []), (32, []), (33, []), (34, []), (35, []), (36, []), (37, []), (38, []), (39, []), (40, []), (41, []), (42, []), (43, [])] 0 [⟨[2], 3, 41, 42⟩] [43, 42, 41, 40, 39, 38, 37, 36, 35, 34, 33, 32, 31, 30, 29, 28, 27, 26, 25, 24, 23, 22, 21, 20, 19, 18, 17, 16, 15, 14, 13, 12, 11, 10, 9, 8, 7, 6, 5, 4, 3, 2, 1, 0] rfl (by kernel_rfl) (fun cx => ?_)
                  exact AT.done [84, 83, 82, 81, 80, 79, 78, 77, 76, 75, 74, 73, 72, 71, 70, 69, 68, 67, 66, 65, 64, 63, 62, 61, 60, 59, 58, 57, 56, 55, 54, 53, 52, 51, 50, 49, 48, 47, 46, 45, 44, 43, 42, 41, 7, 40, 39, 38, 37, 36, 33, 32, 31, 30, 29, 6, 5, 4, 2] [7, 2] _ (by kernel_rfl) (by kernel_rfl) rfl
                · refine Tr.cond (b := true) (by kernel_rfl) (fun _ => ?_) (fun h => nomatch h)
                  refine Tr.rs ?_
                  refine LAt.runU tOk 1 (by kernel_rfl) ?_
                  refine LAt.doneU [4, 84, 83, 82, 81, 80, 79, 78, 77, 76, 75, 74, 73, 72, 71, 70, 69, 68, 67, 66, 65, 64, 63, 62, 61, 60, 59, 58, 57, 56, 55, 54, 53, 52, 51, 50, 49, 48, 47, 46, 45, 44, 43, 42, 41, 7, 40, 39, 38, 37, 36, 33, 32, 31, 30, 29, 6, 5, 2] [7, 2] (by kernel_rfl) ?_
                  refine Tr.ret ?_
                  have H := Option.some.inj H
                  subst H
                  have H := Ho8
                  dsimp only at H
                  have H := Option.some.inj H
                  subst H
                  exact Fin.of _ [(false, [.lit (.bool false)])] (by kernel_rfl) rfl rfl
        · rintro _ H
          have H : (spec_VtabOk_J1 n x0) = some r := H
          unfold spec_VtabOk_J1 at H
          show Tr _ _ _ _ _
          refine Tr.seq ?_
          refine Tr.rs ?_
          refine LAt.runU tOk 1 (by kernel_rfl) ?_
          refine LAt.doneU [8, 4, 2] [2] (by kernel_rfl) ?_
          obtain ⟨o5, eo5, Ho5⟩ := bind_some H
          clear H
          refine Tr.mid (ι := Unit) (fun v => ⟨100, 0, [(4, .val false [.lit (.bool false)])], []⟩) (fun v => spec_VtabOk_J2 n = some r) ?_ ?_
          · refine Tr.block ?_
            refine Tr.loop (ι := Nat × (Int)) (fun v => ⟨100, 0, [(8, .val false [.lit (.int .i64 v.2)]), (4, .val false [.lit (.bool false)]), (2, .adr (.box 2) [(0, 0)] 2 0)], [(2, (CV.frzRow (Vtab.row x0)))]⟩) (fun v => spec_VtabOk_L3 n v.1 x0 v.2 = some o5) (fun v => v.1) (n, 0) eo5 (St.sub_of [8, 4, 2] [2] (by kernel_rfl)) ?_
            rintro ⟨mo5, y4⟩ H
            have H : spec_VtabOk_L3 n mo5 x0 y4 = some o5 := H
            obtain _ | mo5 := mo5
            · cases (show (none : Option _) = some o5 from H)
            · rw [spec_VtabOk_L3] at H
              refine Tr.seq ?_
              refine Tr.rs ?_
              refine LAt.runU tOk 3 (by kernel_rfl) ?_
              refine LAt.lenE tOk (t := 23) (ty := 3) (e := 3) (x := (.tmp 87)) (d := 88) (g := none) ⟨(.slot 87), [], 0, false, 1, (CV.frzEs (x0.Pvid.map intRow))⟩ (x0.Pvid).length _ (by kernel_rfl) (by kernel_rfl) (by kernel_rfl) (by kernel_rfl) (by kernel_rfl) (frz_len _ _) rfl ?_
              refine LAt.runU tOk 1 (by kernel_rfl) ?_
              refine LAt.doneU [89, 88, 87, 86, 85, 8, 4, 2] [2] (by kernel_rfl) ?_
              refine Tr.to ⟨100, 0, [(89, .val false [.lit (.bool (decide (y4 < (x0.Pvid.length : Int))))]), (88, .val false [.lit (.int .i64 (x0.Pvid.length : Int))]), (87, .val false [.sl false 1 (CV.frzEs (x0.Pvid.map intRow))]), (86, .adr (.box 2) [(0, 0)] 2 1), (85, .val false [.lit (.int .i64 y4)]), (8, .val false [.lit (.int .i64 y4)]), (4, .val false [.lit (.bool false)]), (2, .adr (.box 2) [(0, 0)] 2 0)], [(2, (CV.frzRow (Vtab.row x0)))]⟩ (by kernel_rfl) ?_
              cases h4 : (decide (y4 < (x0.Pvid.length : Int)))
              · have H := bifF h4 H
                refine Tr.cond (b := false) (by kernel_rfl) (fun h => nomatch h) (fun _ => ?_)
                refine Tr.exit ?_
                refine And.intro (fun _ => ?_) (fun h => absurd rfl h)
                have H := Option.some.inj H
                subst H
                have H := Ho5
                dsimp only at H
                exact Exists.intro () (And.intro H (St.sub_of [4] [] (by kernel_rfl)))
              · have H := bifT h4 H
                refine Tr.cond (b := true) (by kernel_rfl) (fun _ => ?_) (fun h => nomatch h)
                refine Tr.skip ?_
                show Tr _ _ _ _ _
                refine Tr.seq ?_
                refine Tr.block ?_
                obtain ⟨v6, ev6, H⟩ := bind_some H
                obtain ⟨r7, er7, H⟩ := bind_some H
                refine Tr.draws mixed 8 (by kernel_rfl) ⟨100, 0, [(99, .val false [.lit (.bool (decide (r7 < 0)))]), (98, .val false [.lit (.int .i64 r7)]), (97, .val false [.lit (.int .i64 v6)]), (96, .fad ([.lit (.int .i64 v6)])), (95, .val false [.lit (.int .i64 y4)]), (94, .ref (.box 2) [(0, 0)] 2 1 1 false), (93, .adr (.box 2) [(0, 0)] 2 1), (92, .ref (.box 2) [(0, 0)] 2 0 2 true), (89, .val false [.lit (.bool true)]), (88, .val false [.lit (.int .i64 (x0.Pvid.length : Int))]), (87, .val false [.sl false 1 (CV.frzEs (x0.Pvid.map intRow))]), (86, .adr (.box 2) [(0, 0)] 2 1), (85, .val false [.lit (.int .i64 y4)]), (8, .val false [.lit (.int .i64 y4)]), (4, .val false [.lit (.bool false)]), (2, .adr (.box 2) [(0, 0)] 2 0)], [(2, (CV.frzRow (Vtab.row x0)))]⟩ (fun cx => ?_) ?_
                · refine AT.runU tOk [(0, [6]), (1, []), (2, [6]), (3, [])] 4 [⟨[6], 23, 93, 94⟩, ⟨[6], 29, 2, 92⟩] [3, 2, 1, 0] rfl (by kernel_rfl) (fun cx => ?_)
                  refine AT.indexF tOk 4 (t := 23) (ty := 0) (x := (.tmp 94)) (y := (.tmp 95)) (d := 96) (g := none) ⟨(.box 2), [(0, 0)], 1, false, 1, (CV.frzEs (x0.Pvid.map intRow))⟩ y4 [.lit (.int .i64 v6)] _ (by kernel_rfl) (by kernel_rfl) (by kernel_rfl) (by kernel_rfl) (by kernel_rfl) (by kernel_rfl) rfl (idx_isF ev6) rfl (fun cx => ?_)
                  refine AT.runU tOk [(5, [])] 2 [⟨[6], 23, 93, 94⟩, ⟨[6], 29, 2, 92⟩] [5, 4, 3, 2, 1, 0] rfl (by kernel_rfl) (fun cx => ?_)
                  refine AT.big1 tOk 6 (by kernel_rfl) (by kernel_rfl) ?_
                  refine LAt.callU tOk [.rd, .rd] (f := 102) (av := #[.tmp 92, .tmp 97]) (ats := #[29, 3]) (d := (some 98)) (ty := 3) (g := none) (by kernel_rfl) (by kernel_rfl) (by kernel_rfl) [] (spec_RowAt n x0 v6 r7 er7) (by kernel_rfl) (.inl rfl) ?_
                  refine LAt.fin (by kernel_rfl) (And.intro (And.intro (by kernel_rfl) (by kernel_rfl)) ?_)
                  refine AT.runU tOk [(7, [])] 0 [⟨[6], 23, 93, 94⟩, ⟨[6], 29, 2, 92⟩] [7, 6, 5, 4, 3, 2, 1, 0] rfl (by kernel_rfl) (fun cx => ?_)
                  exact AT.done [99, 98, 97, 96, 95, 94, 93, 92, 89, 88, 87, 86, 85, 8, 4, 2] [2] _ (by kernel_rfl) (by kernel_rfl) rfl
                · refine Tr.to ⟨100, 0, [(99, .val false [.lit (.bool (decide (r7 < 0)))]), (98, .val false [.lit (.int .i64 r7)]), (97, .val false [.lit (.int .i64 v6)]), (96, .fad ([.lit (.int .i64 v6)])), (95, .val false [.lit (.int .i64 y4)]), (94, .ref (.box 2) [(0, 0)] 2 1 1 false), (93, .adr (.box 2) [(0, 0)] 2 1), (92, .ref (.box 2) [(0, 0)] 2 0 2 true), (89, .val false [.lit (.bool true)]), (88, .val false [.lit (.int .i64 (x0.Pvid.length : Int))]), (87, .val false [.sl false 1 (CV.frzEs (x0.Pvid.map intRow))]), (86, .adr (.box 2) [(0, 0)] 2 1), (85, .val false [.lit (.int .i64 y4)]), (8, .val false [.lit (.int .i64 y4)]), (4, .val false [.lit (.bool false)]), (2, .adr (.box 2) [(0, 0)] 2 0)], [(2, (CV.frzRow (Vtab.row x0)))]⟩ (by kernel_rfl) ?_
                  cases h5 : (decide (r7 < 0))
                  · have H := bifF h5 H
                    refine Tr.cond (b := false) (by kernel_rfl) (fun h => nomatch h) (fun _ => ?_)
                    refine Tr.skip ?_
                    show Tr _ _ _ _ _
                    refine Tr.at ?_
                    refine LAt.runU tOk 3 (by kernel_rfl) ?_
                    refine LAt.doneU [8, 91, 90, 99, 98, 97, 96, 95, 94, 93, 92, 89, 88, 87, 86, 85, 4, 2] [2] (by kernel_rfl) ?_
                    exact Exists.intro (mo5, (IntKind.wrap .i64 (y4 + 1))) (And.intro H (And.intro (Nat.lt_succ_self mo5) (St.sub_of [8, 4, 2] [2] (by kernel_rfl))))
                  · have H := bifT h5 H
                    refine Tr.cond (b := true) (by kernel_rfl) (fun _ => ?_) (fun h => nomatch h)
                    refine Tr.rs ?_
                    refine LAt.runU tOk 1 (by kernel_rfl) ?_
                    refine LAt.doneU [4, 99, 98, 97, 96, 95, 94, 93, 92, 89, 88, 87, 86, 85, 8, 2] [2] (by kernel_rfl) ?_
                    refine Tr.ret ?_
                    have H := Option.some.inj H
                    subst H
                    have H := Ho5
                    dsimp only at H
                    have H := Option.some.inj H
                    subst H
                    exact Fin.of _ [(false, [.lit (.bool false)])] (by kernel_rfl) rfl rfl
          · rintro _ H
            have H : (spec_VtabOk_J2 n) = some r := H
            unfold spec_VtabOk_J2 at H
            show Tr _ _ _ _ _
            refine Tr.rs ?_
            refine LAt.runU tOk 1 (by kernel_rfl) ?_
            refine LAt.doneU [4] [] (by kernel_rfl) ?_
            refine Tr.ret ?_
            have H := Option.some.inj H
            subst H
            exact Fin.of _ [(false, [.lit (.bool true)])] (by kernel_rfl) rfl rfl
      · have H := bifT h3 H
        refine Tr.cond (b := true) (by kernel_rfl) (fun _ => ?_) (fun h => nomatch h)
        refine Tr.rs ?_
        refine LAt.runU tOk 1 (by kernel_rfl) ?_
        refine LAt.doneU [4, 2, 1] [2] (by kernel_rfl) ?_
        refine Tr.ret ?_
        have H := Option.some.inj H
        subst H
        exact Fin.of _ [(false, [.lit (.bool false)])] (by kernel_rfl) rfl rfl
    · have H := bifT h2 H
      refine LAt.runU tOk 5 (by kernel_rfl) ?_
      refine LAt.doneU [24, 4, 2, 1] [2] (by kernel_rfl) ?_
      refine Tr.cond (b := true) (by kernel_rfl) (fun _ => ?_) (fun h => nomatch h)
      refine Tr.rs ?_
      refine LAt.runU tOk 1 (by kernel_rfl) ?_
      refine LAt.doneU [4, 2, 1] [2] (by kernel_rfl) ?_
      refine Tr.ret ?_
      have H := Option.some.inj H
      subst H
      exact Fin.of _ [(false, [.lit (.bool false)])] (by kernel_rfl) rfl rfl
  · have H := bifT h1 H
    refine LAt.runU tOk 12 (by kernel_rfl) ?_
    refine LAt.doneU [24, 4, 2, 1] [2] (by kernel_rfl) ?_
    refine Tr.cond (b := true) (by kernel_rfl) (fun _ => ?_) (fun h => nomatch h)
    refine Tr.rs ?_
    refine LAt.runU tOk 1 (by kernel_rfl) ?_
    refine LAt.doneU [4, 2, 1] [2] (by kernel_rfl) ?_
    refine Tr.ret ?_
    have H := Option.some.inj H
    subst H
    exact Fin.of _ [(false, [.lit (.bool false)])] (by kernel_rfl) rfl rfl

def spec_l11CountsF (n : Nat) (x0 : Bridge) : Option (Bool) :=
  ((spec_l1InF n x0.Ticks 0 1000000).bind fun r1 => (bif r1 then ((spec_l1InF n x0.Parse 0 1000000).bind fun r2 => (bif r2 then ((spec_l1InF n x0.Word 0 1000000).bind fun r3 => (bif r3 then ((spec_l1InF n x0.Drops 0 1000000).bind fun r4 => (bif r4 then ((spec_l1InF n x0.Vers 0 1000000).bind fun r5 => (some r5)) else (some false))) else (some false))) else (some false))) else (some false)))
/-- loop.example/g00326/spec.l11Counts -/
theorem spec_l11Counts (n : Nat) (x0 : Bridge) (r : Bool) (H : spec_l11CountsF n x0 = some r) : LCall Try.prog 127 [.val true (CV.frzRow (Bridge.row x0))] [.val false [.lit (.bool r)]] [] := by
  refine LCall.of_body tOk Try.func127 rfl (c := (.seq (.region 0 (rg Try.f127 0) false) (.seq (.region 1 (rg Try.f127 1) false) .ret))) (by kernel_rfl) (Nat.le_of_ble_eq_true (by kernel_rfl)) 0 (rs := [.tmp 2]) rfl [] .nil [(false, [.lit (.bool r)])] [] [] fun cx => ?_
  show Tr _ _ _ ⟨26, 0, [(0, .val true (CV.frzRow (Bridge.row x0)))], []⟩ _
  unfold spec_l11CountsF at H
  refine Tr.rs ?_
  refine LAt.runU tOk 2 (by kernel_rfl) ?_
  refine LAt.doneU [2, 1] [1] (by kernel_rfl) ?_
  refine Tr.rs ?_
  refine LAt.runU tOk 2 (by kernel_rfl) ?_
  obtain ⟨r1, er1, H⟩ := bind_some H
  refine LAt.callU tOk [.rd, .rd, .rd] (f := 76) (av := #[.tmp 4, .const (.int .i64 0), .const (.int .i64 1000000)]) (ats := #[3, 3, 3]) (d := (some 5)) (ty := 4) (g := none) (by kernel_rfl) (by kernel_rfl) (by kernel_rfl) [] (spec_l1In n x0.Ticks 0 1000000 r1 er1) (by kernel_rfl) (.inl rfl) ?_
  refine LAt.runU tOk 1 (by kernel_rfl) ?_
  refine LAt.to ⟨26, 0, [(6, .val false [.lit (.bool r1)]), (5, .val false [.lit (.bool r1)]), (4, .val false [.lit (.int .i64 x0.Ticks)]), (3, .adr (.box 1) [(0, 0)] 11 6), (2, .val false [.lit (.bool false)]), (1, .adr (.box 1) [(0, 0)] 11 0)], [(1, (CV.frzRow (Bridge.row x0)))]⟩ (by kernel_rfl) ?_
  cases h1 : r1
  · have H := bifF h1 H
    refine LAt.runU tOk 20 (by kernel_rfl) ?_
    refine LAt.doneU [2] [] (by kernel_rfl) ?_
    refine Tr.ret ?_
    have H := Option.some.inj H
    subst H
    exact Fin.of _ [(false, [.lit (.bool false)])] (by kernel_rfl) rfl rfl
  · have H := bifT h1 H
    refine LAt.runU tOk 2 (by kernel_rfl) ?_
    obtain ⟨r2, er2, H⟩ := bind_some H
    refine LAt.callU tOk [.rd, .rd, .rd] (f := 76) (av := #[.tmp 8, .const (.int .i64 0), .const (.int .i64 1000000)]) (ats := #[3, 3, 3]) (d := (some 9)) (ty := 4) (g := (some (3, true))) (by kernel_rfl) (by kernel_rfl) (by kernel_rfl) [] (spec_l1In n x0.Parse 0 1000000 r2 er2) (by kernel_rfl) (.inl rfl) ?_
    refine LAt.runU tOk 2 (by kernel_rfl) ?_
    refine LAt.to ⟨26, 0, [(11, .val false [.lit (.bool r2)]), (10, .val false [.lit (.bool r2)]), (9, .val false [.lit (.bool r2)]), (8, .val false [.lit (.int .i64 x0.Parse)]), (7, .adr (.box 1) [(0, 0)] 11 7), (6, .val false [.lit (.bool true)]), (5, .val false [.lit (.bool true)]), (4, .val false [.lit (.int .i64 x0.Ticks)]), (3, .adr (.box 1) [(0, 0)] 11 6), (2, .val false [.lit (.bool false)]), (1, .adr (.box 1) [(0, 0)] 11 0)], [(1, (CV.frzRow (Bridge.row x0)))]⟩ (by kernel_rfl) ?_
    cases h2 : r2
    · have H := bifF h2 H
      refine LAt.runU tOk 15 (by kernel_rfl) ?_
      refine LAt.doneU [2] [] (by kernel_rfl) ?_
      refine Tr.ret ?_
      have H := Option.some.inj H
      subst H
      exact Fin.of _ [(false, [.lit (.bool false)])] (by kernel_rfl) rfl rfl
    · have H := bifT h2 H
      refine LAt.runU tOk 2 (by kernel_rfl) ?_
      obtain ⟨r3, er3, H⟩ := bind_some H
      refine LAt.callU tOk [.rd, .rd, .rd] (f := 76) (av := #[.tmp 13, .const (.int .i64 0), .const (.int .i64 1000000)]) (ats := #[3, 3, 3]) (d := (some 14)) (ty := 4) (g := (some (8, true))) (by kernel_rfl) (by kernel_rfl) (by kernel_rfl) [] (spec_l1In n x0.Word 0 1000000 r3 er3) (by kernel_rfl) (.inl rfl) ?_
      refine LAt.runU tOk 2 (by kernel_rfl) ?_
      refine LAt.to ⟨26, 0, [(16, .val false [.lit (.bool r3)]), (15, .val false [.lit (.bool r3)]), (14, .val false [.lit (.bool r3)]), (13, .val false [.lit (.int .i64 x0.Word)]), (12, .adr (.box 1) [(0, 0)] 11 8), (11, .val false [.lit (.bool true)]), (10, .val false [.lit (.bool true)]), (9, .val false [.lit (.bool true)]), (8, .val false [.lit (.int .i64 x0.Parse)]), (7, .adr (.box 1) [(0, 0)] 11 7), (6, .val false [.lit (.bool true)]), (5, .val false [.lit (.bool true)]), (4, .val false [.lit (.int .i64 x0.Ticks)]), (3, .adr (.box 1) [(0, 0)] 11 6), (2, .val false [.lit (.bool false)]), (1, .adr (.box 1) [(0, 0)] 11 0)], [(1, (CV.frzRow (Bridge.row x0)))]⟩ (by kernel_rfl) ?_
      cases h3 : r3
      · have H := bifF h3 H
        refine LAt.runU tOk 10 (by kernel_rfl) ?_
        refine LAt.doneU [2] [] (by kernel_rfl) ?_
        refine Tr.ret ?_
        have H := Option.some.inj H
        subst H
        exact Fin.of _ [(false, [.lit (.bool false)])] (by kernel_rfl) rfl rfl
      · have H := bifT h3 H
        refine LAt.runU tOk 2 (by kernel_rfl) ?_
        obtain ⟨r4, er4, H⟩ := bind_some H
        refine LAt.callU tOk [.rd, .rd, .rd] (f := 76) (av := #[.tmp 18, .const (.int .i64 0), .const (.int .i64 1000000)]) (ats := #[3, 3, 3]) (d := (some 19)) (ty := 4) (g := (some (13, true))) (by kernel_rfl) (by kernel_rfl) (by kernel_rfl) [] (spec_l1In n x0.Drops 0 1000000 r4 er4) (by kernel_rfl) (.inl rfl) ?_
        refine LAt.runU tOk 2 (by kernel_rfl) ?_
        refine LAt.to ⟨26, 0, [(21, .val false [.lit (.bool r4)]), (20, .val false [.lit (.bool r4)]), (19, .val false [.lit (.bool r4)]), (18, .val false [.lit (.int .i64 x0.Drops)]), (17, .adr (.box 1) [(0, 0)] 11 9), (16, .val false [.lit (.bool true)]), (15, .val false [.lit (.bool true)]), (14, .val false [.lit (.bool true)]), (13, .val false [.lit (.int .i64 x0.Word)]), (12, .adr (.box 1) [(0, 0)] 11 8), (11, .val false [.lit (.bool true)]), (10, .val false [.lit (.bool true)]), (9, .val false [.lit (.bool true)]), (8, .val false [.lit (.int .i64 x0.Parse)]), (7, .adr (.box 1) [(0, 0)] 11 7), (6, .val false [.lit (.bool true)]), (5, .val false [.lit (.bool true)]), (4, .val false [.lit (.int .i64 x0.Ticks)]), (3, .adr (.box 1) [(0, 0)] 11 6), (2, .val false [.lit (.bool false)]), (1, .adr (.box 1) [(0, 0)] 11 0)], [(1, (CV.frzRow (Bridge.row x0)))]⟩ (by kernel_rfl) ?_
        cases h4 : r4
        · have H := bifF h4 H
          refine LAt.runU tOk 5 (by kernel_rfl) ?_
          refine LAt.doneU [2] [] (by kernel_rfl) ?_
          refine Tr.ret ?_
          have H := Option.some.inj H
          subst H
          exact Fin.of _ [(false, [.lit (.bool false)])] (by kernel_rfl) rfl rfl
        · have H := bifT h4 H
          refine LAt.runU tOk 2 (by kernel_rfl) ?_
          obtain ⟨r5, er5, H⟩ := bind_some H
          refine LAt.callU tOk [.rd, .rd, .rd] (f := 76) (av := #[.tmp 23, .const (.int .i64 0), .const (.int .i64 1000000)]) (ats := #[3, 3, 3]) (d := (some 24)) (ty := 4) (g := (some (18, true))) (by kernel_rfl) (by kernel_rfl) (by kernel_rfl) [] (spec_l1In n x0.Vers 0 1000000 r5 er5) (by kernel_rfl) (.inl rfl) ?_
          refine LAt.runU tOk 2 (by kernel_rfl) ?_
          refine LAt.doneU [2] [] (by kernel_rfl) ?_
          refine Tr.ret ?_
          have H := Option.some.inj H
          subst H
          exact Fin.of _ [(false, [.lit (.bool r5)])] (by kernel_rfl) rfl rfl

def spec_BridgeOk_J1 (n : Nat) (x0 : Bridge) : Option (Bool) :=
  ((spec_l1InF n x0.Id 1 99).bind fun r2 => (bif r2 then (bif (decide ((x0.Name.size : Int) ≤ 10)) then ((spec_l1InF n (x0.Ports.length : Int) 1 6).bind fun r3 => (bif r3 then ((spec_FdbOkF n x0.F).bind fun r4 => (bif r4 then ((spec_VtabOkF n x0.V (x0.Ports.length : Int)).bind fun r5 => (bif r5 then ((spec_l11CountsF n x0).bind fun r6 => (some r6)) else (some false))) else (some false))) else (some false))) else (some false)) else (some false)))
def spec_BridgeOk_L2 (n : Nat) : Nat → Bridge → Int → Option ((Unit) ⊕ (Bool))
  | 0, _, _ => none
  | mo7 + 1, x0, y1 => (bif (decide (y1 < (x0.Ports.length : Int))) then ((idx x0.Ports y1).bind fun v8 => ((spec_PtOkF n v8).bind fun r9 => (bif (!r9) then (some (Sum.inr false)) else (spec_BridgeOk_L2 n mo7 x0 (IntKind.wrap .i64 (y1 + 1)))))) else (some (Sum.inl ())))
def spec_BridgeOkF (n : Nat) (x0 : Bridge) : Option (Bool) :=
  ((spec_BridgeOk_L2 n n x0 0).bind fun o => match o with | .inl _ => (spec_BridgeOk_J1 n x0) | .inr r => some r)
/-- loop.example/g00326/spec.BridgeOk -/
theorem spec_BridgeOk (n : Nat) (x0 : Bridge) (r : Bool) (H : spec_BridgeOkF n x0 = some r) : LCall Try.prog 60 [.val true (CV.frzRow (Bridge.row x0))] [.val false [.lit (.bool r)]] [] := by
  refine LCall.of_body tOk Try.func60 rfl (c := (.seq (.region 0 (rg Try.f60 0) false) (.seq (.seq (.region 1 (rg Try.f60 1) false) (.block 0 (.loop (.seq (.seq (.region 2 (rg Try.f60 2) false) (.cond (.tmp 8) .skip (.exit 0))) (.seq (.block 1 (.seq (.region 4 (rg Try.f60 4) false) (.cond (.tmp 17) (.seq (.region 5 (rg Try.f60 5) false) .ret) .skip))) (.region 3 (rg Try.f60 3) false)))))) (.seq (.region 6 (rg Try.f60 6) false) .ret)))) (by kernel_rfl) (Nat.le_of_ble_eq_true (by kernel_rfl)) 0 (rs := [.tmp 2]) rfl [] .nil [(false, [.lit (.bool r)])] [] [] fun cx => ?_
  show Tr _ _ _ ⟨50, 0, [(0, .val true (CV.frzRow (Bridge.row x0)))], []⟩ _
  unfold spec_BridgeOkF at H
  refine Tr.rs ?_
  refine LAt.runU tOk 2 (by kernel_rfl) ?_
  refine LAt.doneU [2, 1] [1] (by kernel_rfl) ?_
  refine Tr.seq ?_
  refine Tr.rs ?_
  refine LAt.runU tOk 1 (by kernel_rfl) ?_
  refine LAt.doneU [3, 2, 1] [1] (by kernel_rfl) ?_
  obtain ⟨o7, eo7, Ho7⟩ := bind_some H
  clear H
  refine Tr.mid (ι := Unit) (fun v => ⟨50, 0, [(2, .val false [.lit (.bool false)]), (1, .adr (.box 1) [(0, 0)] 11 0)], [(1, (CV.frzRow (Bridge.row x0)))]⟩) (fun v => spec_BridgeOk_J1 n x0 = some r) ?_ ?_
  · refine Tr.block ?_
    refine Tr.loop (ι := Nat × (Int)) (fun v => ⟨50, 0, [(3, .val false [.lit (.int .i64 v.2)]), (2, .val false [.lit (.bool false)]), (1, .adr (.box 1) [(0, 0)] 11 0)], [(1, (CV.frzRow (Bridge.row x0)))]⟩) (fun v => spec_BridgeOk_L2 n v.1 x0 v.2 = some o7) (fun v => v.1) (n, 0) eo7 (St.sub_of [3, 2, 1] [1] (by kernel_rfl)) ?_
    rintro ⟨mo7, y1⟩ H
    have H : spec_BridgeOk_L2 n mo7 x0 y1 = some o7 := H
    obtain _ | mo7 := mo7
    · cases (show (none : Option _) = some o7 from H)
    · rw [spec_BridgeOk_L2] at H
      refine Tr.seq ?_
      refine Tr.rs ?_
      refine LAt.runU tOk 3 (by kernel_rfl) ?_
      refine LAt.lenE tOk (t := 43) (ty := 3) (e := 41) (x := (.tmp 6)) (d := 7) (g := none) ⟨(.slot 6), [], 0, false, 8, (CV.frzEs (x0.Ports.map Pt.row))⟩ (x0.Ports).length _ (by kernel_rfl) (by kernel_rfl) (by kernel_rfl) (by kernel_rfl) (by kernel_rfl) (frz_len _ _) rfl ?_
      refine LAt.runU tOk 1 (by kernel_rfl) ?_
      refine LAt.doneU [8, 7, 6, 5, 4, 3, 2, 1] [1] (by kernel_rfl) ?_
      refine Tr.to ⟨50, 0, [(8, .val false [.lit (.bool (decide (y1 < (x0.Ports.length : Int))))]), (7, .val false [.lit (.int .i64 (x0.Ports.length : Int))]), (6, .val false [.sl false 8 (CV.frzEs (x0.Ports.map Pt.row))]), (5, .adr (.box 1) [(0, 0)] 11 2), (4, .val false [.lit (.int .i64 y1)]), (3, .val false [.lit (.int .i64 y1)]), (2, .val false [.lit (.bool false)]), (1, .adr (.box 1) [(0, 0)] 11 0)], [(1, (CV.frzRow (Bridge.row x0)))]⟩ (by kernel_rfl) ?_
      cases h6 : (decide (y1 < (x0.Ports.length : Int)))
      · have H := bifF h6 H
        refine Tr.cond (b := false) (by kernel_rfl) (fun h => nomatch h) (fun _ => ?_)
        refine Tr.exit ?_
        refine And.intro (fun _ => ?_) (fun h => absurd rfl h)
        have H := Option.some.inj H
        subst H
        have H := Ho7
        dsimp only at H
        exact Exists.intro () (And.intro H (St.sub_of [2, 1] [1] (by kernel_rfl)))
      · have H := bifT h6 H
        refine Tr.cond (b := true) (by kernel_rfl) (fun _ => ?_) (fun h => nomatch h)
        refine Tr.skip ?_
        show Tr _ _ _ _ _
        refine Tr.seq ?_
        refine Tr.block ?_
        refine Tr.rs ?_
        refine LAt.runU tOk 3 (by kernel_rfl) ?_
        obtain ⟨v8, ev8, H⟩ := bind_some H
        refine LAt.indexF tOk (t := 43) (ty := 0) (x := (.tmp 12)) (y := (.tmp 13)) (d := 14) (g := none) ⟨(.slot 12), [], 0, false, 8, (CV.frzEs (x0.Ports.map Pt.row))⟩ y1 (Pt.row v8) _ (by kernel_rfl) (by kernel_rfl) (by kernel_rfl) (by kernel_rfl) rfl (idx_isF ev8) rfl ?_
        refine LAt.runU tOk 1 (by kernel_rfl) ?_
        obtain ⟨r9, er9, H⟩ := bind_some H
        refine LAt.callU tOk [.rd] (f := 30) (av := #[.tmp 15]) (ats := #[41]) (d := (some 16)) (ty := 4) (g := none) (by kernel_rfl) (by kernel_rfl) (by kernel_rfl) [] (spec_PtOk n v8 r9 er9) (by kernel_rfl) (.inl rfl) ?_
        refine LAt.runU tOk 1 (by kernel_rfl) ?_
        refine LAt.doneU [17, 16, 15, 14, 13, 12, 11, 8, 7, 6, 5, 4, 3, 2, 1] [1] (by kernel_rfl) ?_
        refine Tr.to ⟨50, 0, [(17, .val false [.lit (.bool (!r9))]), (16, .val false [.lit (.bool r9)]), (15, .val true (Pt.row v8)), (14, .fad ((Pt.row v8))), (13, .val false [.lit (.int .i64 y1)]), (12, .val false [.sl false 8 (CV.frzEs (x0.Ports.map Pt.row))]), (11, .adr (.box 1) [(0, 0)] 11 2), (8, .val false [.lit (.bool true)]), (7, .val false [.lit (.int .i64 (x0.Ports.length : Int))]), (6, .val false [.sl false 8 (CV.frzEs (x0.Ports.map Pt.row))]), (5, .adr (.box 1) [(0, 0)] 11 2), (4, .val false [.lit (.int .i64 y1)]), (3, .val false [.lit (.int .i64 y1)]), (2, .val false [.lit (.bool false)]), (1, .adr (.box 1) [(0, 0)] 11 0)], [(1, (CV.frzRow (Bridge.row x0)))]⟩ (by kernel_rfl) ?_
        cases h7 : (!r9)
        · have H := bifF h7 H
          refine Tr.cond (b := false) (by kernel_rfl) (fun h => nomatch h) (fun _ => ?_)
          refine Tr.skip ?_
          show Tr _ _ _ _ _
          refine Tr.at ?_
          refine LAt.runU tOk 3 (by kernel_rfl) ?_
          refine LAt.doneU [3, 10, 9, 17, 16, 15, 14, 13, 12, 11, 8, 7, 6, 5, 4, 2, 1] [1] (by kernel_rfl) ?_
          exact Exists.intro (mo7, (IntKind.wrap .i64 (y1 + 1))) (And.intro H (And.intro (Nat.lt_succ_self mo7) (St.sub_of [3, 2, 1] [1] (by kernel_rfl))))
        · have H := bifT h7 H
          refine Tr.cond (b := true) (by kernel_rfl) (fun _ => ?_) (fun h => nomatch h)
          refine Tr.rs ?_
          refine LAt.runU tOk 1 (by kernel_rfl) ?_
          refine LAt.doneU [2, 17, 16, 15, 14, 13, 12, 11, 8, 7, 6, 5, 4, 3, 1] [1] (by kernel_rfl) ?_
          refine Tr.ret ?_
          have H := Option.some.inj H
          subst H
          have H := Ho7
          dsimp only at H
          have H := Option.some.inj H
          subst H
          exact Fin.of _ [(false, [.lit (.bool false)])] (by kernel_rfl) rfl rfl
  · rintro _ H
    have H : (spec_BridgeOk_J1 n x0) = some r := H
    unfold spec_BridgeOk_J1 at H
    show Tr _ _ _ _ _
    refine Tr.rs ?_
    refine LAt.runU tOk 2 (by kernel_rfl) ?_
    obtain ⟨r2, er2, H⟩ := bind_some H
    refine LAt.callU tOk [.rd, .rd, .rd] (f := 76) (av := #[.tmp 19, .const (.int .i64 1), .const (.int .i64 99)]) (ats := #[3, 3, 3]) (d := (some 20)) (ty := 4) (g := none) (by kernel_rfl) (by kernel_rfl) (by kernel_rfl) [] (spec_l1In n x0.Id 1 99 r2 er2) (by kernel_rfl) (.inl rfl) ?_
    refine LAt.runU tOk 1 (by kernel_rfl) ?_
    refine LAt.to ⟨50, 0, [(21, .val false [.lit (.bool r2)]), (20, .val false [.lit (.bool r2)]), (19, .val false [.lit (.int .i64 x0.Id)]), (18, .adr (.box 1) [(0, 0)] 11 0), (2, .val false [.lit (.bool false)]), (1, .adr (.box 1) [(0, 0)] 11 0)], [(1, (CV.frzRow (Bridge.row x0)))]⟩ (by kernel_rfl) ?_
    cases h1 : r2
    · have H := bifF h1 H
      refine LAt.runU tOk 29 (by kernel_rfl) ?_
      refine LAt.doneU [2] [] (by kernel_rfl) ?_
      refine Tr.ret ?_
      have H := Option.some.inj H
      subst H
      exact Fin.of _ [(false, [.lit (.bool false)])] (by kernel_rfl) rfl rfl
    · have H := bifT h1 H
      refine LAt.runU tOk 6 (by kernel_rfl) ?_
      refine LAt.to ⟨50, 0, [(27, .val false [.lit (.bool (decide ((x0.Name.size : Int) ≤ 10)))]), (26, .val false [.lit (.bool (decide ((x0.Name.size : Int) ≤ 10)))]), (25, .val false [.lit (.bool (decide ((x0.Name.size : Int) ≤ 10)))]), (24, .val false [.lit (.int .i64 (x0.Name.size : Int))]), (23, .val false [.lit (.string x0.Name)]), (22, .adr (.box 1) [(0, 0)] 11 1), (21, .val false [.lit (.bool true)]), (20, .val false [.lit (.bool true)]), (19, .val false [.lit (.int .i64 x0.Id)]), (18, .adr (.box 1) [(0, 0)] 11 0), (2, .val false [.lit (.bool false)]), (1, .adr (.box 1) [(0, 0)] 11 0)], [(1, (CV.frzRow (Bridge.row x0)))]⟩ (by kernel_rfl) ?_
      cases h2 : (decide ((x0.Name.size : Int) ≤ 10))
      · have H := bifF h2 H
        refine LAt.runU tOk 23 (by kernel_rfl) ?_
        refine LAt.doneU [2] [] (by kernel_rfl) ?_
        refine Tr.ret ?_
        have H := Option.some.inj H
        subst H
        exact Fin.of _ [(false, [.lit (.bool false)])] (by kernel_rfl) rfl rfl
      · have H := bifT h2 H
        refine LAt.runU tOk 2 (by kernel_rfl) ?_
        refine LAt.lenE tOk (t := 43) (ty := 3) (e := 41) (x := (.tmp 29)) (d := 30) (g := (some (9, true))) ⟨(.slot 29), [], 0, false, 8, (CV.frzEs (x0.Ports.map Pt.row))⟩ (x0.Ports).length _ (by kernel_rfl) (by kernel_rfl) (by kernel_rfl) (by kernel_rfl) (by kernel_rfl) (frz_len _ _) rfl ?_
        obtain ⟨r3, er3, H⟩ := bind_some H
        refine LAt.callU tOk [.rd, .rd, .rd] (f := 76) (av := #[.tmp 30, .const (.int .i64 1), .const (.int .i64 6)]) (ats := #[3, 3, 3]) (d := (some 31)) (ty := 4) (g := (some (9, true))) (by kernel_rfl) (by kernel_rfl) (by kernel_rfl) [] (spec_l1In n (x0.Ports.length : Int) 1 6 r3 er3) (by kernel_rfl) (.inl rfl) ?_
        refine LAt.runU tOk 2 (by kernel_rfl) ?_
        refine LAt.to ⟨50, 0, [(33, .val false [.lit (.bool r3)]), (32, .val false [.lit (.bool r3)]), (31, .val false [.lit (.bool r3)]), (30, .val false [.lit (.int .i64 (x0.Ports.length : Int))]), (29, .val false [.sl false 8 (CV.frzEs (x0.Ports.map Pt.row))]), (28, .adr (.box 1) [(0, 0)] 11 2), (27, .val false [.lit (.bool true)]), (26, .val false [.lit (.bool true)]), (25, .val false [.lit (.bool true)]), (24, .val false [.lit (.int .i64 (x0.Name.size : Int))]), (23, .val false [.lit (.string x0.Name)]), (22, .adr (.box 1) [(0, 0)] 11 1), (21, .val false [.lit (.bool true)]), (20, .val false [.lit (.bool true)]), (19, .val false [.lit (.int .i64 x0.Id)]), (18, .adr (.box 1) [(0, 0)] 11 0), (2, .val false [.lit (.bool false)]), (1, .adr (.box 1) [(0, 0)] 11 0)], [(1, (CV.frzRow (Bridge.row x0)))]⟩ (by kernel_rfl) ?_
        cases h3 : r3
        · have H := bifF h3 H
          refine LAt.runU tOk 17 (by kernel_rfl) ?_
          refine LAt.doneU [2] [] (by kernel_rfl) ?_
          refine Tr.ret ?_
          have H := Option.some.inj H
          subst H
          exact Fin.of _ [(false, [.lit (.bool false)])] (by kernel_rfl) rfl rfl
        · have H := bifT h3 H
          refine LAt.runU tOk 2 (by kernel_rfl) ?_
          obtain ⟨r4, er4, H⟩ := bind_some H
          refine LAt.callU tOk [.rd] (f := 126) (av := #[.tmp 35]) (ats := #[77]) (d := (some 36)) (ty := 4) (g := (some (15, true))) (by kernel_rfl) (by kernel_rfl) (by kernel_rfl) [] (spec_FdbOk n x0.F r4 er4) (by kernel_rfl) (.inl rfl) ?_
          refine LAt.runU tOk 2 (by kernel_rfl) ?_
          refine LAt.to ⟨50, 0, [(38, .val false [.lit (.bool r4)]), (37, .val false [.lit (.bool r4)]), (36, .val false [.lit (.bool r4)]), (35, .val false [.sl false 5 (CV.frzEs (x0.F.map Fent.row))]), (34, .adr (.box 1) [(0, 0)] 11 3), (33, .val false [.lit (.bool true)]), (32, .val false [.lit (.bool true)]), (31, .val false [.lit (.bool true)]), (30, .val false [.lit (.int .i64 (x0.Ports.length : Int))]), (29, .val false [.sl false 8 (CV.frzEs (x0.Ports.map Pt.row))]), (28, .adr (.box 1) [(0, 0)] 11 2), (27, .val false [.lit (.bool true)]), (26, .val false [.lit (.bool true)]), (25, .val false [.lit (.bool true)]), (24, .val false [.lit (.int .i64 (x0.Name.size : Int))]), (23, .val false [.lit (.string x0.Name)]), (22, .adr (.box 1) [(0, 0)] 11 1), (21, .val false [.lit (.bool true)]), (20, .val false [.lit (.bool true)]), (19, .val false [.lit (.int .i64 x0.Id)]), (18, .adr (.box 1) [(0, 0)] 11 0), (2, .val false [.lit (.bool false)]), (1, .adr (.box 1) [(0, 0)] 11 0)], [(1, (CV.frzRow (Bridge.row x0)))]⟩ (by kernel_rfl) ?_
          cases h4 : r4
          · have H := bifF h4 H
            refine LAt.runU tOk 12 (by kernel_rfl) ?_
            refine LAt.doneU [2] [] (by kernel_rfl) ?_
            refine Tr.ret ?_
            have H := Option.some.inj H
            subst H
            exact Fin.of _ [(false, [.lit (.bool false)])] (by kernel_rfl) rfl rfl
          · have H := bifT h4 H
            refine LAt.runU tOk 4 (by kernel_rfl) ?_
            refine LAt.lenE tOk (t := 43) (ty := 3) (e := 41) (x := (.tmp 42)) (d := 43) (g := (some (20, true))) ⟨(.slot 42), [], 0, false, 8, (CV.frzEs (x0.Ports.map Pt.row))⟩ (x0.Ports).length _ (by kernel_rfl) (by kernel_rfl) (by kernel_rfl) (by kernel_rfl) (by kernel_rfl) (frz_len _ _) rfl ?_
            obtain ⟨r5, er5, H⟩ := bind_some H
            refine LAt.callU tOk [.rd, .rd] (f := 49) (av := #[.tmp 40, .tmp 43]) (ats := #[29, 3]) (d := (some 44)) (ty := 4) (g := (some (20, true))) (by kernel_rfl) (by kernel_rfl) (by kernel_rfl) [] (spec_VtabOk n x0.V (x0.Ports.length : Int) r5 er5) (by kernel_rfl) (.inl rfl) ?_
            refine LAt.runU tOk 2 (by kernel_rfl) ?_
            refine LAt.to ⟨50, 0, [(46, .val false [.lit (.bool r5)]), (45, .val false [.lit (.bool r5)]), (44, .val false [.lit (.bool r5)]), (43, .val false [.lit (.int .i64 (x0.Ports.length : Int))]), (42, .val false [.sl false 8 (CV.frzEs (x0.Ports.map Pt.row))]), (41, .adr (.box 1) [(0, 0)] 11 2), (40, .val true (((CV.frzRow (Bridge.row x0)).drop 4).take 2)), (39, .adr (.box 1) [(0, 0)] 11 4), (38, .val false [.lit (.bool true)]), (37, .val false [.lit (.bool true)]), (36, .val false [.lit (.bool true)]), (35, .val false [.sl false 5 (CV.frzEs (x0.F.map Fent.row))]), (34, .adr (.box 1) [(0, 0)] 11 3), (33, .val false [.lit (.bool true)]), (32, .val false [.lit (.bool true)]), (31, .val false [.lit (.bool true)]), (30, .val false [.lit (.int .i64 (x0.Ports.length : Int))]), (29, .val false [.sl false 8 (CV.frzEs (x0.Ports.map Pt.row))]), (28, .adr (.box 1) [(0, 0)] 11 2), (27, .val false [.lit (.bool true)]), (26, .val false [.lit (.bool true)]), (25, .val false [.lit (.bool true)]), (24, .val false [.lit (.int .i64 (x0.Name.size : Int))]), (23, .val false [.lit (.string x0.Name)]), (22, .adr (.box 1) [(0, 0)] 11 1), (21, .val false [.lit (.bool true)]), (20, .val false [.lit (.bool true)]), (19, .val false [.lit (.int .i64 x0.Id)]), (18, .adr (.box 1) [(0, 0)] 11 0), (2, .val false [.lit (.bool false)]), (1, .adr (.box 1) [(0, 0)] 11 0)], [(1, (CV.frzRow (Bridge.row x0)))]⟩ (by kernel_rfl) ?_
            cases h5 : r5
            · have H := bifF h5 H
              refine LAt.runU tOk 4 (by kernel_rfl) ?_
              refine LAt.doneU [2] [] (by kernel_rfl) ?_
              refine Tr.ret ?_
              have H := Option.some.inj H
              subst H
              exact Fin.of _ [(false, [.lit (.bool false)])] (by kernel_rfl) rfl rfl
            · have H := bifT h5 H
              refine LAt.runU tOk 1 (by kernel_rfl) ?_
              obtain ⟨r6, er6, H⟩ := bind_some H
              refine LAt.callU tOk [.rd] (f := 127) (av := #[.tmp 47]) (ats := #[79]) (d := (some 48)) (ty := 4) (g := (some (28, true))) (by kernel_rfl) (by kernel_rfl) (by kernel_rfl) [] (spec_l11Counts n x0 r6 er6) (by kernel_rfl) (.inl rfl) ?_
              refine LAt.runU tOk 2 (by kernel_rfl) ?_
              refine LAt.doneU [2] [] (by kernel_rfl) ?_
              refine Tr.ret ?_
              have H := Option.some.inj H
              subst H
              exact Fin.of _ [(false, [.lit (.bool r6)])] (by kernel_rfl) rfl rfl

def impl_inF (n : Nat) (x0 : Int) (x1 : Int) (x2 : Int) : Option (Bool) :=
  (bif (decide (x0 ≥ x1)) then (some (decide (x0 ≤ x2))) else (some false))
/-- loop.example/g00326/impl.in -/
theorem impl_in (n : Nat) (x0 : Int) (x1 : Int) (x2 : Int) (r : Bool) (H : impl_inF n x0 x1 x2 = some r) : LCall Try.prog 82 [.val false [.lit (.int .i64 x0)], .val false [.lit (.int .i64 x1)], .val false [.lit (.int .i64 x2)]] [.val false [.lit (.bool r)]] [] := by
  refine LCall.of_body tOk Try.func82 rfl (c := (.seq (.region 0 (rg Try.f82 0) false) (.seq (.region 1 (rg Try.f82 1) false) .ret))) (by kernel_rfl) (Nat.le_of_ble_eq_true (by kernel_rfl)) 0 (rs := [.tmp 6]) rfl [] .nil [(false, [.lit (.bool r)])] [] [] fun cx => ?_
  show Tr _ _ _ ⟨15, 0, [(0, .val false [.lit (.int .i64 x0)]), (1, .val false [.lit (.int .i64 x1)]), (2, .val false [.lit (.int .i64 x2)])], []⟩ _
  unfold impl_inF at H
  refine Tr.rs ?_
  refine LAt.runU tOk 1 (by kernel_rfl) ?_
  refine LAt.doneU [6, 0, 1, 2] [] (by kernel_rfl) ?_
  refine Tr.rs ?_
  refine LAt.runU tOk 4 (by kernel_rfl) ?_
  refine LAt.to ⟨15, 0, [(10, .val false [.lit (.bool (decide (x0 ≥ x1)))]), (9, .val false [.lit (.bool (decide (x0 ≥ x1)))]), (8, .val false [.lit (.int .i64 x1)]), (7, .val false [.lit (.int .i64 x0)]), (6, .val false [.lit (.bool false)]), (0, .val false [.lit (.int .i64 x0)]), (1, .val false [.lit (.int .i64 x1)]), (2, .val false [.lit (.int .i64 x2)])], []⟩ (by kernel_rfl) ?_
  cases h1 : (decide (x0 ≥ x1))
  · have H := bifF h1 H
    refine LAt.runU tOk 5 (by kernel_rfl) ?_
    refine LAt.doneU [6] [] (by kernel_rfl) ?_
    refine Tr.ret ?_
    have H := Option.some.inj H
    subst H
    exact Fin.of _ [(false, [.lit (.bool false)])] (by kernel_rfl) rfl rfl
  · have H := bifT h1 H
    refine LAt.runU tOk 5 (by kernel_rfl) ?_
    refine LAt.doneU [6] [] (by kernel_rfl) ?_
    refine Tr.ret ?_
    have H := Option.some.inj H
    subst H
    exact Fin.of _ [(false, [.lit (.bool (decide (x0 ≤ x2)))])] (by kernel_rfl) rfl rfl

def impl_VecOkF (n : Nat) (x0 : Vec) : Option (Bool) :=
  ((impl_inF n x0.Root 1 99).bind fun r1 => (bif r1 then ((impl_inF n x0.Cost 0 100000).bind fun r2 => (bif r2 then ((impl_inF n x0.Hops 0 10).bind fun r3 => (bif r3 then ((impl_inF n x0.Bridge 1 99).bind fun r4 => (bif r4 then ((impl_inF n x0.Port 0 7).bind fun r5 => (some r5)) else (some false))) else (some false))) else (some false))) else (some false)))
/-- loop.example/g00326/impl.VecOk -/
theorem impl_VecOk (n : Nat) (x0 : Vec) (r : Bool) (H : impl_VecOkF n x0 = some r) : LCall Try.prog 98 [.val true (CV.frzRow (Vec.row x0))] [.val false [.lit (.bool r)]] [] := by
  refine LCall.of_body tOk Try.func98 rfl (c := (.seq (.region 0 (rg Try.f98 0) false) (.seq (.region 1 (rg Try.f98 1) false) .ret))) (by kernel_rfl) (Nat.le_of_ble_eq_true (by kernel_rfl)) 0 (rs := [.tmp 2]) rfl [] .nil [(false, [.lit (.bool r)])] [] [] fun cx => ?_
  show Tr _ _ _ ⟨26, 0, [(0, .val true (Vec.row x0))], []⟩ _
  unfold impl_VecOkF at H
  refine Tr.rs ?_
  refine LAt.runU tOk 2 (by kernel_rfl) ?_
  refine LAt.doneU [2, 1] [1] (by kernel_rfl) ?_
  refine Tr.rs ?_
  refine LAt.runU tOk 2 (by kernel_rfl) ?_
  obtain ⟨r1, er1, H⟩ := bind_some H
  refine LAt.callU tOk [.rd, .rd, .rd] (f := 82) (av := #[.tmp 4, .const (.int .i64 1), .const (.int .i64 99)]) (ats := #[3, 3, 3]) (d := (some 5)) (ty := 4) (g := none) (by kernel_rfl) (by kernel_rfl) (by kernel_rfl) [] (impl_in n x0.Root 1 99 r1 er1) (by kernel_rfl) (.inl rfl) ?_
  refine LAt.runU tOk 1 (by kernel_rfl) ?_
  refine LAt.to ⟨26, 0, [(6, .val false [.lit (.bool r1)]), (5, .val false [.lit (.bool r1)]), (4, .val false [.lit (.int .i64 x0.Root)]), (3, .adr (.box 1) [(0, 0)] 5 0), (2, .val false [.lit (.bool false)]), (1, .adr (.box 1) [(0, 0)] 5 0)], [(1, (Vec.row x0))]⟩ (by kernel_rfl) ?_
  cases h1 : r1
  · have H := bifF h1 H
    refine LAt.runU tOk 20 (by kernel_rfl) ?_
    refine LAt.doneU [2] [] (by kernel_rfl) ?_
    refine Tr.ret ?_
    have H := Option.some.inj H
    subst H
    exact Fin.of _ [(false, [.lit (.bool false)])] (by kernel_rfl) rfl rfl
  · have H := bifT h1 H
    refine LAt.runU tOk 2 (by kernel_rfl) ?_
    obtain ⟨r2, er2, H⟩ := bind_some H
    refine LAt.callU tOk [.rd, .rd, .rd] (f := 82) (av := #[.tmp 8, .const (.int .i64 0), .const (.int .i64 100000)]) (ats := #[3, 3, 3]) (d := (some 9)) (ty := 4) (g := (some (3, true))) (by kernel_rfl) (by kernel_rfl) (by kernel_rfl) [] (impl_in n x0.Cost 0 100000 r2 er2) (by kernel_rfl) (.inl rfl) ?_
    refine LAt.runU tOk 2 (by kernel_rfl) ?_
    refine LAt.to ⟨26, 0, [(11, .val false [.lit (.bool r2)]), (10, .val false [.lit (.bool r2)]), (9, .val false [.lit (.bool r2)]), (8, .val false [.lit (.int .i64 x0.Cost)]), (7, .adr (.box 1) [(0, 0)] 5 1), (6, .val false [.lit (.bool true)]), (5, .val false [.lit (.bool true)]), (4, .val false [.lit (.int .i64 x0.Root)]), (3, .adr (.box 1) [(0, 0)] 5 0), (2, .val false [.lit (.bool false)]), (1, .adr (.box 1) [(0, 0)] 5 0)], [(1, (Vec.row x0))]⟩ (by kernel_rfl) ?_
    cases h2 : r2
    · have H := bifF h2 H
      refine LAt.runU tOk 15 (by kernel_rfl) ?_
      refine LAt.doneU [2] [] (by kernel_rfl) ?_
      refine Tr.ret ?_
      have H := Option.some.inj H
      subst H
      exact Fin.of _ [(false, [.lit (.bool false)])] (by kernel_rfl) rfl rfl
    · have H := bifT h2 H
      refine LAt.runU tOk 2 (by kernel_rfl) ?_
      obtain ⟨r3, er3, H⟩ := bind_some H
      refine LAt.callU tOk [.rd, .rd, .rd] (f := 82) (av := #[.tmp 13, .const (.int .i64 0), .const (.int .i64 10)]) (ats := #[3, 3, 3]) (d := (some 14)) (ty := 4) (g := (some (8, true))) (by kernel_rfl) (by kernel_rfl) (by kernel_rfl) [] (impl_in n x0.Hops 0 10 r3 er3) (by kernel_rfl) (.inl rfl) ?_
      refine LAt.runU tOk 2 (by kernel_rfl) ?_
      refine LAt.to ⟨26, 0, [(16, .val false [.lit (.bool r3)]), (15, .val false [.lit (.bool r3)]), (14, .val false [.lit (.bool r3)]), (13, .val false [.lit (.int .i64 x0.Hops)]), (12, .adr (.box 1) [(0, 0)] 5 2), (11, .val false [.lit (.bool true)]), (10, .val false [.lit (.bool true)]), (9, .val false [.lit (.bool true)]), (8, .val false [.lit (.int .i64 x0.Cost)]), (7, .adr (.box 1) [(0, 0)] 5 1), (6, .val false [.lit (.bool true)]), (5, .val false [.lit (.bool true)]), (4, .val false [.lit (.int .i64 x0.Root)]), (3, .adr (.box 1) [(0, 0)] 5 0), (2, .val false [.lit (.bool false)]), (1, .adr (.box 1) [(0, 0)] 5 0)], [(1, (Vec.row x0))]⟩ (by kernel_rfl) ?_
      cases h3 : r3
      · have H := bifF h3 H
        refine LAt.runU tOk 10 (by kernel_rfl) ?_
        refine LAt.doneU [2] [] (by kernel_rfl) ?_
        refine Tr.ret ?_
        have H := Option.some.inj H
        subst H
        exact Fin.of _ [(false, [.lit (.bool false)])] (by kernel_rfl) rfl rfl
      · have H := bifT h3 H
        refine LAt.runU tOk 2 (by kernel_rfl) ?_
        obtain ⟨r4, er4, H⟩ := bind_some H
        refine LAt.callU tOk [.rd, .rd, .rd] (f := 82) (av := #[.tmp 18, .const (.int .i64 1), .const (.int .i64 99)]) (ats := #[3, 3, 3]) (d := (some 19)) (ty := 4) (g := (some (13, true))) (by kernel_rfl) (by kernel_rfl) (by kernel_rfl) [] (impl_in n x0.Bridge 1 99 r4 er4) (by kernel_rfl) (.inl rfl) ?_
        refine LAt.runU tOk 2 (by kernel_rfl) ?_
        refine LAt.to ⟨26, 0, [(21, .val false [.lit (.bool r4)]), (20, .val false [.lit (.bool r4)]), (19, .val false [.lit (.bool r4)]), (18, .val false [.lit (.int .i64 x0.Bridge)]), (17, .adr (.box 1) [(0, 0)] 5 3), (16, .val false [.lit (.bool true)]), (15, .val false [.lit (.bool true)]), (14, .val false [.lit (.bool true)]), (13, .val false [.lit (.int .i64 x0.Hops)]), (12, .adr (.box 1) [(0, 0)] 5 2), (11, .val false [.lit (.bool true)]), (10, .val false [.lit (.bool true)]), (9, .val false [.lit (.bool true)]), (8, .val false [.lit (.int .i64 x0.Cost)]), (7, .adr (.box 1) [(0, 0)] 5 1), (6, .val false [.lit (.bool true)]), (5, .val false [.lit (.bool true)]), (4, .val false [.lit (.int .i64 x0.Root)]), (3, .adr (.box 1) [(0, 0)] 5 0), (2, .val false [.lit (.bool false)]), (1, .adr (.box 1) [(0, 0)] 5 0)], [(1, (Vec.row x0))]⟩ (by kernel_rfl) ?_
        cases h4 : r4
        · have H := bifF h4 H
          refine LAt.runU tOk 5 (by kernel_rfl) ?_
          refine LAt.doneU [2] [] (by kernel_rfl) ?_
          refine Tr.ret ?_
          have H := Option.some.inj H
          subst H
          exact Fin.of _ [(false, [.lit (.bool false)])] (by kernel_rfl) rfl rfl
        · have H := bifT h4 H
          refine LAt.runU tOk 2 (by kernel_rfl) ?_
          obtain ⟨r5, er5, H⟩ := bind_some H
          refine LAt.callU tOk [.rd, .rd, .rd] (f := 82) (av := #[.tmp 23, .const (.int .i64 0), .const (.int .i64 7)]) (ats := #[3, 3, 3]) (d := (some 24)) (ty := 4) (g := (some (18, true))) (by kernel_rfl) (by kernel_rfl) (by kernel_rfl) [] (impl_in n x0.Port 0 7 r5 er5) (by kernel_rfl) (.inl rfl) ?_
          refine LAt.runU tOk 2 (by kernel_rfl) ?_
          refine LAt.doneU [2] [] (by kernel_rfl) ?_
          refine Tr.ret ?_
          have H := Option.some.inj H
          subst H
          exact Fin.of _ [(false, [.lit (.bool r5)])] (by kernel_rfl) rfl rfl

def impl_PtOkF (n : Nat) (x0 : Pt) : Option (Bool) :=
  ((impl_inF n x0.Cost 1 1000).bind fun r1 => (bif (!r1) then (some false) else (bif x0.Has then (bif (!x0.Up) then (some false) else ((impl_VecOkF n x0.Heard).bind fun r2 => (some r2))) else (some ((x0.Heard.Root == 0) && ((x0.Heard.Cost == 0) && ((x0.Heard.Hops == 0) && ((x0.Heard.Bridge == 0) && ((x0.Heard.Port == 0) && true)))))))))
/-- loop.example/g00326/impl.PtOk -/
theorem impl_PtOk (n : Nat) (x0 : Pt) (r : Bool) (H : impl_PtOkF n x0 = some r) : LCall Try.prog 29 [.val true (CV.frzRow (Pt.row x0))] [.val false [.lit (.bool r)]] [] := by
  refine LCall.of_body tOk Try.func29 rfl (c := (.seq (.region 0 (rg Try.f29 0) false) (.seq (.seq (.region 1 (rg Try.f29 1) false) (.cond (.tmp 15) (.seq (.region 2 (rg Try.f29 2) false) .ret) .skip)) (.seq (.seq (.region 3 (rg Try.f29 3) false) (.cond (.tmp 17) (.seq (.region 4 (rg Try.f29 4) false) .ret) .skip)) (.seq (.region 5 (rg Try.f29 5) false) .ret))))) (by kernel_rfl) (Nat.le_of_ble_eq_true (by kernel_rfl)) 0 (rs := [.tmp 2]) rfl [] .nil [(false, [.lit (.bool r)])] [] [] fun cx => ?_
  show Tr _ _ _ ⟨25, 0, [(0, .val true (Pt.row x0))], []⟩ _
  unfold impl_PtOkF at H
  refine Tr.rs ?_
  refine LAt.runU tOk 2 (by kernel_rfl) ?_
  refine LAt.doneU [2, 1] [1] (by kernel_rfl) ?_
  refine Tr.seq ?_
  refine Tr.rs ?_
  refine LAt.runU tOk 2 (by kernel_rfl) ?_
  obtain ⟨r1, er1, H⟩ := bind_some H
  refine LAt.callU tOk [.rd, .rd, .rd] (f := 82) (av := #[.tmp 4, .const (.int .i64 1), .const (.int .i64 1000)]) (ats := #[3, 3, 3]) (d := (some 5)) (ty := 4) (g := none) (by kernel_rfl) (by kernel_rfl) (by kernel_rfl) [] (impl_in n x0.Cost 1 1000 r1 er1) (by kernel_rfl) (.inl rfl) ?_
  refine LAt.runU tOk 2 (by kernel_rfl) ?_
  refine LAt.to ⟨25, 0, [(7, .val false [.lit (.bool (!r1))]), (6, .val false [.lit (.bool (!r1))]), (5, .val false [.lit (.bool r1)]), (4, .val false [.lit (.int .i64 x0.Cost)]), (3, .adr (.box 1) [(0, 0)] 8 1), (2, .val false [.lit (.bool false)]), (1, .adr (.box 1) [(0, 0)] 8 0)], [(1, (Pt.row x0))]⟩ (by kernel_rfl) ?_
  cases h1 : (!r1)
  · have H := bifF h1 H
    refine LAt.runU tOk 3 (by kernel_rfl) ?_
    refine LAt.to ⟨25, 0, [(10, .val false [.lit (.bool x0.Has)]), (9, .val false [.lit (.bool x0.Has)]), (8, .adr (.box 1) [(0, 0)] 8 2), (7, .val false [.lit (.bool false)]), (6, .val false [.lit (.bool false)]), (5, .val false [.lit (.bool r1)]), (4, .val false [.lit (.int .i64 x0.Cost)]), (3, .adr (.box 1) [(0, 0)] 8 1), (2, .val false [.lit (.bool false)]), (1, .adr (.box 1) [(0, 0)] 8 0)], [(1, (Pt.row x0))]⟩ (by kernel_rfl) ?_
    cases h2 : x0.Has
    · have H := bifF h2 H
      refine LAt.runU tOk 5 (by kernel_rfl) ?_
      refine LAt.doneU [15, 2, 1] [1] (by kernel_rfl) ?_
      refine Tr.cond (b := false) (by kernel_rfl) (fun h => nomatch h) (fun _ => ?_)
      refine Tr.skip ?_
      show Tr _ _ _ _ _
      refine Tr.seq ?_
      refine Tr.rs ?_
      refine LAt.runU tOk 2 (by kernel_rfl) ?_
      refine LAt.doneU [17, 2, 1] [1] (by kernel_rfl) ?_
      refine Tr.to ⟨25, 0, [(17, .val false [.lit (.bool x0.Has)]), (2, .val false [.lit (.bool false)]), (1, .adr (.box 1) [(0, 0)] 8 0)], [(1, (Pt.row x0))]⟩ (by kernel_rfl) ?_
      rw [h2]
      refine Tr.cond (b := false) (by kernel_rfl) (fun h => nomatch h) (fun _ => ?_)
      refine Tr.skip ?_
      show Tr _ _ _ _ _
      refine Tr.rs ?_
      refine LAt.runU tOk 3 (by kernel_rfl) ?_
      refine LAt.eqS false (t := 39) (ty := 39) (ty' := 4) (x := (.tmp 22)) (y := (.tmp 23)) (d := 24) ((x0.Heard.Root == 0) && ((x0.Heard.Cost == 0) && ((x0.Heard.Hops == 0) && ((x0.Heard.Bridge == 0) && ((x0.Heard.Port == 0) && true))))) _ (by kernel_rfl) (by kernel_rfl) (by kernel_rfl) rfl ?_
      refine LAt.runU tOk 1 (by kernel_rfl) ?_
      refine LAt.doneU [2] [] (by kernel_rfl) ?_
      refine Tr.ret ?_
      have H := Option.some.inj H
      subst H
      exact Fin.of _ [(false, [.lit (.bool ((x0.Heard.Root == 0) && ((x0.Heard.Cost == 0) && ((x0.Heard.Hops == 0) && ((x0.Heard.Bridge == 0) && ((x0.Heard.Port == 0) && true))))))])] (by kernel_rfl) rfl rfl
    · have H := bifT h2 H
      refine LAt.runU tOk 5 (by kernel_rfl) ?_
      refine LAt.doneU [15, 2, 1] [1] (by kernel_rfl) ?_
      refine Tr.to ⟨25, 0, [(15, .val false [.lit (.bool (!x0.Up))]), (2, .val false [.lit (.bool false)]), (1, .adr (.box 1) [(0, 0)] 8 0)], [(1, (Pt.row x0))]⟩ (by kernel_rfl) ?_
      cases h3 : (!x0.Up)
      · have H := bifF h3 H
        refine Tr.cond (b := false) (by kernel_rfl) (fun h => nomatch h) (fun _ => ?_)
        refine Tr.skip ?_
        show Tr _ _ _ _ _
        refine Tr.seq ?_
        refine Tr.rs ?_
        refine LAt.runU tOk 2 (by kernel_rfl) ?_
        refine LAt.doneU [17, 2, 1] [1] (by kernel_rfl) ?_
        refine Tr.to ⟨25, 0, [(17, .val false [.lit (.bool x0.Has)]), (2, .val false [.lit (.bool false)]), (1, .adr (.box 1) [(0, 0)] 8 0)], [(1, (Pt.row x0))]⟩ (by kernel_rfl) ?_
        rw [h2]
        refine Tr.cond (b := true) (by kernel_rfl) (fun _ => ?_) (fun h => nomatch h)
        refine Tr.rs ?_
        refine LAt.runU tOk 2 (by kernel_rfl) ?_
        obtain ⟨r2, er2, H⟩ := bind_some H
        refine LAt.callU tOk [.rd] (f := 98) (av := #[.tmp 19]) (ats := #[39]) (d := (some 20)) (ty := 4) (g := none) (by kernel_rfl) (by kernel_rfl) (by kernel_rfl) [] (impl_VecOk n x0.Heard r2 er2) (by kernel_rfl) (.inl rfl) ?_
        refine LAt.runU tOk 1 (by kernel_rfl) ?_
        refine LAt.doneU [2, 1] [1] (by kernel_rfl) ?_
        refine Tr.ret ?_
        have H := Option.some.inj H
        subst H
        exact Fin.of _ [(false, [.lit (.bool r2)])] (by kernel_rfl) rfl rfl
      · have H := bifT h3 H
        refine Tr.cond (b := true) (by kernel_rfl) (fun _ => ?_) (fun h => nomatch h)
        refine Tr.rs ?_
        refine LAt.runU tOk 1 (by kernel_rfl) ?_
        refine LAt.doneU [2, 1] [1] (by kernel_rfl) ?_
        refine Tr.ret ?_
        have H := Option.some.inj H
        subst H
        exact Fin.of _ [(false, [.lit (.bool false)])] (by kernel_rfl) rfl rfl
  · have H := bifT h1 H
    refine LAt.runU tOk 8 (by kernel_rfl) ?_
    refine LAt.doneU [15, 2, 1] [1] (by kernel_rfl) ?_
    refine Tr.cond (b := true) (by kernel_rfl) (fun _ => ?_) (fun h => nomatch h)
    refine Tr.rs ?_
    refine LAt.runU tOk 1 (by kernel_rfl) ?_
    refine LAt.doneU [2, 1] [1] (by kernel_rfl) ?_
    refine Tr.ret ?_
    have H := Option.some.inj H
    subst H
    exact Fin.of _ [(false, [.lit (.bool false)])] (by kernel_rfl) rfl rfl

def impl_fentOkF (n : Nat) (x0 : Fent) : Option (Bool) :=
  ((impl_inF n x0.Tag 1 99).bind fun r1 => (bif r1 then ((impl_inF n x0.Mac 1 9999).bind fun r2 => (bif r2 then ((impl_inF n x0.Port 0 7).bind fun r3 => (bif r3 then ((impl_inF n x0.Age 0 4).bind fun r4 => (bif r4 then (bif (!x0.Static) then (some true) else (some (x0.Age == 0))) else (some false))) else (some false))) else (some false))) else (some false)))
/-- loop.example/g00326/impl.fentOk -/
theorem impl_fentOk (n : Nat) (x0 : Fent) (r : Bool) (H : impl_fentOkF n x0 = some r) : LCall Try.prog 158 [.val true (CV.frzRow (Fent.row x0))] [.val false [.lit (.bool r)]] [] := by
  refine LCall.of_body tOk Try.func158 rfl (c := (.seq (.region 0 (rg Try.f158 0) false) (.seq (.region 1 (rg Try.f158 1) false) .ret))) (by kernel_rfl) (Nat.le_of_ble_eq_true (by kernel_rfl)) 0 (rs := [.tmp 2]) rfl [] .nil [(false, [.lit (.bool r)])] [] [] fun cx => ?_
  show Tr _ _ _ ⟨31, 0, [(0, .val true (Fent.row x0))], []⟩ _
  unfold impl_fentOkF at H
  refine Tr.rs ?_
  refine LAt.runU tOk 2 (by kernel_rfl) ?_
  refine LAt.doneU [2, 1] [1] (by kernel_rfl) ?_
  refine Tr.rs ?_
  refine LAt.runU tOk 2 (by kernel_rfl) ?_
  obtain ⟨r1, er1, H⟩ := bind_some H
  refine LAt.callU tOk [.rd, .rd, .rd] (f := 82) (av := #[.tmp 4, .const (.int .i64 1), .const (.int .i64 99)]) (ats := #[3, 3, 3]) (d := (some 5)) (ty := 4) (g := none) (by kernel_rfl) (by kernel_rfl) (by kernel_rfl) [] (impl_in n x0.Tag 1 99 r1 er1) (by kernel_rfl) (.inl rfl) ?_
  refine LAt.runU tOk 1 (by kernel_rfl) ?_
  refine LAt.to ⟨31, 0, [(6, .val false [.lit (.bool r1)]), (5, .val false [.lit (.bool r1)]), (4, .val false [.lit (.int .i64 x0.Tag)]), (3, .adr (.box 1) [(0, 0)] 5 0), (2, .val false [.lit (.bool false)]), (1, .adr (.box 1) [(0, 0)] 5 0)], [(1, (Fent.row x0))]⟩ (by kernel_rfl) ?_
  cases h1 : r1
  · have H := bifF h1 H
    refine LAt.runU tOk 25 (by kernel_rfl) ?_
    refine LAt.doneU [2] [] (by kernel_rfl) ?_
    refine Tr.ret ?_
    have H := Option.some.inj H
    subst H
    exact Fin.of _ [(false, [.lit (.bool false)])] (by kernel_rfl) rfl rfl
  · have H := bifT h1 H
    refine LAt.runU tOk 2 (by kernel_rfl) ?_
    obtain ⟨r2, er2, H⟩ := bind_some H
    refine LAt.callU tOk [.rd, .rd, .rd] (f := 82) (av := #[.tmp 8, .const (.int .i64 1), .const (.int .i64 9999)]) (ats := #[3, 3, 3]) (d := (some 9)) (ty := 4) (g := (some (3, true))) (by kernel_rfl) (by kernel_rfl) (by kernel_rfl) [] (impl_in n x0.Mac 1 9999 r2 er2) (by kernel_rfl) (.inl rfl) ?_
    refine LAt.runU tOk 2 (by kernel_rfl) ?_
    refine LAt.to ⟨31, 0, [(11, .val false [.lit (.bool r2)]), (10, .val false [.lit (.bool r2)]), (9, .val false [.lit (.bool r2)]), (8, .val false [.lit (.int .i64 x0.Mac)]), (7, .adr (.box 1) [(0, 0)] 5 1), (6, .val false [.lit (.bool true)]), (5, .val false [.lit (.bool true)]), (4, .val false [.lit (.int .i64 x0.Tag)]), (3, .adr (.box 1) [(0, 0)] 5 0), (2, .val false [.lit (.bool false)]), (1, .adr (.box 1) [(0, 0)] 5 0)], [(1, (Fent.row x0))]⟩ (by kernel_rfl) ?_
    cases h2 : r2
    · have H := bifF h2 H
      refine LAt.runU tOk 20 (by kernel_rfl) ?_
      refine LAt.doneU [2] [] (by kernel_rfl) ?_
      refine Tr.ret ?_
      have H := Option.some.inj H
      subst H
      exact Fin.of _ [(false, [.lit (.bool false)])] (by kernel_rfl) rfl rfl
    · have H := bifT h2 H
      refine LAt.runU tOk 2 (by kernel_rfl) ?_
      obtain ⟨r3, er3, H⟩ := bind_some H
      refine LAt.callU tOk [.rd, .rd, .rd] (f := 82) (av := #[.tmp 13, .const (.int .i64 0), .const (.int .i64 7)]) (ats := #[3, 3, 3]) (d := (some 14)) (ty := 4) (g := (some (8, true))) (by kernel_rfl) (by kernel_rfl) (by kernel_rfl) [] (impl_in n x0.Port 0 7 r3 er3) (by kernel_rfl) (.inl rfl) ?_
      refine LAt.runU tOk 2 (by kernel_rfl) ?_
      refine LAt.to ⟨31, 0, [(16, .val false [.lit (.bool r3)]), (15, .val false [.lit (.bool r3)]), (14, .val false [.lit (.bool r3)]), (13, .val false [.lit (.int .i64 x0.Port)]), (12, .adr (.box 1) [(0, 0)] 5 2), (11, .val false [.lit (.bool true)]), (10, .val false [.lit (.bool true)]), (9, .val false [.lit (.bool true)]), (8, .val false [.lit (.int .i64 x0.Mac)]), (7, .adr (.box 1) [(0, 0)] 5 1), (6, .val false [.lit (.bool true)]), (5, .val false [.lit (.bool true)]), (4, .val false [.lit (.int .i64 x0.Tag)]), (3, .adr (.box 1) [(0, 0)] 5 0), (2, .val false [.lit (.bool false)]), (1, .adr (.box 1) [(0, 0)] 5 0)], [(1, (Fent.row x0))]⟩ (by kernel_rfl) ?_
      cases h3 : r3
      · have H := bifF h3 H
        refine LAt.runU tOk 15 (by kernel_rfl) ?_
        refine LAt.doneU [2] [] (by kernel_rfl) ?_
        refine Tr.ret ?_
        have H := Option.some.inj H
        subst H
        exact Fin.of _ [(false, [.lit (.bool false)])] (by kernel_rfl) rfl rfl
      · have H := bifT h3 H
        refine LAt.runU tOk 2 (by kernel_rfl) ?_
        obtain ⟨r4, er4, H⟩ := bind_some H
        refine LAt.callU tOk [.rd, .rd, .rd] (f := 82) (av := #[.tmp 18, .const (.int .i64 0), .const (.int .i64 4)]) (ats := #[3, 3, 3]) (d := (some 19)) (ty := 4) (g := (some (13, true))) (by kernel_rfl) (by kernel_rfl) (by kernel_rfl) [] (impl_in n x0.Age 0 4 r4 er4) (by kernel_rfl) (.inl rfl) ?_
        refine LAt.runU tOk 2 (by kernel_rfl) ?_
        refine LAt.to ⟨31, 0, [(21, .val false [.lit (.bool r4)]), (20, .val false [.lit (.bool r4)]), (19, .val false [.lit (.bool r4)]), (18, .val false [.lit (.int .i64 x0.Age)]), (17, .adr (.box 1) [(0, 0)] 5 3), (16, .val false [.lit (.bool true)]), (15, .val false [.lit (.bool true)]), (14, .val false [.lit (.bool true)]), (13, .val false [.lit (.int .i64 x0.Port)]), (12, .adr (.box 1) [(0, 0)] 5 2), (11, .val false [.lit (.bool true)]), (10, .val false [.lit (.bool true)]), (9, .val false [.lit (.bool true)]), (8, .val false [.lit (.int .i64 x0.Mac)]), (7, .adr (.box 1) [(0, 0)] 5 1), (6, .val false [.lit (.bool true)]), (5, .val false [.lit (.bool true)]), (4, .val false [.lit (.int .i64 x0.Tag)]), (3, .adr (.box 1) [(0, 0)] 5 0), (2, .val false [.lit (.bool false)]), (1, .adr (.box 1) [(0, 0)] 5 0)], [(1, (Fent.row x0))]⟩ (by kernel_rfl) ?_
        cases h4 : r4
        · have H := bifF h4 H
          refine LAt.runU tOk 10 (by kernel_rfl) ?_
          refine LAt.doneU [2] [] (by kernel_rfl) ?_
          refine Tr.ret ?_
          have H := Option.some.inj H
          subst H
          exact Fin.of _ [(false, [.lit (.bool false)])] (by kernel_rfl) rfl rfl
        · have H := bifT h4 H
          refine LAt.runU tOk 4 (by kernel_rfl) ?_
          refine LAt.to ⟨31, 0, [(25, .val false [.lit (.bool (!x0.Static))]), (24, .val false [.lit (.bool (!x0.Static))]), (23, .val false [.lit (.bool x0.Static)]), (22, .adr (.box 1) [(0, 0)] 5 4), (21, .val false [.lit (.bool true)]), (20, .val false [.lit (.bool true)]), (19, .val false [.lit (.bool true)]), (18, .val false [.lit (.int .i64 x0.Age)]), (17, .adr (.box 1) [(0, 0)] 5 3), (16, .val false [.lit (.bool true)]), (15, .val false [.lit (.bool true)]), (14, .val false [.lit (.bool true)]), (13, .val false [.lit (.int .i64 x0.Port)]), (12, .adr (.box 1) [(0, 0)] 5 2), (11, .val false [.lit (.bool true)]), (10, .val false [.lit (.bool true)]), (9, .val false [.lit (.bool true)]), (8, .val false [.lit (.int .i64 x0.Mac)]), (7, .adr (.box 1) [(0, 0)] 5 1), (6, .val false [.lit (.bool true)]), (5, .val false [.lit (.bool true)]), (4, .val false [.lit (.int .i64 x0.Tag)]), (3, .adr (.box 1) [(0, 0)] 5 0), (2, .val false [.lit (.bool false)]), (1, .adr (.box 1) [(0, 0)] 5 0)], [(1, (Fent.row x0))]⟩ (by kernel_rfl) ?_
          cases h5 : (!x0.Static)
          · have H := bifF h5 H
            refine LAt.runU tOk 6 (by kernel_rfl) ?_
            refine LAt.doneU [2] [] (by kernel_rfl) ?_
            refine Tr.ret ?_
            have H := Option.some.inj H
            subst H
            exact Fin.of _ [(false, [.lit (.bool (x0.Age == 0))])] (by kernel_rfl) rfl rfl
          · have H := bifT h5 H
            refine LAt.runU tOk 6 (by kernel_rfl) ?_
            refine LAt.doneU [2] [] (by kernel_rfl) ?_
            refine Tr.ret ?_
            have H := Option.some.inj H
            subst H
            exact Fin.of _ [(false, [.lit (.bool true)])] (by kernel_rfl) rfl rfl

def impl_behindF (n : Nat) (x0 : Fent) (x1 : Int) (x2 : Int) : Option (Bool) :=
  (bif (decide (x0.Tag > x1)) then (some true) else (bif (x0.Tag == x1) then (some (decide (x0.Mac > x2))) else (some false)))
/-- loop.example/g00326/impl.behind -/
theorem impl_behind (n : Nat) (x0 : Fent) (x1 : Int) (x2 : Int) (r : Bool) (H : impl_behindF n x0 x1 x2 = some r) : LCall Try.prog 159 [.val true (CV.frzRow (Fent.row x0)), .val false [.lit (.int .i64 x1)], .val false [.lit (.int .i64 x2)]] [.val false [.lit (.bool r)]] [] := by
  refine LCall.of_body tOk Try.func159 rfl (c := (.seq (.region 0 (rg Try.f159 0) false) (.seq (.region 1 (rg Try.f159 1) false) .ret))) (by kernel_rfl) (Nat.le_of_ble_eq_true (by kernel_rfl)) 0 (rs := [.tmp 6]) rfl [] .nil [(false, [.lit (.bool r)])] [] [] fun cx => ?_
  show Tr _ _ _ ⟨23, 0, [(0, .val true (Fent.row x0)), (1, .val false [.lit (.int .i64 x1)]), (2, .val false [.lit (.int .i64 x2)])], []⟩ _
  unfold impl_behindF at H
  refine Tr.rs ?_
  refine LAt.runU tOk 2 (by kernel_rfl) ?_
  refine LAt.doneU [6, 3, 1, 2] [3] (by kernel_rfl) ?_
  refine Tr.rs ?_
  refine LAt.runU tOk 5 (by kernel_rfl) ?_
  refine LAt.to ⟨23, 0, [(11, .val false [.lit (.bool (decide (x0.Tag > x1)))]), (10, .val false [.lit (.bool (decide (x0.Tag > x1)))]), (9, .val false [.lit (.int .i64 x1)]), (8, .val false [.lit (.int .i64 x0.Tag)]), (7, .adr (.box 3) [(0, 0)] 5 0), (6, .val false [.lit (.bool false)]), (3, .adr (.box 3) [(0, 0)] 5 0), (1, .val false [.lit (.int .i64 x1)]), (2, .val false [.lit (.int .i64 x2)])], [(3, (Fent.row x0))]⟩ (by kernel_rfl) ?_
  cases h1 : (decide (x0.Tag > x1))
  · have H := bifF h1 H
    refine LAt.runU tOk 5 (by kernel_rfl) ?_
    refine LAt.to ⟨23, 0, [(16, .val false [.lit (.bool (x0.Tag == x1))]), (15, .val false [.lit (.bool (x0.Tag == x1))]), (14, .val false [.lit (.int .i64 x1)]), (13, .val false [.lit (.int .i64 x0.Tag)]), (12, .adr (.box 3) [(0, 0)] 5 0), (11, .val false [.lit (.bool false)]), (10, .val false [.lit (.bool false)]), (9, .val false [.lit (.int .i64 x1)]), (8, .val false [.lit (.int .i64 x0.Tag)]), (7, .adr (.box 3) [(0, 0)] 5 0), (6, .val false [.lit (.bool false)]), (3, .adr (.box 3) [(0, 0)] 5 0), (1, .val false [.lit (.int .i64 x1)]), (2, .val false [.lit (.int .i64 x2)])], [(3, (Fent.row x0))]⟩ (by kernel_rfl) ?_
    cases h2 : (x0.Tag == x1)
    · have H := bifF h2 H
      refine LAt.runU tOk 7 (by kernel_rfl) ?_
      refine LAt.doneU [6] [] (by kernel_rfl) ?_
      refine Tr.ret ?_
      have H := Option.some.inj H
      subst H
      exact Fin.of _ [(false, [.lit (.bool false)])] (by kernel_rfl) rfl rfl
    · have H := bifT h2 H
      refine LAt.runU tOk 7 (by kernel_rfl) ?_
      refine LAt.doneU [6] [] (by kernel_rfl) ?_
      refine Tr.ret ?_
      have H := Option.some.inj H
      subst H
      exact Fin.of _ [(false, [.lit (.bool (decide (x0.Mac > x2)))])] (by kernel_rfl) rfl rfl
  · have H := bifT h1 H
    refine LAt.runU tOk 12 (by kernel_rfl) ?_
    refine LAt.doneU [6] [] (by kernel_rfl) ?_
    refine Tr.ret ?_
    have H := Option.some.inj H
    subst H
    exact Fin.of _ [(false, [.lit (.bool true)])] (by kernel_rfl) rfl rfl

def impl_FdbOk_J1 (n : Nat) (x0 : (List Fent)) : Option (Bool) :=
  (some (decide ((x0.length : Int) ≤ 12)))
def impl_FdbOk_L2 (n : Nat) : Nat → (List Fent) → Int → Option ((Unit) ⊕ (Bool))
  | 0, _, _ => none
  | mo2 + 1, x0, y1 => (bif (decide (y1 < (x0.length : Int))) then ((idx x0 y1).bind fun v3 => ((impl_fentOkF n v3).bind fun r4 => (bif (!r4) then (some (Sum.inr false)) else (bif (decide (y1 > 0)) then ((idx x0 (IntKind.wrap .i64 (y1 - 1))).bind fun v5 => ((idx x0 (IntKind.wrap .i64 (y1 - 1))).bind fun v6 => ((impl_behindF n v3 v5.Tag v6.Mac).bind fun r7 => (bif (!r7) then (some (Sum.inr false)) else (impl_FdbOk_L2 n mo2 x0 (IntKind.wrap .i64 (y1 + 1))))))) else (impl_FdbOk_L2 n mo2 x0 (IntKind.wrap .i64 (y1 + 1))))))) else (some (Sum.inl ())))
def impl_FdbOkF (n : Nat) (x0 : (List Fent)) : Option (Bool) :=
  ((impl_FdbOk_L2 n n x0 0).bind fun o => match o with | .inl _ => (impl_FdbOk_J1 n x0) | .inr r => some r)
/-- loop.example/g00326/impl.FdbOk -/
theorem impl_FdbOk (n : Nat) (x0 : (List Fent)) (r : Bool) (H : impl_FdbOkF n x0 = some r) : LCall Try.prog 128 [.val false [.sl false 5 (CV.frzEs (x0.map Fent.row))]] [.val false [.lit (.bool r)]] [] := by
  refine LCall.of_body tOk Try.func128 rfl (c := (.seq (.region 0 (rg Try.f128 0) false) (.seq (.seq (.region 1 (rg Try.f128 1) false) (.block 0 (.loop (.seq (.region 2 (rg Try.f128 2) false) (.seq (.cond (.tmp 8) .skip (.exit 0)) (.seq (.block 1 (.seq (.region 3 (rg Try.f128 3) false) (.seq (.region 4 (rg Try.f128 4) true) (.cond (.tmp 35) (.seq (.region 5 (rg Try.f128 5) false) .ret) .skip)))) (.region 6 (rg Try.f128 6) false))))))) (.seq (.region 7 (rg Try.f128 7) false) .ret)))) (by kernel_rfl) (Nat.le_of_ble_eq_true (by kernel_rfl)) 0 (rs := [.tmp 2]) rfl [] .nil [(false, [.lit (.bool r)])] [] [] fun cx => ?_
  show Tr _ _ _ ⟨40, 0, [(0, .val false [.sl false 5 (CV.frzEs (x0.map Fent.row))])], []⟩ _
  unfold impl_FdbOkF at H
  refine Tr.rs ?_
  refine LAt.runU tOk 1 (by kernel_rfl) ?_
  refine LAt.doneU [2, 0] [] (by kernel_rfl) ?_
  refine Tr.seq ?_
  refine Tr.rs ?_
  refine LAt.runU tOk 1 (by kernel_rfl) ?_
  refine LAt.lenE tOk (t := 77) (ty := 3) (e := 147) (x := (.tmp 5)) (d := 6) (g := none) ⟨(.slot 5), [], 0, false, 5, (CV.frzEs (x0.map Fent.row))⟩ (x0).length _ (by kernel_rfl) (by kernel_rfl) (by kernel_rfl) (by kernel_rfl) (by kernel_rfl) (frz_len _ _) rfl ?_
  refine LAt.runU tOk 1 (by kernel_rfl) ?_
  refine LAt.doneU [7, 6, 5, 2, 0] [] (by kernel_rfl) ?_
  obtain ⟨o2, eo2, Ho2⟩ := bind_some H
  clear H
  refine Tr.mid (ι := Unit) (fun v => ⟨40, 0, [(2, .val false [.lit (.bool false)]), (0, .val false [.sl false 5 (CV.frzEs (x0.map Fent.row))])], []⟩) (fun v => impl_FdbOk_J1 n x0 = some r) ?_ ?_
  · refine Tr.block ?_
    refine Tr.loop (ι := Nat × (Int)) (fun v => ⟨40, 0, [(7, .val false [.lit (.int .i64 v.2)]), (6, .val false [.lit (.int .i64 (x0.length : Int))]), (5, .val false [.sl false 5 (CV.frzEs (x0.map Fent.row))]), (2, .val false [.lit (.bool false)]), (0, .val false [.sl false 5 (CV.frzEs (x0.map Fent.row))])], []⟩) (fun v => impl_FdbOk_L2 n v.1 x0 v.2 = some o2) (fun v => v.1) (n, 0) eo2 (St.sub_of [7, 6, 5, 2, 0] [] (by kernel_rfl)) ?_
    rintro ⟨mo2, y1⟩ H
    have H : impl_FdbOk_L2 n mo2 x0 y1 = some o2 := H
    obtain _ | mo2 := mo2
    · cases (show (none : Option _) = some o2 from H)
    · rw [impl_FdbOk_L2] at H
      refine Tr.rs ?_
      refine LAt.runU tOk 1 (by kernel_rfl) ?_
      refine LAt.doneU [8, 7, 6, 5, 2, 0] [] (by kernel_rfl) ?_
      refine Tr.seq ?_
      refine Tr.to ⟨40, 0, [(8, .val false [.lit (.bool (decide (y1 < (x0.length : Int))))]), (7, .val false [.lit (.int .i64 y1)]), (6, .val false [.lit (.int .i64 (x0.length : Int))]), (5, .val false [.sl false 5 (CV.frzEs (x0.map Fent.row))]), (2, .val false [.lit (.bool false)]), (0, .val false [.sl false 5 (CV.frzEs (x0.map Fent.row))])], []⟩ (by kernel_rfl) ?_
      cases h1 : (decide (y1 < (x0.length : Int)))
      · have H := bifF h1 H
        refine Tr.cond (b := false) (by kernel_rfl) (fun h => nomatch h) (fun _ => ?_)
        refine Tr.exit ?_
        refine And.intro (fun _ => ?_) (fun h => absurd rfl h)
        have H := Option.some.inj H
        subst H
        have H := Ho2
        dsimp only at H
        exact Exists.intro () (And.intro H (St.sub_of [2, 0] [] (by kernel_rfl)))
      · have H := bifT h1 H
        refine Tr.cond (b := true) (by kernel_rfl) (fun _ => ?_) (fun h => nomatch h)
        refine Tr.skip ?_
        show Tr _ _ _ _ _
        refine Tr.seq ?_
        refine Tr.block ?_
        refine Tr.rs ?_
        refine LAt.runU tOk 1 (by kernel_rfl) ?_
        obtain ⟨v3, ev3, H⟩ := bind_some H
        refine LAt.indexF tOk (t := 77) (ty := 0) (x := (.tmp 5)) (y := (.tmp 7)) (d := 10) (g := none) ⟨(.slot 5), [], 0, false, 5, (CV.frzEs (x0.map Fent.row))⟩ y1 (Fent.row v3) _ (by kernel_rfl) (by kernel_rfl) (by kernel_rfl) (by kernel_rfl) rfl (idx_isF ev3) rfl ?_
        refine LAt.runU tOk 4 (by kernel_rfl) ?_
        refine LAt.doneU [3, 4, 11, 10, 9, 8, 7, 6, 5, 2, 0] [4] (by kernel_rfl) ?_
        obtain ⟨r4, er4, H⟩ := bind_some H
        refine Tr.to ⟨40, 0, [(3, .val false [.lit (.int .i64 y1)]), (4, .adr (.box 4) [(0, 0)] 5 0), (11, .val true (Fent.row v3)), (10, .fad ((Fent.row v3))), (9, .val false [.lit (.int .i64 y1)]), (8, .val false [.lit (.bool true)]), (7, .val false [.lit (.int .i64 y1)]), (6, .val false [.lit (.int .i64 (x0.length : Int))]), (5, .val false [.sl false 5 (CV.frzEs (x0.map Fent.row))]), (2, .val false [.lit (.bool false)]), (0, .val false [.sl false 5 (CV.frzEs (x0.map Fent.row))])], [(4, (Fent.row v3))]⟩ (by kernel_rfl) ?_
        cases h2 : (!r4)
        · have H := bifF h2 H
          refine Tr.to ⟨40, 0, [(3, .val false [.lit (.int .i64 y1)]), (4, .adr (.box 4) [(0, 0)] 5 0), (11, .val true (Fent.row v3)), (10, .fad ((Fent.row v3))), (9, .val false [.lit (.int .i64 y1)]), (8, .val false [.lit (.bool true)]), (7, .val false [.lit (.int .i64 y1)]), (6, .val false [.lit (.int .i64 (x0.length : Int))]), (5, .val false [.sl false 5 (CV.frzEs (x0.map Fent.row))]), (2, .val false [.lit (.bool false)]), (0, .val false [.sl false 5 (CV.frzEs (x0.map Fent.row))])], [(4, (Fent.row v3))]⟩ (by kernel_rfl) ?_
          cases h3 : (decide (y1 > 0))
          · have H := bifF h3 H
            refine Tr.draws mixed 24 (by kernel_rfl) ⟨40, 0, [(35, .val false [.lit (.bool false)]), (34, .val false [.lit (.bool false)]), (33, .tup []), (32, .tup []), (31, .tup []), (30, .tup []), (29, .tup []), (28, .tup []), (27, .tup []), (26, .tup []), (25, .tup []), (24, .tup []), (23, .tup []), (22, .tup []), (21, .tup []), (20, .tup []), (19, .tup []), (18, .val false [.lit (.bool false)]), (17, .val false [.lit (.bool false)]), (16, .val false [.lit (.int .i64 y1)]), (15, .val false [.lit (.bool false)]), (14, .val false [.lit (.bool false)]), (13, .val false [.lit (.bool r4)]), (12, .val true (Fent.row v3)), (3, .val false [.lit (.int .i64 y1)]), (4, .adr (.box 4) [(0, 0)] 5 0), (11, .val true (Fent.row v3)), (10, .fad ((Fent.row v3))), (9, .val false [.lit (.int .i64 y1)]), (8, .val false [.lit (.bool true)]), (7, .val false [.lit (.int .i64 y1)]), (6, .val false [.lit (.int .i64 (x0.length : Int))]), (5, .val false [.sl false 5 (CV.frzEs (x0.map Fent.row))]), (2, .val false [.lit (.bool false)]), (0, .val false [.sl false 5 (CV.frzEs (x0.map Fent.row))])], [(4, (Fent.row v3))]⟩ (fun cx => ?_) ?_
            · refine AT.runU tOk [(0, [1])] 23 [⟨[1], 147, 4, 12⟩] [0] rfl (by kernel_rfl) (fun cx => ?_)
              refine AT.big1 tOk 1 (by kernel_rfl) (by kernel_rfl) ?_
              refine LAt.callU tOk [.rd] (f := 158) (av := #[.tmp 12]) (ats := #[147]) (d := (some 13)) (ty := 4) (g := none) (by kernel_rfl) (by kernel_rfl) (by kernel_rfl) [] (impl_fentOk n v3 r4 er4) (by kernel_rfl) (.inl rfl) ?_
              refine LAt.fin (by kernel_rfl) (And.intro (And.intro (by kernel_rfl) (by kernel_rfl)) ?_)
              refine AT.runU tOk [(2, []), (3, [])] 20 [⟨[1], 147, 4, 12⟩] [3, 2, 1, 0] rfl (by kernel_rfl) (fun cx => ?_)
              refine AT.to ⟨40, 0, [(15, .val false [.lit (.bool (!r4))]), (14, .val false [.lit (.bool (!r4))]), (13, .val false [.lit (.bool r4)]), (12, .val true (Fent.row v3)), (3, .val false [.lit (.int .i64 y1)]), (4, .adr (.box 4) [(0, 0)] 5 0), (11, .val true (Fent.row v3)), (10, .fad ((Fent.row v3))), (9, .val false [.lit (.int .i64 y1)]), (8, .val false [.lit (.bool true)]), (7, .val false [.lit (.int .i64 y1)]), (6, .val false [.lit (.int .i64 (x0.length : Int))]), (5, .val false [.sl false 5 (CV.frzEs (x0.map Fent.row))]), (2, .val false [.lit (.bool false)]), (0, .val false [.sl false 5 (CV.frzEs (x0.map Fent.row))])], [(4, (Fent.row v3))]⟩ (by kernel_rfl) ?_
              rw [h2]
              refine AT.runU tOk [(4, []), (5, []), (6, [])] 17 [⟨[1], 147, 4, 12⟩] [6, 5, 4, 3, 2, 1, 0] rfl (by kernel_rfl) (fun cx => ?_)
              refine AT.to ⟨40, 0, [(18, .val false [.lit (.bool (decide (y1 > 0)))]), (17, .val false [.lit (.bool (decide (y1 > 0)))]), (16, .val false [.lit (.int .i64 y1)]), (15, .val false [.lit (.bool false)]), (14, .val false [.lit (.bool false)]), (13, .val false [.lit (.bool r4)]), (12, .val true (Fent.row v3)), (3, .val false [.lit (.int .i64 y1)]), (4, .adr (.box 4) [(0, 0)] 5 0), (11, .val true (Fent.row v3)), (10, .fad ((Fent.row v3))), (9, .val false [.lit (.int .i64 y1)]), (8, .val false [.lit (.bool true)]), (7, .val false [.lit (.int .i64 y1)]), (6, .val false [.lit (.int .i64 (x0.length : Int))]), (5, .val false [.sl false 5 (CV.frzEs (x0.map Fent.row))]), (2, .val false [.lit (.bool false)]), (0, .val false [.sl false 5 (CV.frzEs (x0.map Fent.row))])], [(4, (Fent.row v3))]⟩ (by kernel_rfl) ?_
              rw [h3]
              refine AT.runU tOk [(7, []), (8, []), (9, []), (10, []), (11, []), (12, []), (13, []), (14, []), (15, []), (16, []), (17, []), (18, []), (19, []), (20, []), (21, []), (22, []), (23, [])] 0 [⟨[1], 147, 4, 12⟩] [23, 22, 21, 20, 19, 18, 17, 16, 15, 14, 13, 12, 11, 10, 9, 8, 7, 6, 5, 4, 3, 2, 1, 0] rfl (by kernel_rfl) (fun cx => ?_)
              exact AT.done [35, 34, 33, 32, 31, 30, 29, 28, 27, 26, 25, 24, 23, 22, 21, 20, 19, 18, 17, 16, 15, 14, 13, 12, 3, 4, 11, 10, 9, 8, 7, 6, 5, 2, 0] [4] _ (by kernel_rfl) (by kernel_rfl) rfl
            · refine Tr.cond (b := false) (by kernel_rfl) (fun h => nomatch h) (fun _ => ?_)
              refine Tr.skip ?_
              show Tr _ _ _ _ _
              refine Tr.at ?_
              refine LAt.runU tOk 2 (by kernel_rfl) ?_
              refine LAt.doneU [7, 36, 35, 34, 33, 32, 31, 30, 29, 28, 27, 26, 25, 24, 23, 22, 21, 20, 19, 18, 17, 16, 15, 14, 13, 12, 3, 4, 11, 10, 9, 8, 6, 5, 2, 0] [4] (by kernel_rfl) ?_
              exact Exists.intro (mo2, (IntKind.wrap .i64 (y1 + 1))) (And.intro H (And.intro (Nat.lt_succ_self mo2) (St.sub_of [7, 6, 5, 2, 0] [] (by kernel_rfl))))
          · have H := bifT h3 H
            obtain ⟨v5, ev5, H⟩ := bind_some H
            obtain ⟨v6, ev6, H⟩ := bind_some H
            obtain ⟨r7, er7, H⟩ := bind_some H
            refine Tr.draws mixed 24 (by kernel_rfl) ⟨40, 0, [(35, .val false [.lit (.bool (!r7))]), (34, .val false [.lit (.bool (!r7))]), (33, .val false [.lit (.bool (!r7))]), (32, .val false [.lit (.bool r7)]), (31, .val false [.lit (.int .i64 v6.Mac)]), (30, .fad (((Fent.row v6).drop 1))), (29, .fad ((Fent.row v6))), (28, .val false [.lit (.int .i64 (IntKind.wrap .i64 (y1 - 1)))]), (27, .val false [.lit (.int .i64 y1)]), (26, .val false [.sl false 5 (CV.frzEs (x0.map Fent.row))]), (25, .val false [.lit (.int .i64 v5.Tag)]), (24, .fad ((Fent.row v5))), (23, .fad ((Fent.row v5))), (22, .val false [.lit (.int .i64 (IntKind.wrap .i64 (y1 - 1)))]), (21, .val false [.lit (.int .i64 y1)]), (20, .val false [.sl false 5 (CV.frzEs (x0.map Fent.row))]), (19, .val true (Fent.row v3)), (18, .val false [.lit (.bool true)]), (17, .val false [.lit (.bool true)]), (16, .val false [.lit (.int .i64 y1)]), (15, .val false [.lit (.bool false)]), (14, .val false [.lit (.bool false)]), (13, .val false [.lit (.bool r4)]), (12, .val true (Fent.row v3)), (3, .val false [.lit (.int .i64 y1)]), (4, .adr (.box 4) [(0, 0)] 5 0), (11, .val true (Fent.row v3)), (10, .fad ((Fent.row v3))), (9, .val false [.lit (.int .i64 y1)]), (8, .val false [.lit (.bool true)]), (7, .val false [.lit (.int .i64 y1)]), (6, .val false [.lit (.int .i64 (x0.length : Int))]), (5, .val false [.sl false 5 (CV.frzEs (x0.map Fent.row))]), (2, .val false [.lit (.bool false)]), (0, .val false [.sl false 5 (CV.frzEs (x0.map Fent.row))])], [(4, (Fent.row v3))]⟩ (fun cx => ?_) ?_
            · refine AT.runU tOk [(0, [1, 20])] 23 [⟨[1, 20], 147, 4, 12⟩] [0] rfl (by kernel_rfl) (fun cx => ?_)
              refine AT.big1 tOk 1 (by kernel_rfl) (by kernel_rfl) ?_
              refine LAt.callU tOk [.rd] (f := 158) (av := #[.tmp 12]) (ats := #[147]) (d := (some 13)) (ty := 4) (g := none) (by kernel_rfl) (by kernel_rfl) (by kernel_rfl) [] (impl_fentOk n v3 r4 er4) (by kernel_rfl) (.inl rfl) ?_
              refine LAt.fin (by kernel_rfl) (And.intro (And.intro (by kernel_rfl) (by kernel_rfl)) ?_)
              refine AT.runU tOk [(2, []), (3, [])] 20 [⟨[1, 20], 147, 4, 12⟩] [3, 2, 1, 0] rfl (by kernel_rfl) (fun cx => ?_)
              refine AT.to ⟨40, 0, [(15, .val false [.lit (.bool (!r4))]), (14, .val false [.lit (.bool (!r4))]), (13, .val false [.lit (.bool r4)]), (12, .val true (Fent.row v3)), (3, .val false [.lit (.int .i64 y1)]), (4, .adr (.box 4) [(0, 0)] 5 0), (11, .val true (Fent.row v3)), (10, .fad ((Fent.row v3))), (9, .val false [.lit (.int .i64 y1)]), (8, .val false [.lit (.bool true)]), (7, .val false [.lit (.int .i64 y1)]), (6, .val false [.lit (.int .i64 (x0.length : Int))]), (5, .val false [.sl false 5 (CV.frzEs (x0.map Fent.row))]), (2, .val false [.lit (.bool false)]), (0, .val false [.sl false 5 (CV.frzEs (x0.map Fent.row))])], [(4, (Fent.row v3))]⟩ (by kernel_rfl) ?_
              rw [h2]
              refine AT.runU tOk [(4, []), (5, []), (6, [])] 17 [⟨[1, 20], 147, 4, 12⟩] [6, 5, 4, 3, 2, 1, 0] rfl (by kernel_rfl) (fun cx => ?_)
              refine AT.to ⟨40, 0, [(18, .val false [.lit (.bool (decide (y1 > 0)))]), (17, .val false [.lit (.bool (decide (y1 > 0)))]), (16, .val false [.lit (.int .i64 y1)]), (15, .val false [.lit (.bool false)]), (14, .val false [.lit (.bool false)]), (13, .val false [.lit (.bool r4)]), (12, .val true (Fent.row v3)), (3, .val false [.lit (.int .i64 y1)]), (4, .adr (.box 4) [(0, 0)] 5 0), (11, .val true (Fent.row v3)), (10, .fad ((Fent.row v3))), (9, .val false [.lit (.int .i64 y1)]), (8, .val false [.lit (.bool true)]), (7, .val false [.lit (.int .i64 y1)]), (6, .val false [.lit (.int .i64 (x0.length : Int))]), (5, .val false [.sl false 5 (CV.frzEs (x0.map Fent.row))]), (2, .val false [.lit (.bool false)]), (0, .val false [.sl false 5 (CV.frzEs (x0.map Fent.row))])], [(4, (Fent.row v3))]⟩ (by kernel_rfl) ?_
              rw [h3]
              refine AT.runU tOk [(7, [20]), (8, []), (9, []), (10, [])] 13 [⟨[20], 147, 4, 19⟩, ⟨[1, 20], 147, 4, 12⟩] [10, 9, 8, 7, 6, 5, 4, 3, 2, 1, 0] rfl (by kernel_rfl) (fun cx => ?_)
              refine AT.indexF tOk 11 (t := 77) (ty := 0) (x := (.tmp 20)) (y := (.tmp 22)) (d := 23) (g := (some (6, true))) ⟨(.slot 20), [], 0, false, 5, (CV.frzEs (x0.map Fent.row))⟩ (IntKind.wrap .i64 (y1 - 1)) (Fent.row v5) _ (by kernel_rfl) (by kernel_rfl) (by kernel_rfl) (by kernel_rfl) (by kernel_rfl) (by kernel_rfl) rfl (idx_isF ev5) rfl (fun cx => ?_)
              refine AT.runU tOk [(12, []), (13, []), (14, []), (15, []), (16, [])] 7 [⟨[20], 147, 4, 19⟩, ⟨[1, 20], 147, 4, 12⟩] [16, 15, 14, 13, 12, 11, 10, 9, 8, 7, 6, 5, 4, 3, 2, 1, 0] rfl (by kernel_rfl) (fun cx => ?_)
              refine AT.indexF tOk 17 (t := 77) (ty := 0) (x := (.tmp 26)) (y := (.tmp 28)) (d := 29) (g := (some (6, true))) ⟨(.slot 26), [], 0, false, 5, (CV.frzEs (x0.map Fent.row))⟩ (IntKind.wrap .i64 (y1 - 1)) (Fent.row v6) _ (by kernel_rfl) (by kernel_rfl) (by kernel_rfl) (by kernel_rfl) (by kernel_rfl) (by kernel_rfl) rfl (idx_isF ev6) rfl (fun cx => ?_)
              refine AT.runU tOk [(18, []), (19, [])] 4 [⟨[20], 147, 4, 19⟩, ⟨[1, 20], 147, 4, 12⟩] [19, 18, 17, 16, 15, 14, 13, 12, 11, 10, 9, 8, 7, 6, 5, 4, 3, 2, 1, 0] rfl (by kernel_rfl) (fun cx => ?_)
              refine AT.big1 tOk 20 (by kernel_rfl) (by kernel_rfl) ?_
              refine LAt.callU tOk [.rd, .rd, .rd] (f := 159) (av := #[.tmp 19, .tmp 25, .tmp 31]) (ats := #[147, 3, 3]) (d := (some 32)) (ty := 4) (g := (some (6, true))) (by kernel_rfl) (by kernel_rfl) (by kernel_rfl) [] (impl_behind n v3 v5.Tag v6.Mac r7 er7) (by kernel_rfl) (.inl rfl) ?_
              refine LAt.fin (by kernel_rfl) (And.intro (And.intro (by kernel_rfl) (by kernel_rfl)) ?_)
              refine AT.runU tOk [(21, []), (22, []), (23, [])] 0 [⟨[20], 147, 4, 19⟩, ⟨[1, 20], 147, 4, 12⟩] [23, 22, 21, 20, 19, 18, 17, 16, 15, 14, 13, 12, 11, 10, 9, 8, 7, 6, 5, 4, 3, 2, 1, 0] rfl (by kernel_rfl) (fun cx => ?_)
              exact AT.done [35, 34, 33, 32, 31, 30, 29, 28, 27, 26, 25, 24, 23, 22, 21, 20, 19, 18, 17, 16, 15, 14, 13, 12, 3, 4, 11, 10, 9, 8, 7, 6, 5, 2, 0] [4] _ (by kernel_rfl) (by kernel_rfl) rfl
            · refine Tr.to ⟨40, 0, [(35, .val false [.lit (.bool (!r7))]), (34, .val false [.lit (.bool (!r7))]), (33, .val false [.lit (.bool (!r7))]), (32, .val false [.lit (.bool r7)]), (31, .val false [.lit (.int .i64 v6.Mac)]), (30, .fad (((Fent.row v6).drop 1))), (29, .fad ((Fent.row v6))), (28, .val false [.lit (.int .i64 (IntKind.wrap .i64 (y1 - 1)))]), (27, .val false [.lit (.int .i64 y1)]), (26, .val false [.sl false 5 (CV.frzEs (x0.map Fent.row))]), (25, .val false [.lit (.int .i64 v5.Tag)]), (24, .fad ((Fent.row v5))), (23, .fad ((Fent.row v5))), (22, .val false [.lit (.int .i64 (IntKind.wrap .i64 (y1 - 1)))]), (21, .val false [.lit (.int .i64 y1)]), (20, .val false [.sl false 5 (CV.frzEs (x0.map Fent.row))]), (19, .val true (Fent.row v3)), (18, .val false [.lit (.bool true)]), (17, .val false [.lit (.bool true)]), (16, .val false [.lit (.int .i64 y1)]), (15, .val false [.lit (.bool false)]), (14, .val false [.lit (.bool false)]), (13, .val false [.lit (.bool r4)]), (12, .val true (Fent.row v3)), (3, .val false [.lit (.int .i64 y1)]), (4, .adr (.box 4) [(0, 0)] 5 0), (11, .val true (Fent.row v3)), (10, .fad ((Fent.row v3))), (9, .val false [.lit (.int .i64 y1)]), (8, .val false [.lit (.bool true)]), (7, .val false [.lit (.int .i64 y1)]), (6, .val false [.lit (.int .i64 (x0.length : Int))]), (5, .val false [.sl false 5 (CV.frzEs (x0.map Fent.row))]), (2, .val false [.lit (.bool false)]), (0, .val false [.sl false 5 (CV.frzEs (x0.map Fent.row))])], [(4, (Fent.row v3))]⟩ (by kernel_rfl) ?_
              cases h4 : (!r7)
              · have H := bifF h4 H
                refine Tr.cond (b := false) (by kernel_rfl) (fun h => nomatch h) (fun _ => ?_)
                refine Tr.skip ?_
                show Tr _ _ _ _ _
                refine Tr.at ?_
                refine LAt.runU tOk 2 (by kernel_rfl) ?_
                refine LAt.doneU [7, 36, 35, 34, 33, 32, 31, 30, 29, 28, 27, 26, 25, 24, 23, 22, 21, 20, 19, 18, 17, 16, 15, 14, 13, 12, 3, 4, 11, 10, 9, 8, 6, 5, 2, 0] [4] (by kernel_rfl) ?_
                exact Exists.intro (mo2, (IntKind.wrap .i64 (y1 + 1))) (And.intro H (And.intro (Nat.lt_succ_self mo2) (St.sub_of [7, 6, 5, 2, 0] [] (by kernel_rfl))))
              · have H := bifT h4 H
                refine Tr.cond (b := true) (by kernel_rfl) (fun _ => ?_) (fun h => nomatch h)
                refine Tr.rs ?_
                refine LAt.runU tOk 1 (by kernel_rfl) ?_
                refine LAt.doneU [2, 35, 34, 33, 32, 31, 30, 29, 28, 27, 26, 25, 24, 23, 22, 21, 20, 19, 18, 17, 16, 15, 14, 13, 12, 3, 4, 11, 10, 9, 8, 7, 6, 5, 0] [4] (by kernel_rfl) ?_
                refine Tr.ret ?_
                have H := Option.some.inj H
                subst H
                have H := Ho2
                dsimp only at H
                have H := Option.some.inj H
                subst H
                exact Fin.of _ [(false, [.lit (.bool false)])] (by kernel_rfl) rfl rfl
        · have H := bifT h2 H
          refine Tr.draws mixed 24 (by kernel_rfl) ⟨40, 0, [(35, .val false [.lit (.bool true)]), (34, .tup []), (33, .tup []), (32, .tup []), (31, .tup []), (30, .tup []), (29, .tup []), (28, .tup []), (27, .tup []), (26, .tup []), (25, .tup []), (24, .tup []), (23, .tup []), (22, .tup []), (21, .tup []), (20, .tup []), (19, .tup []), (18, .tup []), (17, .tup []), (16, .tup []), (15, .val false [.lit (.bool true)]), (14, .val false [.lit (.bool true)]), (13, .val false [.lit (.bool r4)]), (12, .val true (Fent.row v3)), (3, .val false [.lit (.int .i64 y1)]), (4, .adr (.box 4) [(0, 0)] 5 0), (11, .val true (Fent.row v3)), (10, .fad ((Fent.row v3))), (9, .val false [.lit (.int .i64 y1)]), (8, .val false [.lit (.bool true)]), (7, .val false [.lit (.int .i64 y1)]), (6, .val false [.lit (.int .i64 (x0.length : Int))]), (5, .val false [.sl false 5 (CV.frzEs (x0.map Fent.row))]), (2, .val false [.lit (.bool false)]), (0, .val false [.sl false 5 (CV.frzEs (x0.map Fent.row))])], [(4, (Fent.row v3))]⟩ (fun cx => ?_) ?_
          · refine AT.runU tOk [(0, [1])] 23 [⟨[1], 147, 4, 12⟩] [0] rfl (by kernel_rfl) (fun cx => ?_)
            refine AT.big1 tOk 1 (by kernel_rfl) (by kernel_rfl) ?_
            refine LAt.callU tOk [.rd] (f := 158) (av := #[.tmp 12]) (ats := #[147]) (d := (some 13)) (ty := 4) (g := none) (by kernel_rfl) (by kernel_rfl) (by kernel_rfl) [] (impl_fentOk n v3 r4 er4) (by kernel_rfl) (.inl rfl) ?_
            refine LAt.fin (by kernel_rfl) (And.intro (And.intro (by kernel_rfl) (by kernel_rfl)) ?_)
            refine AT.runU tOk [(2, []), (3, [])] 20 [⟨[1], 147, 4, 12⟩] [3, 2, 1, 0] rfl (by kernel_rfl) (fun cx => ?_)
            refine AT.to ⟨40, 0, [(15, .val false [.lit (.bool (!r4))]), (14, .val false [.lit (.bool (!r4))]), (13, .val false [.lit (.bool r4)]), (12, .val true (Fent.row v3)), (3, .val false [.lit (.int .i64 y1)]), (4, .adr (.box 4) [(0, 0)] 5 0), (11, .val true (Fent.row v3)), (10, .fad ((Fent.row v3))), (9, .val false [.lit (.int .i64 y1)]), (8, .val false [.lit (.bool true)]), (7, .val false [.lit (.int .i64 y1)]), (6, .val false [.lit (.int .i64 (x0.length : Int))]), (5, .val false [.sl false 5 (CV.frzEs (x0.map Fent.row))]), (2, .val false [.lit (.bool false)]), (0, .val false [.sl false 5 (CV.frzEs (x0.map Fent.row))])], [(4, (Fent.row v3))]⟩ (by kernel_rfl) ?_
            rw [h2]
            refine AT.runU tOk [(4, []), (5, []), (6, []), (7, []), (8, []), (9, []), (10, []), (11, []), (12, []), (13, []), (14, []), (15, []), (16, []), (17, []), (18, []), (19, []), (20, []), (21, []), (22, []), (23, [])] 0 [⟨[1], 147, 4, 12⟩] [23, 22, 21, 20, 19, 18, 17, 16, 15, 14, 13, 12, 11, 10, 9, 8, 7, 6, 5, 4, 3, 2, 1, 0] rfl (by kernel_rfl) (fun cx => ?_)
            exact AT.done [35, 34, 33, 32, 31, 30, 29, 28, 27, 26, 25, 24, 23, 22, 21, 20, 19, 18, 17, 16, 15, 14, 13, 12, 3, 4, 11, 10, 9, 8, 7, 6, 5, 2, 0] [4] _ (by kernel_rfl) (by kernel_rfl) rfl
          · refine Tr.cond (b := true) (by kernel_rfl) (fun _ => ?_) (fun h => nomatch h)
            refine Tr.rs ?_
            refine LAt.runU tOk 1 (by kernel_rfl) ?_
            refine LAt.doneU [2, 35, 34, 33, 32, 31, 30, 29, 28, 27, 26, 25, 24, 23, 22, 21, 20, 19, 18, 17, 16, 15, 14, 13, 12, 3, 4, 11, 10, 9, 8, 7, 6, 5, 0] [4] (by kernel_rfl) ?_
            refine Tr.ret ?_
            have H := Option.some.inj H
            subst H
            have H := Ho2
            dsimp only at H
            have H := Option.some.inj H
            subst H
            exact Fin.of _ [(false, [.lit (.bool false)])] (by kernel_rfl) rfl rfl
  · rintro _ H
    have H : (impl_FdbOk_J1 n x0) = some r := H
    unfold impl_FdbOk_J1 at H
    show Tr _ _ _ _ _
    refine Tr.rs ?_
    refine LAt.runU tOk 1 (by kernel_rfl) ?_
    refine LAt.lenE tOk (t := 77) (ty := 3) (e := 147) (x := (.tmp 37)) (d := 38) (g := none) ⟨(.slot 37), [], 0, false, 5, (CV.frzEs (x0.map Fent.row))⟩ (x0).length _ (by kernel_rfl) (by kernel_rfl) (by kernel_rfl) (by kernel_rfl) (by kernel_rfl) (frz_len _ _) rfl ?_
    refine LAt.runU tOk 2 (by kernel_rfl) ?_
    refine LAt.doneU [2] [] (by kernel_rfl) ?_
    refine Tr.ret ?_
    have H := Option.some.inj H
    subst H
    exact Fin.of _ [(false, [.lit (.bool (decide ((x0.length : Int) ≤ 12)))])] (by kernel_rfl) rfl rfl

def impl_allPortsF (n : Nat) (x0 : Int) : Option (Int) :=
  (bif (decide ((0 : Int) ≤ x0)) then (some (IntKind.wrap .i64 ((IntKind.wrap .i64 (1 * 2 ^ min ((x0 : Int)).toNat (IntKind.bits .i64))) - 1))) else none)
/-- loop.example/g00326/impl.allPorts -/
theorem impl_allPorts (n : Nat) (x0 : Int) (r : Int) (H : impl_allPortsF n x0 = some r) : LCall Try.prog 110 [.val false [.lit (.int .i64 x0)]] [.val false [.lit (.int .i64 r)]] [] := by
  refine LCall.of_body tOk Try.func110 rfl (c := (.seq (.region 0 (rg Try.f110 0) false) (.seq (.region 1 (rg Try.f110 1) false) .ret))) (by kernel_rfl) (Nat.le_of_ble_eq_true (by kernel_rfl)) 0 (rs := [.tmp 2]) rfl [] .nil [(false, [.lit (.int .i64 r)])] [] [] fun cx => ?_
  show Tr _ _ _ ⟨6, 0, [(0, .val false [.lit (.int .i64 x0)])], []⟩ _
  unfold impl_allPortsF at H
  refine Tr.rs ?_
  refine LAt.runU tOk 1 (by kernel_rfl) ?_
  refine LAt.doneU [2, 0] [] (by kernel_rfl) ?_
  refine Tr.rs ?_
  refine LAt.runU tOk 1 (by kernel_rfl) ?_
  obtain ⟨hg1, H⟩ := guard_some H
  refine LAt.binC tOk (op := .shl) (t := 3) (ty := 3) (ty' := 3) (x := (.const (.int .i64 1))) (y := (.tmp 3)) (d := 4) (g := none) (.int .i64 1) (.int .i64 x0) (.int .i64 (IntKind.wrap .i64 (1 * 2 ^ min ((x0 : Int)).toNat (IntKind.bits .i64)))) _ (by kernel_rfl) (by kernel_rfl) (by kernel_rfl) (by kernel_rfl) (by kernel_rfl) (φ := (0 : Int) ≤ x0) (by kernel_rfl) (of_decide_eq_true hg1) rfl ?_
  refine LAt.runU tOk 2 (by kernel_rfl) ?_
  refine LAt.doneU [2] [] (by kernel_rfl) ?_
  refine Tr.ret ?_
  have H := Option.some.inj H
  subst H
  exact Fin.of _ [(false, [.lit (.int .i64 (IntKind.wrap .i64 ((IntKind.wrap .i64 (1 * 2 ^ min ((x0 : Int)).toNat (IntKind.bits .i64))) - 1)))])] (by kernel_rfl) rfl rfl

def impl_RowAt_J1 (n : Nat) : Option (Int) :=
  (some (-1))
def impl_RowAt_L2 (n : Nat) : Nat → Vtab → Int → Int → Option ((Unit) ⊕ (Int))
  | 0, _, _, _ => none
  | mo2 + 1, x0, x1, y1 => (bif (decide (y1 < (x0.Rows.length : Int))) then ((idx x0.Rows y1).bind fun v3 => (bif (v3.Id == x1) then (some (Sum.inr y1)) else (impl_RowAt_L2 n mo2 x0 x1 (IntKind.wrap .i64 (y1 + 1))))) else (some (Sum.inl ())))
def impl_RowAtF (n : Nat) (x0 : Vtab) (x1 : Int) : Option (Int) :=
  ((impl_RowAt_L2 n n x0 x1 0).bind fun o => match o with | .inl _ => (impl_RowAt_J1 n) | .inr r => some r)
/-- loop.example/g00326/impl.RowAt -/
theorem impl_RowAt (n : Nat) (x0 : Vtab) (x1 : Int) (r : Int) (H : impl_RowAtF n x0 x1 = some r) : LCall Try.prog 40 [.val true (CV.frzRow (Vtab.row x0)), .val false [.lit (.int .i64 x1)]] [.val false [.lit (.int .i64 r)]] [] := by
  refine LCall.of_body tOk Try.func40 rfl (c := (.seq (.region 0 (rg Try.f40 0) false) (.seq (.seq (.region 1 (rg Try.f40 1) false) (.block 0 (.loop (.seq (.region 2 (rg Try.f40 2) false) (.seq (.cond (.tmp 11) .skip (.exit 0)) (.seq (.block 1 (.seq (.region 3 (rg Try.f40 3) false) (.seq (.region 4 (rg Try.f40 4) false) (.cond (.tmp 18) (.seq (.region 5 (rg Try.f40 5) false) .ret) .skip)))) (.region 6 (rg Try.f40 6) false))))))) (.seq (.region 7 (rg Try.f40 7) false) .ret)))) (by kernel_rfl) (Nat.le_of_ble_eq_true (by kernel_rfl)) 0 (rs := [.tmp 4]) rfl [] .nil [(false, [.lit (.int .i64 r)])] [] [] fun cx => ?_
  show Tr _ _ _ ⟨21, 0, [(0, .val true (CV.frzRow (Vtab.row x0))), (1, .val false [.lit (.int .i64 x1)])], []⟩ _
  unfold impl_RowAtF at H
  refine Tr.rs ?_
  refine LAt.runU tOk 2 (by kernel_rfl) ?_
  refine LAt.doneU [4, 2, 1] [2] (by kernel_rfl) ?_
  refine Tr.seq ?_
  refine Tr.rs ?_
  refine LAt.runU tOk 2 (by kernel_rfl) ?_
  refine LAt.lenE tOk (t := 27) (ty := 3) (e := 56) (x := (.tmp 8)) (d := 9) (g := none) ⟨(.slot 8), [], 0, false, 3, (CV.frzEs (x0.Rows.map Vrow.row))⟩ (x0.Rows).length _ (by kernel_rfl) (by kernel_rfl) (by kernel_rfl) (by kernel_rfl) (by kernel_rfl) (frz_len _ _) rfl ?_
  refine LAt.runU tOk 1 (by kernel_rfl) ?_
  refine LAt.doneU [10, 9, 8, 4, 1] [] (by kernel_rfl) ?_
  obtain ⟨o2, eo2, Ho2⟩ := bind_some H
  clear H
  refine Tr.mid (ι := Unit) (fun v => ⟨21, 0, [(4, .val false [.lit (.int .i64 0)])], []⟩) (fun v => impl_RowAt_J1 n = some r) ?_ ?_
  · refine Tr.block ?_
    refine Tr.loop (ι := Nat × (Int)) (fun v => ⟨21, 0, [(10, .val false [.lit (.int .i64 v.2)]), (9, .val false [.lit (.int .i64 (x0.Rows.length : Int))]), (8, .val false [.sl false 3 (CV.frzEs (x0.Rows.map Vrow.row))]), (4, .val false [.lit (.int .i64 0)]), (1, .val false [.lit (.int .i64 x1)])], []⟩) (fun v => impl_RowAt_L2 n v.1 x0 x1 v.2 = some o2) (fun v => v.1) (n, 0) eo2 (St.sub_of [10, 9, 8, 4, 1] [] (by kernel_rfl)) ?_
    rintro ⟨mo2, y1⟩ H
    have H : impl_RowAt_L2 n mo2 x0 x1 y1 = some o2 := H
    obtain _ | mo2 := mo2
    · cases (show (none : Option _) = some o2 from H)
    · rw [impl_RowAt_L2] at H
      refine Tr.rs ?_
      refine LAt.runU tOk 1 (by kernel_rfl) ?_
      refine LAt.doneU [11, 10, 9, 8, 4, 1] [] (by kernel_rfl) ?_
      refine Tr.seq ?_
      refine Tr.to ⟨21, 0, [(11, .val false [.lit (.bool (decide (y1 < (x0.Rows.length : Int))))]), (10, .val false [.lit (.int .i64 y1)]), (9, .val false [.lit (.int .i64 (x0.Rows.length : Int))]), (8, .val false [.sl false 3 (CV.frzEs (x0.Rows.map Vrow.row))]), (4, .val false [.lit (.int .i64 0)]), (1, .val false [.lit (.int .i64 x1)])], []⟩ (by kernel_rfl) ?_
      cases h1 : (decide (y1 < (x0.Rows.length : Int)))
      · have H := bifF h1 H
        refine Tr.cond (b := false) (by kernel_rfl) (fun h => nomatch h) (fun _ => ?_)
        refine Tr.exit ?_
        refine And.intro (fun _ => ?_) (fun h => absurd rfl h)
        have H := Option.some.inj H
        subst H
        have H := Ho2
        dsimp only at H
        exact Exists.intro () (And.intro H (St.sub_of [4] [] (by kernel_rfl)))
      · have H := bifT h1 H
        refine Tr.cond (b := true) (by kernel_rfl) (fun _ => ?_) (fun h => nomatch h)
        refine Tr.skip ?_
        show Tr _ _ _ _ _
        refine Tr.seq ?_
        refine Tr.block ?_
        refine Tr.rs ?_
        refine LAt.runU tOk 1 (by kernel_rfl) ?_
        obtain ⟨v3, ev3, H⟩ := bind_some H
        refine LAt.indexF tOk (t := 27) (ty := 0) (x := (.tmp 8)) (y := (.tmp 10)) (d := 13) (g := none) ⟨(.slot 8), [], 0, false, 3, (CV.frzEs (x0.Rows.map Vrow.row))⟩ y1 (Vrow.row v3) _ (by kernel_rfl) (by kernel_rfl) (by kernel_rfl) (by kernel_rfl) rfl (idx_isF ev3) rfl ?_
        refine LAt.runU tOk 4 (by kernel_rfl) ?_
        refine LAt.doneU [5, 6, 14, 13, 12, 11, 10, 9, 8, 4, 1] [6] (by kernel_rfl) ?_
        refine Tr.rs ?_
        refine LAt.runU tOk 4 (by kernel_rfl) ?_
        refine LAt.doneU [18, 17, 16, 15, 5, 6, 14, 13, 12, 11, 10, 9, 8, 4, 1] [6] (by kernel_rfl) ?_
        refine Tr.to ⟨21, 0, [(18, .val false [.lit (.bool (v3.Id == x1))]), (17, .val false [.lit (.int .i64 x1)]), (16, .val false [.lit (.int .i64 v3.Id)]), (15, .adr (.box 6) [(0, 0)] 3 0), (5, .val false [.lit (.int .i64 y1)]), (6, .adr (.box 6) [(0, 0)] 3 0), (14, .val true (Vrow.row v3)), (13, .fad ((Vrow.row v3))), (12, .val false [.lit (.int .i64 y1)]), (11, .val false [.lit (.bool true)]), (10, .val false [.lit (.int .i64 y1)]), (9, .val false [.lit (.int .i64 (x0.Rows.length : Int))]), (8, .val false [.sl false 3 (CV.frzEs (x0.Rows.map Vrow.row))]), (4, .val false [.lit (.int .i64 0)]), (1, .val false [.lit (.int .i64 x1)])], [(6, (Vrow.row v3))]⟩ (by kernel_rfl) ?_
        cases h2 : (v3.Id == x1)
        · have H := bifF h2 H
          refine Tr.cond (b := false) (by kernel_rfl) (fun h => nomatch h) (fun _ => ?_)
          refine Tr.skip ?_
          show Tr _ _ _ _ _
          refine Tr.at ?_
          refine LAt.runU tOk 2 (by kernel_rfl) ?_
          refine LAt.doneU [10, 20, 18, 17, 16, 15, 5, 6, 14, 13, 12, 11, 9, 8, 4, 1] [6] (by kernel_rfl) ?_
          exact Exists.intro (mo2, (IntKind.wrap .i64 (y1 + 1))) (And.intro H (And.intro (Nat.lt_succ_self mo2) (St.sub_of [10, 9, 8, 4, 1] [] (by kernel_rfl))))
        · have H := bifT h2 H
          refine Tr.cond (b := true) (by kernel_rfl) (fun _ => ?_) (fun h => nomatch h)
          refine Tr.rs ?_
          refine LAt.runU tOk 2 (by kernel_rfl) ?_
          refine LAt.doneU [4, 19, 18, 17, 16, 15, 5, 6, 14, 13, 12, 11, 10, 9, 8, 1] [6] (by kernel_rfl) ?_
          refine Tr.ret ?_
          have H := Option.some.inj H
          subst H
          have H := Ho2
          dsimp only at H
          have H := Option.some.inj H
          subst H
          exact Fin.of _ [(false, [.lit (.int .i64 y1)])] (by kernel_rfl) rfl rfl
  · rintro _ H
    have H : (impl_RowAt_J1 n) = some r := H
    unfold impl_RowAt_J1 at H
    show Tr _ _ _ _ _
    refine Tr.rs ?_
    refine LAt.runU tOk 1 (by kernel_rfl) ?_
    refine LAt.doneU [4] [] (by kernel_rfl) ?_
    refine Tr.ret ?_
    have H := Option.some.inj H
    subst H
    exact Fin.of _ [(false, [.lit (.int .i64 (-1))])] (by kernel_rfl) rfl rfl
end Go.Proofs.Ytgpcfaiacggoiaa.Tw
