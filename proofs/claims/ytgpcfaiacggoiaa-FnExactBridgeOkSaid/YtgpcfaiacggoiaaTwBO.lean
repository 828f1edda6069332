/- Functions of the program, over trees. -/
import Derived.Test.YtgpcfaiacggoiaaProg
import Derived.Test.YtgpcfaiacggoiaaTlRule
import Derived.Test.YtgpcfaiacggoiaaTlU3
import Derived.Test.YtgpcfaiacggoiaaTwBO1
import Derived.WalkKit
set_option linter.unusedVariables false
set_option linter.unusedSimpArgs false
set_option maxRecDepth 100000
set_option maxHeartbeats 1000000
namespace Go.Proofs.Ytgpcfaiacggoiaa.Tw
open Go Go.TL Go.Proofs


def impl_VtabOk_J2 (n : Nat) : Option (Bool) :=
  (some true)
def impl_VtabOk_L3 (n : Nat) : Nat → Vtab → Int → Option ((Unit) ⊕ (Bool))
  | 0, _, _ => none
  | mo4 + 1, x0, y3 => (bif (decide (y3 < (x0.Pvid.length : Int))) then ((idx x0.Pvid y3).bind fun v5 => ((impl_RowAtF n x0 v5).bind fun r6 => (bif (decide (r6 < 0)) then (some (Sum.inr false)) else (impl_VtabOk_L3 n mo4 x0 (IntKind.wrap .i64 (y3 + 1)))))) else (some (Sum.inl ())))
def impl_VtabOk_J1 (n : Nat) (x0 : Vtab) : Option (Bool) :=
  ((impl_VtabOk_L3 n n x0 0).bind fun o => match o with | .inl _ => (impl_VtabOk_J2 n) | .inr r => some r)
def impl_VtabOk_L4 (n : Nat) : Nat → Vtab → Int → Int → Option ((Unit) ⊕ (Bool))
  | 0, _, _, _ => none
  | mo7 + 1, x0, x1, y2 => (bif (decide (y2 < (x0.Rows.length : Int))) then ((idx x0.Rows y2).bind fun v8 => ((impl_inF n v8.Id 1 99).bind fun r9 => (bif (!r9) then (some (Sum.inr false)) else (bif (decide (y2 > 0)) then ((idx x0.Rows (IntKind.wrap .i64 (y2 - 1))).bind fun v12 => (bif (decide (v12.Id ≥ v8.Id)) then (some (Sum.inr false)) else ((impl_allPortsF n x1).bind fun r13 => ((impl_inF n v8.Members 0 r13).bind fun r14 => (bif (!r14) then (some (Sum.inr false)) else (bif ((IntKind.wrap .i64 (BitVec.ofInt (IntKind.bits .i64) v8.Bare &&& ~~~BitVec.ofInt (IntKind.bits .i64) v8.Members).toNat) != 0) then (some (Sum.inr false)) else (impl_VtabOk_L4 n mo7 x0 x1 (IntKind.wrap .i64 (y2 + 1))))))))) else ((impl_allPortsF n x1).bind fun r10 => ((impl_inF n v8.Members 0 r10).bind fun r11 => (bif (!r11) then (some (Sum.inr false)) else (bif ((IntKind.wrap .i64 (BitVec.ofInt (IntKind.bits .i64) v8.Bare &&& ~~~BitVec.ofInt (IntKind.bits .i64) v8.Members).toNat) != 0) then (some (Sum.inr false)) else (impl_VtabOk_L4 n mo7 x0 x1 (IntKind.wrap .i64 (y2 + 1))))))))))) else (some (Sum.inl ())))
def impl_VtabOkF (n : Nat) (x0 : Vtab) (x1 : Int) : Option (Bool) :=
  ((impl_inF n x1 1 6).bind fun r1 => (bif (!r1) then (some false) else (bif ((x0.Pvid.length : Int) != x1) then (some false) else (bif (decide ((x0.Rows.length : Int) > 6)) then (some false) else ((impl_VtabOk_L4 n n x0 x1 0).bind fun o => match o with | .inl _ => (impl_VtabOk_J1 n x0) | .inr r => some r)))))
/-- loop.example/g00326/impl.VtabOk -/
theorem impl_VtabOk (n : Nat) (x0 : Vtab) (x1 : Int) (r : Bool) (H : impl_VtabOkF n x0 x1 = some r) : LCall Try.prog 41 [.val true (CV.frzRow (Vtab.row x0)), .val false [.lit (.int .i64 x1)]] [.val false [.lit (.bool r)]] [] := by
  refine LCall.of_body tOk Try.func41 rfl (c := (.seq (.region 0 (rg Try.f41 0) false) (.seq (.seq (.region 1 (rg Try.f41 1) false) (.cond (.tmp 24) (.seq (.region 2 (rg Try.f41 2) false) .ret) .skip)) (.seq (.seq (.region 3 (rg Try.f41 3) false) (.block 0 (.loop (.seq (.region 4 (rg Try.f41 4) false) (.seq (.cond (.tmp 29) .skip (.exit 0)) (.seq (.block 1 (.seq (.region 5 (rg Try.f41 5) false) (.seq (.region 6 (rg Try.f41 6) true) (.cond (.tmp 68) (.seq (.region 7 (rg Try.f41 7) false) .ret) .skip)))) (.region 8 (rg Try.f41 8) false))))))) (.seq (.seq (.region 9 (rg Try.f41 9) false) (.block 2 (.loop (.seq (.region 10 (rg Try.f41 10) false) (.seq (.cond (.tmp 74) .skip (.exit 2)) (.seq (.block 3 (.seq (.region 11 (rg Try.f41 11) false) (.seq (.region 12 (rg Try.f41 12) false) (.cond (.tmp 80) (.seq (.region 13 (rg Try.f41 13) false) .ret) .skip)))) (.region 14 (rg Try.f41 14) false))))))) (.seq (.region 15 (rg Try.f41 15) false) .ret)))))) (by kernel_rfl) (Nat.le_of_ble_eq_true (by kernel_rfl)) 0 (rs := [.tmp 4]) rfl [] .nil [(false, [.lit (.bool r)])] [] [] fun cx => ?_
  show Tr _ _ _ ⟨82, 0, [(0, .val true (CV.frzRow (Vtab.row x0))), (1, .val false [.lit (.int .i64 x1)])], []⟩ _
  unfold impl_VtabOkF at H
  refine Tr.rs ?_
  refine LAt.runU tOk 2 (by kernel_rfl) ?_
  refine LAt.doneU [4, 2, 1] [2] (by kernel_rfl) ?_
  refine Tr.seq ?_
  refine Tr.rs ?_
  refine LAt.runU tOk 1 (by kernel_rfl) ?_
  obtain ⟨r1, er1, H⟩ := bind_some H
  refine LAt.callU tOk [.rd, .rd, .rd] (f := 82) (av := #[.tmp 9, .const (.int .i64 1), .const (.int .i64 6)]) (ats := #[3, 3, 3]) (d := (some 10)) (ty := 4) (g := none) (by kernel_rfl) (by kernel_rfl) (by kernel_rfl) [] (impl_in n x1 1 6 r1 er1) (by kernel_rfl) (.inl rfl) ?_
  refine LAt.runU tOk 2 (by kernel_rfl) ?_
  refine LAt.to ⟨82, 0, [(12, .val false [.lit (.bool (!r1))]), (11, .val false [.lit (.bool (!r1))]), (10, .val false [.lit (.bool r1)]), (9, .val false [.lit (.int .i64 x1)]), (4, .val false [.lit (.bool false)]), (2, .adr (.box 2) [(0, 0)] 2 0), (1, .val false [.lit (.int .i64 x1)])], [(2, (CV.frzRow (Vtab.row x0)))]⟩ (by kernel_rfl) ?_
  cases h1 : (!r1)
  · have H := bifF h1 H
    refine LAt.runU tOk 2 (by kernel_rfl) ?_
    refine LAt.lenE tOk (t := 23) (ty := 3) (e := 3) (x := (.tmp 14)) (d := 15) (g := (some (3, false))) ⟨(.slot 14), [], 0, false, 1, (CV.frzEs (x0.Pvid.map intRow))⟩ (x0.Pvid).length _ (by kernel_rfl) (by kernel_rfl) (by kernel_rfl) (by kernel_rfl) (by kernel_rfl) (frz_len _ _) rfl ?_
    refine LAt.runU tOk 4 (by kernel_rfl) ?_
    refine LAt.to ⟨82, 0, [(19, .val false [.lit (.bool ((x0.Pvid.length : Int) != x1))]), (18, .val false [.lit (.bool ((x0.Pvid.length : Int) != x1))]), (17, .val false [.lit (.bool ((x0.Pvid.length : Int) != x1))]), (16, .val false [.lit (.int .i64 x1)]), (15, .val false [.lit (.int .i64 (x0.Pvid.length : Int))]), (14, .val false [.sl false 1 (CV.frzEs (x0.Pvid.map intRow))]), (13, .adr (.box 2) [(0, 0)] 2 1), (12, .val false [.lit (.bool false)]), (11, .val false [.lit (.bool false)]), (10, .val false [.lit (.bool r1)]), (9, .val false [.lit (.int .i64 x1)]), (4, .val false [.lit (.bool false)]), (2, .adr (.box 2) [(0, 0)] 2 0), (1, .val false [.lit (.int .i64 x1)])], [(2, (CV.frzRow (Vtab.row x0)))]⟩ (by kernel_rfl) ?_
    cases h2 : ((x0.Pvid.length : Int) != x1)
    · have H := bifF h2 H
      refine LAt.runU tOk 2 (by kernel_rfl) ?_
      refine LAt.lenE tOk (t := 27) (ty := 3) (e := 56) (x := (.tmp 21)) (d := 22) (g := (some (10, false))) ⟨(.slot 21), [], 0, false, 3, (CV.frzEs (x0.Rows.map Vrow.row))⟩ (x0.Rows).length _ (by kernel_rfl) (by kernel_rfl) (by kernel_rfl) (by kernel_rfl) (by kernel_rfl) (frz_len _ _) rfl ?_
      refine LAt.runU tOk 2 (by kernel_rfl) ?_
      refine LAt.doneU [24, 4, 2, 1] [2] (by kernel_rfl) ?_
      refine Tr.to ⟨82, 0, [(24, .val false [.lit (.bool (decide ((x0.Rows.length : Int) > 6)))]), (4, .val false [.lit (.bool false)]), (2, .adr (.box 2) [(0, 0)] 2 0), (1, .val false [.lit (.int .i64 x1)])], [(2, (CV.frzRow (Vtab.row x0)))]⟩ (by kernel_rfl) ?_
      cases h3 : (decide ((x0.Rows.length : Int) > 6))
      · have H := bifF h3 H
        refine Tr.cond (b := false) (by kernel_rfl) (fun h => nomatch h) (fun _ => ?_)
        refine Tr.skip ?_
        show Tr _ _ _ _ _
        refine Tr.seq ?_
        refine Tr.rs ?_
        refine LAt.runU tOk 2 (by kernel_rfl) ?_
        refine LAt.lenE tOk (t := 27) (ty := 3) (e := 56) (x := (.tmp 26)) (d := 27) (g := none) ⟨(.slot 26), [], 0, false, 3, (CV.frzEs (x0.Rows.map Vrow.row))⟩ (x0.Rows).length _ (by kernel_rfl) (by kernel_rfl) (by kernel_rfl) (by kernel_rfl) (by kernel_rfl) (frz_len _ _) rfl ?_
        refine LAt.runU tOk 1 (by kernel_rfl) ?_
        refine LAt.doneU [28, 27, 26, 4, 2, 1] [2] (by kernel_rfl) ?_
        obtain ⟨o7, eo7, Ho7⟩ := bind_some H
        clear H
        refine Tr.mid (ι := Unit) (fun v => ⟨82, 0, [(4, .val false [.lit (.bool false)]), (2, .adr (.box 2) [(0, 0)] 2 0)], [(2, (CV.frzRow (Vtab.row x0)))]⟩) (fun v => impl_VtabOk_J1 n x0 = some r) ?_ ?_
        · refine Tr.block ?_
          refine Tr.loop (ι := Nat × (Int)) (fun v => ⟨82, 0, [(28, .val false [.lit (.int .i64 v.2)]), (27, .val false [.lit (.int .i64 (x0.Rows.length : Int))]), (26, .val false [.sl false 3 (CV.frzEs (x0.Rows.map Vrow.row))]), (4, .val false [.lit (.bool false)]), (2, .adr (.box 2) [(0, 0)] 2 0), (1, .val false [.lit (.int .i64 x1)])], [(2, (CV.frzRow (Vtab.row x0)))]⟩) (fun v => impl_VtabOk_L4 n v.1 x0 x1 v.2 = some o7) (fun v => v.1) (n, 0) eo7 (St.sub_of [28, 27, 26, 4, 2, 1] [2] (by kernel_rfl)) ?_
          rintro ⟨mo7, y2⟩ H
          have H : impl_VtabOk_L4 n mo7 x0 x1 y2 = some o7 := H
          obtain _ | mo7 := mo7
          · cases (show (none : Option _) = some o7 from H)
          · rw [impl_VtabOk_L4] at H
            refine Tr.rs ?_
            refine LAt.runU tOk 1 (by kernel_rfl) ?_
            refine LAt.doneU [29, 28, 27, 26, 4, 2, 1] [2] (by kernel_rfl) ?_
            refine Tr.seq ?_
            refine Tr.to ⟨82, 0, [(29, .val false [.lit (.bool (decide (y2 < (x0.Rows.length : Int))))]), (28, .val false [.lit (.int .i64 y2)]), (27, .val false [.lit (.int .i64 (x0.Rows.length : Int))]), (26, .val false [.sl false 3 (CV.frzEs (x0.Rows.map Vrow.row))]), (4, .val false [.lit (.bool false)]), (2, .adr (.box 2) [(0, 0)] 2 0), (1, .val false [.lit (.int .i64 x1)])], [(2, (CV.frzRow (Vtab.row x0)))]⟩ (by kernel_rfl) ?_
            cases h6 : (decide (y2 < (x0.Rows.length : Int)))
            · have H := bifF h6 H
              refine Tr.cond (b := false) (by kernel_rfl) (fun h => nomatch h) (fun _ => ?_)
              refine Tr.exit ?_
              refine And.intro (fun _ => ?_) (fun h => absurd rfl h)
              have H := Option.some.inj H
              subst H
              have H := Ho7
              dsimp only at H
              exact Exists.intro () (And.intro H (St.sub_of [4, 2] [2] (by kernel_rfl)))
            · have H := bifT h6 H
              refine Tr.cond (b := true) (by kernel_rfl) (fun _ => ?_) (fun h => nomatch h)
              refine Tr.skip ?_
              show Tr _ _ _ _ _
              refine Tr.seq ?_
              refine Tr.block ?_
              refine Tr.rs ?_
              refine LAt.runU tOk 1 (by kernel_rfl) ?_
              obtain ⟨v8, ev8, H⟩ := bind_some H
              refine LAt.indexF tOk (t := 27) (ty := 0) (x := (.tmp 26)) (y := (.tmp 28)) (d := 31) (g := none) ⟨(.slot 26), [], 0, false, 3, (CV.frzEs (x0.Rows.map Vrow.row))⟩ y2 (Vrow.row v8) _ (by kernel_rfl) (by kernel_rfl) (by kernel_rfl) (by kernel_rfl) rfl (idx_isF ev8) rfl ?_
              refine LAt.runU tOk 4 (by kernel_rfl) ?_
              refine LAt.doneU [5, 6, 32, 31, 30, 29, 28, 27, 26, 4, 2, 1] [6, 2] (by kernel_rfl) ?_
              obtain ⟨r9, er9, H⟩ := bind_some H
              refine Tr.to ⟨82, 0, [(5, .val false [.lit (.int .i64 y2)]), (6, .adr (.box 6) [(0, 0)] 3 0), (32, .val true (Vrow.row v8)), (31, .fad ((Vrow.row v8))), (30, .val false [.lit (.int .i64 y2)]), (29, .val false [.lit (.bool true)]), (28, .val false [.lit (.int .i64 y2)]), (27, .val false [.lit (.int .i64 (x0.Rows.length : Int))]), (26, .val false [.sl false 3 (CV.frzEs (x0.Rows.map Vrow.row))]), (4, .val false [.lit (.bool false)]), (2, .adr (.box 2) [(0, 0)] 2 0), (1, .val false [.lit (.int .i64 x1)])], [(6, (Vrow.row v8)), (2, (CV.frzRow (Vtab.row x0)))]⟩ (by kernel_rfl) ?_
              cases h7 : (!r9)
              · have H := bifF h7 H
                refine Tr.to ⟨82, 0, [(5, .val false [.lit (.int .i64 y2)]), (6, .adr (.box 6) [(0, 0)] 3 0), (32, .val true (Vrow.row v8)), (31, .fad ((Vrow.row v8))), (30, .val false [.lit (.int .i64 y2)]), (29, .val false [.lit (.bool true)]), (28, .val false [.lit (.int .i64 y2)]), (27, .val false [.lit (.int .i64 (x0.Rows.length : Int))]), (26, .val false [.sl false 3 (CV.frzEs (x0.Rows.map Vrow.row))]), (4, .val false [.lit (.bool false)]), (2, .adr (.box 2) [(0, 0)] 2 0), (1, .val false [.lit (.int .i64 x1)])], [(6, (Vrow.row v8)), (2, (CV.frzRow (Vtab.row x0)))]⟩ (by kernel_rfl) ?_
                cases h8 : (decide (y2 > 0))
                · have H := bifF h8 H
                  obtain ⟨r10, er10, H⟩ := bind_some H
                  obtain ⟨r11, er11, H⟩ := bind_some H
                  refine Tr.to ⟨82, 0, [(5, .val false [.lit (.int .i64 y2)]), (6, .adr (.box 6) [(0, 0)] 3 0), (32, .val true (Vrow.row v8)), (31, .fad ((Vrow.row v8))), (30, .val false [.lit (.int .i64 y2)]), (29, .val false [.lit (.bool true)]), (28, .val false [.lit (.int .i64 y2)]), (27, .val false [.lit (.int .i64 (x0.Rows.length : Int))]), (26, .val false [.sl false 3 (CV.frzEs (x0.Rows.map Vrow.row))]), (4, .val false [.lit (.bool false)]), (2, .adr (.box 2) [(0, 0)] 2 0), (1, .val false [.lit (.int .i64 x1)])], [(6, (Vrow.row v8)), (2, (CV.frzRow (Vtab.row x0)))]⟩ (by kernel_rfl) ?_
                  cases h9 : (!r11)
                  · have H := bifF h9 H
                    refine Tr.draws mixed 36 (by kernel_rfl) ⟨82, 0, [(68, .val false [.lit (.bool ((IntKind.wrap .i64 (BitVec.ofInt (IntKind.bits .i64) v8.Bare &&& ~~~BitVec.ofInt (IntKind.bits .i64) v8.Members).toNat) != 0))]), (67, .val false [.lit (.bool ((IntKind.wrap .i64 (BitVec.ofInt (IntKind.bits .i64) v8.Bare &&& ~~~BitVec.ofInt (IntKind.bits .i64) v8.Members).toNat) != 0))]), (66, .val false [.lit (.int .i64 (IntKind.wrap .i64 (BitVec.ofInt (IntKind.bits .i64) v8.Bare &&& ~~~BitVec.ofInt (IntKind.bits .i64) v8.Members).toNat))]), (65, .val false [.lit (.int .i64 v8.Members)]), (64, .adr (.box 6) [(0, 0)] 3 1), (63, .val false [.lit (.int .i64 v8.Bare)]), (62, .adr (.box 6) [(0, 0)] 3 2), (61, .val false [.lit (.bool false)]), (60, .val false [.lit (.bool false)]), (59, .val false [.lit (.bool false)]), (58, .val false [.lit (.bool r11)]), (57, .val false [.lit (.int .i64 r10)]), (56, .val false [.lit (.int .i64 x1)]), (55, .val false [.lit (.int .i64 v8.Members)]), (54, .adr (.box 6) [(0, 0)] 3 1), (53, .val false [.lit (.bool false)]), (52, .val false [.lit (.bool false)]), (51, .val false [.lit (.bool false)]), (50, .tup []), (49, .tup []), (48, .tup []), (47, .tup []), (46, .tup []), (45, .tup []), (44, .tup []), (43, .tup []), (42, .tup []), (41, .tup []), (40, .val false [.lit (.bool false)]), (39, .val false [.lit (.bool false)]), (38, .val false [.lit (.int .i64 y2)]), (37, .val false [.lit (.bool false)]), (36, .val false [.lit (.bool false)]), (35, .val false [.lit (.bool r9)]), (34, .val false [.lit (.int .i64 v8.Id)]), (33, .adr (.box 6) [(0, 0)] 3 0), (5, .val false [.lit (.int .i64 y2)]), (6, .adr (.box 6) [(0, 0)] 3 0), (32, .val true (Vrow.row v8)), (31, .fad ((Vrow.row v8))), (30, .val false [.lit (.int .i64 y2)]), (29, .val false [.lit (.bool true)]), (28, .val false [.lit (.int .i64 y2)]), (27, .val false [.lit (.int .i64 (x0.Rows.length : Int))]), (26, .val false [.sl false 3 (CV.frzEs (x0.Rows.map Vrow.row))]), (4, .val false [.lit (.bool false)]), (2, .adr (.box 2) [(0, 0)] 2 0), (1, .val false [.lit (.int .i64 x1)])], [(6, (Vrow.row v8)), (2, (CV.frzRow (Vtab.row x0)))]⟩ (fun cx => ?_) ?_
                    · refine AT.runU tOk [(0, []), (1, [2, 24, 25])] 34 [⟨[2, 24, 25], 3, 33, 34⟩] [1, 0] rfl (by kernel_rfl) (fun cx => ?_)
                      refine AT.big1 tOk 2 (by kernel_rfl) (by kernel_rfl) ?_
                      refine LAt.callU tOk [.rd, .rd, .rd] (f := 82) (av := #[.tmp 34, .const (.int .i64 1), .const (.int .i64 99)]) (ats := #[3, 3, 3]) (d := (some 35)) (ty := 4) (g := none) (by kernel_rfl) (by kernel_rfl) (by kernel_rfl) [] (impl_in n v8.Id 1 99 r9 er9) (by kernel_rfl) (.inl rfl) ?_
                      refine LAt.fin (by kernel_rfl) (And.intro (And.intro (by kernel_rfl) (by kernel_rfl)) ?_)
                      refine AT.runU tOk [(3, []), (4, [])] 31 [⟨[2, 24, 25], 3, 33, 34⟩] [4, 3, 2, 1, 0] rfl (by kernel_rfl) (fun cx => ?_)
                      refine AT.to ⟨82, 0, [(37, .val false [.lit (.bool (!r9))]), (36, .val false [.lit (.bool (!r9))]), (35, .val false [.lit (.bool r9)]), (34, .val false [.lit (.int .i64 v8.Id)]), (33, .adr (.box 6) [(0, 0)] 3 0), (5, .val false [.lit (.int .i64 y2)]), (6, .adr (.box 6) [(0, 0)] 3 0), (32, .val true (Vrow.row v8)), (31, .fad ((Vrow.row v8))), (30, .val false [.lit (.int .i64 y2)]), (29, .val false [.lit (.bool true)]), (28, .val false [.lit (.int .i64 y2)]), (27, .val false [.lit (.int .i64 (x0.Rows.length : Int))]), (26, .val false [.sl false 3 (CV.frzEs (x0.Rows.map Vrow.row))]), (4, .val false [.lit (.bool false)]), (2, .adr (.box 2) [(0, 0)] 2 0), (1, .val false [.lit (.int .i64 x1)])], [(6, (Vrow.row v8)), (2, (CV.frzRow (Vtab.row x0)))]⟩ (by kernel_rfl) ?_
                      rw [h7]
                      refine AT.runU tOk [(5, []), (6, []), (7, [])] 28 [⟨[2, 24, 25], 3, 33, 34⟩] [7, 6, 5, 4, 3, 2, 1, 0] rfl (by kernel_rfl) (fun cx => ?_)
                      refine AT.to ⟨82, 0, [(40, .val false [.lit (.bool (decide (y2 > 0)))]), (39, .val false [.lit (.bool (decide (y2 > 0)))]), (38, .val false [.lit (.int .i64 y2)]), (37, .val false [.lit (.bool false)]), (36, .val false [.lit (.bool false)]), (35, .val false [.lit (.bool r9)]), (34, .val false [.lit (.int .i64 v8.Id)]), (33, .adr (.box 6) [(0, 0)] 3 0), (5, .val false [.lit (.int .i64 y2)]), (6, .adr (.box 6) [(0, 0)] 3 0), (32, .val true (Vrow.row v8)), (31, .fad ((Vrow.row v8))), (30, .val false [.lit (.int .i64 y2)]), (29, .val false [.lit (.bool true)]), (28, .val false [.lit (.int .i64 y2)]), (27, .val false [.lit (.int .i64 (x0.Rows.length : Int))]), (26, .val false [.sl false 3 (CV.frzEs (x0.Rows.map Vrow.row))]), (4, .val false [.lit (.bool false)]), (2, .adr (.box 2) [(0, 0)] 2 0), (1, .val false [.lit (.int .i64 x1)])], [(6, (Vrow.row v8)), (2, (CV.frzRow (Vtab.row x0)))]⟩ (by kernel_rfl) ?_
                      rw [h8]
                      refine AT.runU tOk [(8, []), (9, []), (10, []), (11, []), (12, []), (13, []), (14, []), (15, []), (16, []), (17, []), (18, []), (19, []), (20, []), (21, []), (22, [25]), (23, [])] 12 [⟨[25], 3, 54, 55⟩, ⟨[2, 24, 25], 3, 33, 34⟩] [23, 22, 21, 20, 19, 18, 17, 16, 15, 14, 13, 12, 11, 10, 9, 8, 7, 6, 5, 4, 3, 2, 1, 0] rfl (by kernel_rfl) (fun cx => ?_)
                      refine AT.big1 tOk 24 (by kernel_rfl) (by kernel_rfl) ?_
                      refine LAt.callU tOk [.rd] (f := 110) (av := #[.tmp 56]) (ats := #[3]) (d := (some 57)) (ty := 3) (g := (some (20, false))) (by kernel_rfl) (by kernel_rfl) (by kernel_rfl) [] (impl_allPorts n x1 r10 er10) (by kernel_rfl) (.inl rfl) ?_
                      refine LAt.fin (by kernel_rfl) (And.intro (And.intro (by kernel_rfl) (by kernel_rfl)) ?_)
                      refine AT.big1 tOk 25 (by kernel_rfl) (by kernel_rfl) ?_
                      refine LAt.callU tOk [.rd, .rd, .rd] (f := 82) (av := #[.tmp 55, .const (.int .i64 0), .tmp 57]) (ats := #[3, 3, 3]) (d := (some 58)) (ty := 4) (g := (some (20, false))) (by kernel_rfl) (by kernel_rfl) (by kernel_rfl) [] (impl_in n v8.Members 0 r10 r11 er11) (by kernel_rfl) (.inl rfl) ?_
                      refine LAt.fin (by kernel_rfl) (And.intro (And.intro (by kernel_rfl) (by kernel_rfl)) ?_)
                      refine AT.runU tOk [(26, []), (27, []), (28, [])] 7 [⟨[25], 3, 54, 55⟩, ⟨[2, 24, 25], 3, 33, 34⟩] [28, 27, 26, 25, 24, 23, 22, 21, 20, 19, 18, 17, 16, 15, 14, 13, 12, 11, 10, 9, 8, 7, 6, 5, 4, 3, 2, 1, 0] rfl (by kernel_rfl) (fun cx => ?_)
                      refine AT.to ⟨82, 0, [(61, .val false [.lit (.bool (!r11))]), (60, .val false [.lit (.bool (!r11))]), (59, .val false [.lit (.bool (!r11))]), (58, .val false [.lit (.bool r11)]), (57, .val false [.lit (.int .i64 r10)]), (56, .val false [.lit (.int .i64 x1)]), (55, .val false [.lit (.int .i64 v8.Members)]), (54, .adr (.box 6) [(0, 0)] 3 1), (53, .val false [.lit (.bool false)]), (52, .val false [.lit (.bool false)]), (51, .val false [.lit (.bool false)]), (50, .tup []), (49, .tup []), (48, .tup []), (47, .tup []), (46, .tup []), (45, .tup []), (44, .tup []), (43, .tup []), (42, .tup []), (41, .tup []), (40, .val false [.lit (.bool false)]), (39, .val false [.lit (.bool false)]), (38, .val false [.lit (.int .i64 y2)]), (37, .val false [.lit (.bool false)]), (36, .val false [.lit (.bool false)]), (35, .val false [.lit (.bool r9)]), (34, .val false [.lit (.int .i64 v8.Id)]), (33, .adr (.box 6) [(0, 0)] 3 0), (5, .val false [.lit (.int .i64 y2)]), (6, .adr (.box 6) [(0, 0)] 3 0), (32, .val true (Vrow.row v8)), (31, .fad ((Vrow.row v8))), (30, .val false [.lit (.int .i64 y2)]), (29, .val false [.lit (.bool true)]), (28, .val false [.lit (.int .i64 y2)]), (27, .val false [.lit (.int .i64 (x0.Rows.length : Int))]), (26, .val false [.sl false 3 (CV.frzEs (x0.Rows.map Vrow.row))]), (4, .val false [.lit (.bool false)]), (2, .adr (.box 2) [(0, 0)] 2 0), (1, .val false [.lit (.int .i64 x1)])], [(6, (Vrow.row v8)), (2, (CV.frzRow (Vtab.row x0)))]⟩ (by kernel_rfl) ?_
                      rw [h9]
                      refine AT.runU tOk [(29, []), (30, []), (31, []), (32, []), (33, []), (34, []), (35, [])] 0 [⟨[], 3, 64, 65⟩, ⟨[], 3, 62, 63⟩, ⟨[25], 3, 54, 55⟩, ⟨[2, 24, 25], 3, 33, 34⟩] [35, 34, 33, 32, 31, 30, 29, 28, 27, 26, 25, 24, 23, 22, 21, 20, 19, 18, 17, 16, 15, 14, 13, 12, 11, 10, 9, 8, 7, 6, 5, 4, 3, 2, 1, 0] rfl (by kernel_rfl) (fun cx => ?_)
                      exact AT.done [68, 67, 66, 65, 64, 63, 62, 61, 60, 59, 58, 57, 56, 55, 54, 53, 52, 51, 50, 49, 48, 47, 46, 45, 44, 43, 42, 41, 40, 39, 38, 37, 36, 35, 34, 33, 5, 6, 32, 31, 30, 29, 28, 27, 26, 4, 2, 1] [6, 2] _ (by kernel_rfl) (by kernel_rfl) rfl
                    · refine Tr.to ⟨82, 0, [(68, .val false [.lit (.bool ((IntKind.wrap .i64 (BitVec.ofInt (IntKind.bits .i64) v8.Bare &&& ~~~BitVec.ofInt (IntKind.bits .i64) v8.Members).toNat) != 0))]), (67, .val false [.lit (.bool ((IntKind.wrap .i64 (BitVec.ofInt (IntKind.bits .i64) v8.Bare &&& ~~~BitVec.ofInt (IntKind.bits .i64) v8.Members).toNat) != 0))]), (66, .val false [.lit (.int .i64 (IntKind.wrap .i64 (BitVec.ofInt (IntKind.bits .i64) v8.Bare &&& ~~~BitVec.ofInt (IntKind.bits .i64) v8.Members).toNat))]), (65, .val false [.lit (.int .i64 v8.Members)]), (64, .adr (.box 6) [(0, 0)] 3 1), (63, .val false [.lit (.int .i64 v8.Bare)]), (62, .adr (.box 6) [(0, 0)] 3 2), (61, .val false [.lit (.bool false)]), (60, .val false [.lit (.bool false)]), (59, .val false [.lit (.bool false)]), (58, .val false [.lit (.bool r11)]), (57, .val false [.lit (.int .i64 r10)]), (56, .val false [.lit (.int .i64 x1)]), (55, .val false [.lit (.int .i64 v8.Members)]), (54, .adr (.box 6) [(0, 0)] 3 1), (53, .val false [.lit (.bool false)]), (52, .val false [.lit (.bool false)]), (51, .val false [.lit (.bool false)]), (50, .tup []), (49, .tup []), (48, .tup []), (47, .tup []), (46, .tup []), (45, .tup []), (44, .tup []), (43, .tup []), (42, .tup []), (41, .tup []), (40, .val false [.lit (.bool false)]), (39, .val false [.lit (.bool false)]), (38, .val false [.lit (.int .i64 y2)]), (37, .val false [.lit (.bool false)]), (36, .val false [.lit (.bool false)]), (35, .val false [.lit (.bool r9)]), (34, .val false [.lit (.int .i64 v8.Id)]), (33, .adr (.box 6) [(0, 0)] 3 0), (5, .val false [.lit (.int .i64 y2)]), (6, .adr (.box 6) [(0, 0)] 3 0), (32, .val true (Vrow.row v8)), (31, .fad ((Vrow.row v8))), (30, .val false [.lit (.int .i64 y2)]), (29, .val false [.lit (.bool true)]), (28, .val false [.lit (.int .i64 y2)]), (27, .val false [.lit (.int .i64 (x0.Rows.length : Int))]), (26, .val false [.sl false 3 (CV.frzEs (x0.Rows.map Vrow.row))]), (4, .val false [.lit (.bool false)]), (2, .adr (.box 2) [(0, 0)] 2 0), (1, .val false [.lit (.int .i64 x1)])], [(6, (Vrow.row v8)), (2, (CV.frzRow (Vtab.row x0)))]⟩ (by kernel_rfl) ?_
                      cases h10 : ((IntKind.wrap .i64 (BitVec.ofInt (IntKind.bits .i64) v8.Bare &&& ~~~BitVec.ofInt (IntKind.bits .i64) v8.Members).toNat) != 0)
                      · have H := bifF h10 H
                        refine Tr.cond (b := false) (by kernel_rfl) (fun h => nomatch h) (fun _ => ?_)
                        refine Tr.skip ?_
                        show Tr _ _ _ _ _
                        refine Tr.at ?_
                        refine LAt.runU tOk 2 (by kernel_rfl) ?_
                        refine LAt.doneU [28, 69, 68, 67, 66, 65, 64, 63, 62, 61, 60, 59, 58, 57, 56, 55, 54, 53, 52, 51, 50, 49, 48, 47, 46, 45, 44, 43, 42, 41, 40, 39, 38, 37, 36, 35, 34, 33, 5, 6, 32, 31, 30, 29, 27, 26, 4, 2, 1] [6, 2] (by kernel_rfl) ?_
                        exact Exists.intro (mo7, (IntKind.wrap .i64 (y2 + 1))) (And.intro H (And.intro (Nat.lt_succ_self mo7) (St.sub_of [28, 27, 26, 4, 2, 1] [2] (by kernel_rfl))))
                      · have H := bifT h10 H
                        refine Tr.cond (b := true) (by kernel_rfl) (fun _ => ?_) (fun h => nomatch h)
                        refine Tr.rs ?_
                        refine LAt.runU tOk 1 (by kernel_rfl) ?_
                        refine LAt.doneU [4, 68, 67, 66, 65, 64, 63, 62, 61, 60, 59, 58, 57, 56, 55, 54, 53, 52, 51, 50, 49, 48, 47, 46, 45, 44, 43, 42, 41, 40, 39, 38, 37, 36, 35, 34, 33, 5, 6, 32, 31, 30, 29, 28, 27, 26, 2, 1] [6, 2] (by kernel_rfl) ?_
                        refine Tr.ret ?_
                        have H := Option.some.inj H
                        subst H
                        have H := Ho7
                        dsimp only at H
                        have H := Option.some.inj H
                        subst H
                        exact Fin.of _ [(false, [.lit (.bool false)])] (by kernel_rfl) rfl rfl
                  · have H := bifT h9 H
                    refine Tr.draws mixed 36 (by kernel_rfl) ⟨82, 0, [(68, .val false [.lit (.bool true)]), (67, .tup []), (66, .tup []), (65, .tup []), (64, .tup []), (63, .tup []), (62, .tup []), (61, .val false [.lit (.bool true)]), (60, .val false [.lit (.bool true)]), (59, .val false [.lit (.bool true)]), (58, .val false [.lit (.bool r11)]), (57, .val false [.lit (.int .i64 r10)]), (56, .val false [.lit (.int .i64 x1)]), (55, .val false [.lit (.int .i64 v8.Members)]), (54, .adr (.box 6) [(0, 0)] 3 1), (53, .val false [.lit (.bool false)]), (52, .val false [.lit (.bool false)]), (51, .val false [.lit (.bool false)]), (50, .tup []), (49, .tup []), (48, .tup []), (47, .tup []), (46, .tup []), (45, .tup []), (44, .tup []), (43, .tup []), (42, .tup []), (41, .tup []), (40, .val false [.lit (.bool false)]), (39, .val false [.lit (.bool false)]), (38, .val false [.lit (.int .i64 y2)]), (37, .val false [.lit (.bool false)]), (36, .val false [.lit (.bool false)]), (35, .val false [.lit (.bool r9)]), (34, .val false [.lit (.int .i64 v8.Id)]), (33, .adr (.box 6) [(0, 0)] 3 0), (5, .val false [.lit (.int .i64 y2)]), (6, .adr (.box 6) [(0, 0)] 3 0), (32, .val true (Vrow.row v8)), (31, .fad ((Vrow.row v8))), (30, .val false [.lit (.int .i64 y2)]), (29, .val false [.lit (.bool true)]), (28, .val false [.lit (.int .i64 y2)]), (27, .val false [.lit (.int .i64 (x0.Rows.length : Int))]), (26, .val false [.sl false 3 (CV.frzEs (x0.Rows.map Vrow.row))]), (4, .val false [.lit (.bool false)]), (2, .adr (.box 2) [(0, 0)] 2 0), (1, .val false [.lit (.int .i64 x1)])], [(6, (Vrow.row v8)), (2, (CV.frzRow (Vtab.row x0)))]⟩ (fun cx => ?_) ?_
                    · refine AT.runU tOk [(0, []), (1, [2, 24, 25])] 34 [⟨[2, 24, 25], 3, 33, 34⟩] [1, 0] rfl (by kernel_rfl) (fun cx => ?_)
                      refine AT.big1 tOk 2 (by kernel_rfl) (by kernel_rfl) ?_
                      refine LAt.callU tOk [.rd, .rd, .rd] (f := 82) (av := #[.tmp 34, .const (.int .i64 1), .const (.int .i64 99)]) (ats := #[3, 3, 3]) (d := (some 35)) (ty := 4) (g := none) (by kernel_rfl) (by kernel_rfl) (by kernel_rfl) [] (impl_in n v8.Id 1 99 r9 er9) (by kernel_rfl) (.inl rfl) ?_
                      refine LAt.fin (by kernel_rfl) (And.intro (And.intro (by kernel_rfl) (by kernel_rfl)) ?_)
                      refine AT.runU tOk [(3, []), (4, [])] 31 [⟨[2, 24, 25], 3, 33, 34⟩] [4, 3, 2, 1, 0] rfl (by kernel_rfl) (fun cx => ?_)
                      refine AT.to ⟨82, 0, [(37, .val false [.lit (.bool (!r9))]), (36, .val false [.lit (.bool (!r9))]), (35, .val false [.lit (.bool r9)]), (34, .val false [.lit (.int .i64 v8.Id)]), (33, .adr (.box 6) [(0, 0)] 3 0), (5, .val false [.lit (.int .i64 y2)]), (6, .adr (.box 6) [(0, 0)] 3 0), (32, .val true (Vrow.row v8)), (31, .fad ((Vrow.row v8))), (30, .val false [.lit (.int .i64 y2)]), (29, .val false [.lit (.bool true)]), (28, .val false [.lit (.int .i64 y2)]), (27, .val false [.lit (.int .i64 (x0.Rows.length : Int))]), (26, .val false [.sl false 3 (CV.frzEs (x0.Rows.map Vrow.row))]), (4, .val false [.lit (.bool false)]), (2, .adr (.box 2) [(0, 0)] 2 0), (1, .val false [.lit (.int .i64 x1)])], [(6, (Vrow.row v8)), (2, (CV.frzRow (Vtab.row x0)))]⟩ (by kernel_rfl) ?_
                      rw [h7]
                      refine AT.runU tOk [(5, []), (6, []), (7, [])] 28 [⟨[2, 24, 25], 3, 33, 34⟩] [7, 6, 5, 4, 3, 2, 1, 0] rfl (by kernel_rfl) (fun cx => ?_)
                      refine AT.to ⟨82, 0, [(40, .val false [.lit (.bool (decide (y2 > 0)))]), (39, .val false [.lit (.bool (decide (y2 > 0)))]), (38, .val false [.lit (.int .i64 y2)]), (37, .val false [.lit (.bool false)]), (36, .val false [.lit (.bool false)]), (35, .val false [.lit (.bool r9)]), (34, .val false [.lit (.int .i64 v8.Id)]), (33, .adr (.box 6) [(0, 0)] 3 0), (5, .val false [.lit (.int .i64 y2)]), (6, .adr (.box 6) [(0, 0)] 3 0), (32, .val true (Vrow.row v8)), (31, .fad ((Vrow.row v8))), (30, .val false [.lit (.int .i64 y2)]), (29, .val false [.lit (.bool true)]), (28, .val false [.lit (.int .i64 y2)]), (27, .val false [.lit (.int .i64 (x0.Rows.length : Int))]), (26, .val false [.sl false 3 (CV.frzEs (x0.Rows.map Vrow.row))]), (4, .val false [.lit (.bool false)]), (2, .adr (.box 2) [(0, 0)] 2 0), (1, .val false [.lit (.int .i64 x1)])], [(6, (Vrow.row v8)), (2, (CV.frzRow (Vtab.row x0)))]⟩ (by kernel_rfl) ?_
                      rw [h8]
                      refine AT.runU tOk [(8, []), (9, []), (10, []), (11, []), (12, []), (13, []), (14, []), (15, []), (16, []), (17, []), (18, []), (19, []), (20, []), (21, []), (22, [25]), (23, [])] 12 [⟨[25], 3, 54, 55⟩, ⟨[2, 24, 25], 3, 33, 34⟩] [23, 22, 21, 20, 19, 18, 17, 16, 15, 14, 13, 12, 11, 10, 9, 8, 7, 6, 5, 4, 3, 2, 1, 0] rfl (by kernel_rfl) (fun cx => ?_)
                      refine AT.big1 tOk 24 (by kernel_rfl) (by kernel_rfl) ?_
                      refine LAt.callU tOk [.rd] (f := 110) (av := #[.tmp 56]) (ats := #[3]) (d := (some 57)) (ty := 3) (g := (some (20, false))) (by kernel_rfl) (by kernel_rfl) (by kernel_rfl) [] (impl_allPorts n x1 r10 er10) (by kernel_rfl) (.inl rfl) ?_
                      refine LAt.fin (by kernel_rfl) (And.intro (And.intro (by kernel_rfl) (by kernel_rfl)) ?_)
                      refine AT.big1 tOk 25 (by kernel_rfl) (by kernel_rfl) ?_
                      refine LAt.callU tOk [.rd, .rd, .rd] (f := 82) (av := #[.tmp 55, .const (.int .i64 0), .tmp 57]) (ats := #[3, 3, 3]) (d := (some 58)) (ty := 4) (g := (some (20, false))) (by kernel_rfl) (by kernel_rfl) (by kernel_rfl) [] (impl_in n v8.Members 0 r10 r11 er11) (by kernel_rfl) (.inl rfl) ?_
                      refine LAt.fin (by kernel_rfl) (And.intro (And.intro (by kernel_rfl) (by kernel_rfl)) ?_)
                      refine AT.runU tOk [(26, []), (27, []), (28, [])] 7 [⟨[25], 3, 54, 55⟩, ⟨[2, 24, 25], 3, 33, 34⟩] [28, 27, 26, 25, 24, 23, 22, 21, 20, 19, 18, 17, 16, 15, 14, 13, 12, 11, 10, 9, 8, 7, 6, 5, 4, 3, 2, 1, 0] rfl (by kernel_rfl) (fun cx => ?_)
                      refine AT.to ⟨82, 0, [(61, .val false [.lit (.bool (!r11))]), (60, .val false [.lit (.bool (!r11))]), (59, .val false [.lit (.bool (!r11))]), (58, .val false [.lit (.bool r11)]), (57, .val false [.lit (.int .i64 r10)]), (56, .val false [.lit (.int .i64 x1)]), (55, .val false [.lit (.int .i64 v8.Members)]), (54, .adr (.box 6) [(0, 0)] 3 1), (53, .val false [.lit (.bool false)]), (52, .val false [.lit (.bool false)]), (51, .val false [.lit (.bool false)]), (50, .tup []), (49, .tup []), (48, .tup []), (47, .tup []), (46, .tup []), (45, .tup []), (44, .tup []), (43, .tup []), (42, .tup []), (41, .tup []), (40, .val false [.lit (.bool false)]), (39, .val false [.lit (.bool false)]), (38, .val false [.lit (.int .i64 y2)]), (37, .val false [.lit (.bool false)]), (36, .val false [.lit (.bool false)]), (35, .val false [.lit (.bool r9)]), (34, .val false [.lit (.int .i64 v8.Id)]), (33, .adr (.box 6) [(0, 0)] 3 0), (5, .val false [.lit (.int .i64 y2)]), (6, .adr (.box 6) [(0, 0)] 3 0), (32, .val true (Vrow.row v8)), (31, .fad ((Vrow.row v8))), (30, .val false [.lit (.int .i64 y2)]), (29, .val false [.lit (.bool true)]), (28, .val false [.lit (.int .i64 y2)]), (27, .val false [.lit (.int .i64 (x0.Rows.length : Int))]), (26, .val false [.sl false 3 (CV.frzEs (x0.Rows.map Vrow.row))]), (4, .val false [.lit (.bool false)]), (2, .adr (.box 2) [(0, 0)] 2 0), (1, .val false [.lit (.int .i64 x1)])], [(6, (Vrow.row v8)), (2, (CV.frzRow (Vtab.row x0)))]⟩ (by kernel_rfl) ?_
                      rw [h9]
                      refine AT.runU tOk [(29, []), (30, []), (31, []), (32, []), (33, []), (34, []), (35, [])] 0 [⟨[25], 3, 54, 55⟩, ⟨[2, 24, 25], 3, 33, 34⟩] [35, 34, 33, 32, 31, 30, 29, 28, 27, 26, 25, 24, 23, 22, 21, 20, 19, 18, 17, 16, 15, 14, 13, 12, 11, 10, 9, 8, 7, 6, 5, 4, 3, 2, 1, 0] rfl (by kernel_rfl) (fun cx => ?_)
                      exact AT.done [68, 67, 66, 65, 64, 63, 62, 61, 60, 59, 58, 57, 56, 55, 54, 53, 52, 51, 50, 49, 48, 47, 46, 45, 44, 43, 42, 41, 40, 39, 38, 37, 36, 35, 34, 33, 5, 6, 32, 31, 30, 29, 28, 27, 26, 4, 2, 1] [6, 2] _ (by kernel_rfl) (by kernel_rfl) rfl
                    · refine Tr.cond (b := true) (by kernel_rfl) (fun _ => ?_) (fun h => nomatch h)
                      refine Tr.rs ?_
                      refine LAt.runU tOk 1 (by kernel_rfl) ?_
                      refine LAt.doneU [4, 68, 67, 66, 65, 64, 63, 62, 61, 60, 59, 58, 57, 56, 55, 54, 53, 52, 51, 50, 49, 48, 47, 46, 45, 44, 43, 42, 41, 40, 39, 38, 37, 36, 35, 34, 33, 5, 6, 32, 31, 30, 29, 28, 27, 26, 2, 1] [6, 2] (by kernel_rfl) ?_
                      refine Tr.ret ?_
                      have H := Option.some.inj H
                      subst H
                      have H := Ho7
                      dsimp only at H
                      have H := Option.some.inj H
                      subst H
                      exact Fin.of _ [(false, [.lit (.bool false)])] (by kernel_rfl) rfl rfl
                · have H := bifT h8 H
                  obtain ⟨v12, ev12, H⟩ := bind_some H
                  refine Tr.to ⟨82, 0, [(5, .val false [.lit (.int .i64 y2)]), (6, .adr (.box 6) [(0, 0)] 3 0), (32, .val true (Vrow.row v8)), (31, .fad ((Vrow.row v8))), (30, .val false [.lit (.int .i64 y2)]), (29, .val false [.lit (.bool true)]), (28, .val false [.lit (.int .i64 y2)]), (27, .val false [.lit (.int .i64 (x0.Rows.length : Int))]), (26, .val false [.sl false 3 (CV.frzEs (x0.Rows.map Vrow.row))]), (4, .val false [.lit (.bool false)]), (2, .adr (.box 2) [(0, 0)] 2 0), (1, .val false [.lit (.int .i64 x1)])], [(6, (Vrow.row v8)), (2, (CV.frzRow (Vtab.row x0)))]⟩ (by kernel_rfl) ?_
                  cases h11 : (decide (v12.Id ≥ v8.Id))
                  · have H := bifF h11 H
                    obtain ⟨r13, er13, H⟩ := bind_some H
                    obtain ⟨r14, er14, H⟩ := bind_some H
                    refine Tr.to ⟨82, 0, [(5, .val false [.lit (.int .i64 y2)]), (6, .adr (.box 6) [(0, 0)] 3 0), (32, .val true (Vrow.row v8)), (31, .fad ((Vrow.row v8))), (30, .val false [.lit (.int .i64 y2)]), (29, .val false [.lit (.bool true)]), (28, .val false [.lit (.int .i64 y2)]), (27, .val false [.lit (.int .i64 (x0.Rows.length : Int))]), (26, .val false [.sl false 3 (CV.frzEs (x0.Rows.map Vrow.row))]), (4, .val false [.lit (.bool false)]), (2, .adr (.box 2) [(0, 0)] 2 0), (1, .val false [.lit (.int .i64 x1)])], [(6, (Vrow.row v8)), (2, (CV.frzRow (Vtab.row x0)))]⟩ (by kernel_rfl) ?_
                    cases h12 : (!r14)
                    · have H := bifF h12 H
                      refine Tr.draws mixed 36 (by kernel_rfl) ⟨82, 0, [(68, .val false [.lit (.bool ((IntKind.wrap .i64 (BitVec.ofInt (IntKind.bits .i64) v8.Bare &&& ~~~BitVec.ofInt (IntKind.bits .i64) v8.Members).toNat) != 0))]), (67, .val false [.lit (.bool ((IntKind.wrap .i64 (BitVec.ofInt (IntKind.bits .i64) v8.Bare &&& ~~~BitVec.ofInt (IntKind.bits .i64) v8.Members).toNat) != 0))]), (66, .val false [.lit (.int .i64 (IntKind.wrap .i64 (BitVec.ofInt (IntKind.bits .i64) v8.Bare &&& ~~~BitVec.ofInt (IntKind.bits .i64) v8.Members).toNat))]), (65, .val false [.lit (.int .i64 v8.Members)]), (64, .adr (.box 6) [(0, 0)] 3 1), (63, .val false [.lit (.int .i64 v8.Bare)]), (62, .adr (.box 6) [(0, 0)] 3 2), (61, .val false [.lit (.bool false)]), (60, .val false [.lit (.bool false)]), (59, .val false [.lit (.bool false)]), (58, .val false [.lit (.bool r14)]), (57, .val false [.lit (.int .i64 r13)]), (56, .val false [.lit (.int .i64 x1)]), (55, .val false [.lit (.int .i64 v8.Members)]), (54, .adr (.box 6) [(0, 0)] 3 1), (53, .val false [.lit (.bool false)]), (52, .val false [.lit (.bool false)]), (51, .val false [.lit (.bool false)]), (50, .val false [.lit (.bool false)]), (49, .val false [.lit (.int .i64 v8.Id)]), (48, .adr (.box 6) [(0, 0)] 3 0), (47, .val false [.lit (.int .i64 v12.Id)]), (46, .fad ((Vrow.row v12))), (45, .fad ((Vrow.row v12))), (44, .val false [.lit (.int .i64 (IntKind.wrap .i64 (y2 - 1)))]), (43, .val false [.lit (.int .i64 y2)]), (42, .ref (.box 2) [(0, 0)] 2 0 1 false), (41, .adr (.box 2) [(0, 0)] 2 0), (40, .val false [.lit (.bool true)]), (39, .val false [.lit (.bool true)]), (38, .val false [.lit (.int .i64 y2)]), (37, .val false [.lit (.bool false)]), (36, .val false [.lit (.bool false)]), (35, .val false [.lit (.bool r9)]), (34, .val false [.lit (.int .i64 v8.Id)]), (33, .adr (.box 6) [(0, 0)] 3 0), (5, .val false [.lit (.int .i64 y2)]), (6, .adr (.box 6) [(0, 0)] 3 0), (32, .val true (Vrow.row v8)), (31, .fad ((Vrow.row v8))), (30, .val false [.lit (.int .i64 y2)]), (29, .val false [.lit (.bool true)]), (28, .val false [.lit (.int .i64 y2)]), (27, .val false [.lit (.int .i64 (x0.Rows.length : Int))]), (26, .val false [.sl false 3 (CV.frzEs (x0.Rows.map Vrow.row))]), (4, .val false [.lit (.bool false)]), (2, .adr (.box 2) [(0, 0)] 2 0), (1, .val false [.lit (.int .i64 x1)])], [(6, (Vrow.row v8)), (2, (CV.frzRow (Vtab.row x0)))]⟩ (fun cx => ?_) ?_
                      · refine AT.runU tOk [(0, []), (1, [2, 24, 25])] 34 [⟨[2, 24, 25], 3, 33, 34⟩] [1, 0] rfl (by kernel_rfl) (fun cx => ?_)
                        refine AT.big1 tOk 2 (by kernel_rfl) (by kernel_rfl) ?_
                        refine LAt.callU tOk [.rd, .rd, .rd] (f := 82) (av := #[.tmp 34, .const (.int .i64 1), .const (.int .i64 99)]) (ats := #[3, 3, 3]) (d := (some 35)) (ty := 4) (g := none) (by kernel_rfl) (by kernel_rfl) (by kernel_rfl) [] (impl_in n v8.Id 1 99 r9 er9) (by kernel_rfl) (.inl rfl) ?_
                        refine LAt.fin (by kernel_rfl) (And.intro (And.intro (by kernel_rfl) (by kernel_rfl)) ?_)
                        refine AT.runU tOk [(3, []), (4, [])] 31 [⟨[2, 24, 25], 3, 33, 34⟩] [4, 3, 2, 1, 0] rfl (by kernel_rfl) (fun cx => ?_)
                        refine AT.to ⟨82, 0, [(37, .val false [.lit (.bool (!r9))]), (36, .val false [.lit (.bool (!r9))]), (35, .val false [.lit (.bool r9)]), (34, .val false [.lit (.int .i64 v8.Id)]), (33, .adr (.box 6) [(0, 0)] 3 0), (5, .val false [.lit (.int .i64 y2)]), (6, .adr (.box 6) [(0, 0)] 3 0), (32, .val true (Vrow.row v8)), (31, .fad ((Vrow.row v8))), (30, .val false [.lit (.int .i64 y2)]), (29, .val false [.lit (.bool true)]), (28, .val false [.lit (.int .i64 y2)]), (27, .val false [.lit (.int .i64 (x0.Rows.length : Int))]), (26, .val false [.sl false 3 (CV.frzEs (x0.Rows.map Vrow.row))]), (4, .val false [.lit (.bool false)]), (2, .adr (.box 2) [(0, 0)] 2 0), (1, .val false [.lit (.int .i64 x1)])], [(6, (Vrow.row v8)), (2, (CV.frzRow (Vtab.row x0)))]⟩ (by kernel_rfl) ?_
                        rw [h7]
                        refine AT.runU tOk [(5, []), (6, []), (7, [])] 28 [⟨[2, 24, 25], 3, 33, 34⟩] [7, 6, 5, 4, 3, 2, 1, 0] rfl (by kernel_rfl) (fun cx => ?_)
                        refine AT.to ⟨82, 0, [(40, .val false [.lit (.bool (decide (y2 > 0)))]), (39, .val false [.lit (.bool (decide (y2 > 0)))]), (38, .val false [.lit (.int .i64 y2)]), (37, .val false [.lit (.bool false)]), (36, .val false [.lit (.bool false)]), (35, .val false [.lit (.bool r9)]), (34, .val false [.lit (.int .i64 v8.Id)]), (33, .adr (.box 6) [(0, 0)] 3 0), (5, .val false [.lit (.int .i64 y2)]), (6, .adr (.box 6) [(0, 0)] 3 0), (32, .val true (Vrow.row v8)), (31, .fad ((Vrow.row v8))), (30, .val false [.lit (.int .i64 y2)]), (29, .val false [.lit (.bool true)]), (28, .val false [.lit (.int .i64 y2)]), (27, .val false [.lit (.int .i64 (x0.Rows.length : Int))]), (26, .val false [.sl false 3 (CV.frzEs (x0.Rows.map Vrow.row))]), (4, .val false [.lit (.bool false)]), (2, .adr (.box 2) [(0, 0)] 2 0), (1, .val false [.lit (.int .i64 x1)])], [(6, (Vrow.row v8)), (2, (CV.frzRow (Vtab.row x0)))]⟩ (by kernel_rfl) ?_
                        rw [h8]
                        refine AT.runU tOk [(8, []), (9, [24, 25]), (10, []), (11, [])] 24 [⟨[24, 25], 27, 41, 42⟩, ⟨[2, 24, 25], 3, 33, 34⟩] [11, 10, 9, 8, 7, 6, 5, 4, 3, 2, 1, 0] rfl (by kernel_rfl) (fun cx => ?_)
                        refine AT.indexF tOk 12 (t := 27) (ty := 0) (x := (.tmp 42)) (y := (.tmp 44)) (d := 45) (g := (some (7, true))) ⟨(.box 2), [(0, 0)], 0, false, 3, (CV.frzEs (x0.Rows.map Vrow.row))⟩ (IntKind.wrap .i64 (y2 - 1)) (Vrow.row v12) _ (by kernel_rfl) (by kernel_rfl) (by kernel_rfl) (by kernel_rfl) (by kernel_rfl) (by kernel_rfl) rfl (idx_isF ev12) rfl (fun cx => ?_)
                        refine AT.runU tOk [(13, []), (14, []), (15, []), (16, [24, 25]), (17, []), (18, []), (19, []), (20, [])] 15 [⟨[24, 25], 3, 48, 49⟩, ⟨[24, 25], 27, 41, 42⟩, ⟨[2, 24, 25], 3, 33, 34⟩] [20, 19, 18, 17, 16, 15, 14, 13, 12, 11, 10, 9, 8, 7, 6, 5, 4, 3, 2, 1, 0] rfl (by kernel_rfl) (fun cx => ?_)
                        refine AT.to ⟨82, 0, [(53, .val false [.lit (.bool (decide (v12.Id ≥ v8.Id)))]), (52, .val false [.lit (.bool (decide (v12.Id ≥ v8.Id)))]), (51, .val false [.lit (.bool (decide (v12.Id ≥ v8.Id)))]), (50, .val false [.lit (.bool (decide (v12.Id ≥ v8.Id)))]), (49, .val false [.lit (.int .i64 v8.Id)]), (48, .adr (.box 6) [(0, 0)] 3 0), (47, .val false [.lit (.int .i64 v12.Id)]), (46, .fad ((Vrow.row v12))), (45, .fad ((Vrow.row v12))), (44, .val false [.lit (.int .i64 (IntKind.wrap .i64 (y2 - 1)))]), (43, .val false [.lit (.int .i64 y2)]), (42, .ref (.box 2) [(0, 0)] 2 0 1 false), (41, .adr (.box 2) [(0, 0)] 2 0), (40, .val false [.lit (.bool true)]), (39, .val false [.lit (.bool true)]), (38, .val false [.lit (.int .i64 y2)]), (37, .val false [.lit (.bool false)]), (36, .val false [.lit (.bool false)]), (35, .val false [.lit (.bool r9)]), (34, .val false [.lit (.int .i64 v8.Id)]), (33, .adr (.box 6) [(0, 0)] 3 0), (5, .val false [.lit (.int .i64 y2)]), (6, .adr (.box 6) [(0, 0)] 3 0), (32, .val true (Vrow.row v8)), (31, .fad ((Vrow.row v8))), (30, .val false [.lit (.int .i64 y2)]), (29, .val false [.lit (.bool true)]), (28, .val false [.lit (.int .i64 y2)]), (27, .val false [.lit (.int .i64 (x0.Rows.length : Int))]), (26, .val false [.sl false 3 (CV.frzEs (x0.Rows.map Vrow.row))]), (4, .val false [.lit (.bool false)]), (2, .adr (.box 2) [(0, 0)] 2 0), (1, .val false [.lit (.int .i64 x1)])], [(6, (Vrow.row v8)), (2, (CV.frzRow (Vtab.row x0)))]⟩ (by kernel_rfl) ?_
                        rw [h11]
                        refine AT.runU tOk [(21, []), (22, [25]), (23, [])] 12 [⟨[25], 3, 54, 55⟩, ⟨[24, 25], 3, 48, 49⟩, ⟨[24, 25], 27, 41, 42⟩, ⟨[2, 24, 25], 3, 33, 34⟩] [23, 22, 21, 20, 19, 18, 17, 16, 15, 14, 13, 12, 11, 10, 9, 8, 7, 6, 5, 4, 3, 2, 1, 0] rfl (by kernel_rfl) (fun cx => ?_)
                        refine AT.big1 tOk 24 (by kernel_rfl) (by kernel_rfl) ?_
                        refine LAt.callU tOk [.rd] (f := 110) (av := #[.tmp 56]) (ats := #[3]) (d := (some 57)) (ty := 3) (g := (some (20, false))) (by kernel_rfl) (by kernel_rfl) (by kernel_rfl) [] (impl_allPorts n x1 r13 er13) (by kernel_rfl) (.inl rfl) ?_
                        refine LAt.fin (by kernel_rfl) (And.intro (And.intro (by kernel_rfl) (by kernel_rfl)) ?_)
                        refine AT.big1 tOk 25 (by kernel_rfl) (by kernel_rfl) ?_
                        refine LAt.callU tOk [.rd, .rd, .rd] (f := 82) (av := #[.tmp 55, .const (.int .i64 0), .tmp 57]) (ats := #[3, 3, 3]) (d := (some 58)) (ty := 4) (g := (some (20, false))) (by kernel_rfl) (by kernel_rfl) (by kernel_rfl) [] (impl_in n v8.Members 0 r13 r14 er14) (by kernel_rfl) (.inl rfl) ?_
                        refine LAt.fin (by kernel_rfl) (And.intro (And.intro (by kernel_rfl) (by kernel_rfl)) ?_)
                        refine AT.runU tOk [(26, []), (27, []), (28, [])] 7 [⟨[25], 3, 54, 55⟩, ⟨[24, 25], 3, 48, 49⟩, ⟨[24, 25], 27, 41, 42⟩, ⟨[2, 24, 25], 3, 33, 34⟩] [28, 27, 26, 25, 24, 23, 22, 21, 20, 19, 18, 17, 16, 15, 14, 13, 12, 11, 10, 9, 8, 7, 6, 5, 4, 3, 2, 1, 0] rfl (by kernel_rfl) (fun cx => ?_)
                        refine AT.to ⟨82, 0, [(61, .val false [.lit (.bool (!r14))]), (60, .val false [.lit (.bool (!r14))]), (59, .val false [.lit (.bool (!r14))]), (58, .val false [.lit (.bool r14)]), (57, .val false [.lit (.int .i64 r13)]), (56, .val false [.lit (.int .i64 x1)]), (55, .val false [.lit (.int .i64 v8.Members)]), (54, .adr (.box 6) [(0, 0)] 3 1), (53, .val false [.lit (.bool false)]), (52, .val false [.lit (.bool false)]), (51, .val false [.lit (.bool false)]), (50, .val false [.lit (.bool false)]), (49, .val false [.lit (.int .i64 v8.Id)]), (48, .adr (.box 6) [(0, 0)] 3 0), (47, .val false [.lit (.int .i64 v12.Id)]), (46, .fad ((Vrow.row v12))), (45, .fad ((Vrow.row v12))), (44, .val false [.lit (.int .i64 (IntKind.wrap .i64 (y2 - 1)))]), (43, .val false [.lit (.int .i64 y2)]), (42, .ref (.box 2) [(0, 0)] 2 0 1 false), (41, .adr (.box 2) [(0, 0)] 2 0), (40, .val false [.lit (.bool true)]), (39, .val false [.lit (.bool true)]), (38, .val false [.lit (.int .i64 y2)]), (37, .val false [.lit (.bool false)]), (36, .val false [.lit (.bool false)]), (35, .val false [.lit (.bool r9)]), (34, .val false [.lit (.int .i64 v8.Id)]), (33, .adr (.box 6) [(0, 0)] 3 0), (5, .val false [.lit (.int .i64 y2)]), (6, .adr (.box 6) [(0, 0)] 3 0), (32, .val true (Vrow.row v8)), (31, .fad ((Vrow.row v8))), (30, .val false [.lit (.int .i64 y2)]), (29, .val false [.lit (.bool true)]), (28, .val false [.lit (.int .i64 y2)]), (27, .val false [.lit (.int .i64 (x0.Rows.length : Int))]), (26, .val false [.sl false 3 (CV.frzEs (x0.Rows.map Vrow.row))]), (4, .val false [.lit (.bool false)]), (2, .adr (.box 2) [(0, 0)] 2 0), (1, .val false [.lit (.int .i64 x1)])], [(6, (Vrow.row v8)), (2, (CV.frzRow (Vtab.row x0)))]⟩ (by kernel_rfl) ?_
                        rw [h12]
                        refine AT.runU tOk [(29, []), (30, []), (31, []), (32, []), (33, []), (34, []), (35, [])] 0 [⟨[], 3, 64, 65⟩, ⟨[], 3, 62, 63⟩, ⟨[25], 3, 54, 55⟩, ⟨[24, 25], 3, 48, 49⟩, ⟨[24, 25], 27, 41, 42⟩, ⟨[2, 24, 25], 3, 33, 34⟩] [35, 34, 33, 32, 31, 30, 29, 28, 27, 26, 25, 24, 23, 22, 21, 20, 19, 18, 17, 16, 15, 14, 13, 12, 11, 10, 9, 8, 7, 6, 5, 4, 3, 2, 1, 0] rfl (by kernel_rfl) (fun cx => ?_)
                        exact AT.done [68, 67, 66, 65, 64, 63, 62, 61, 60, 59, 58, 57, 56, 55, 54, 53, 52, 51, 50, 49, 48, 47, 46, 45, 44, 43, 42, 41, 40, 39, 38, 37, 36, 35, 34, 33, 5, 6, 32, 31, 30, 29, 28, 27, 26, 4, 2, 1] [6, 2] _ (by kernel_rfl) (by kernel_rfl) rfl
                      · refine Tr.to ⟨82, 0, [(68, .val false [.lit (.bool ((IntKind.wrap .i64 (BitVec.ofInt (IntKind.bits .i64) v8.Bare &&& ~~~BitVec.ofInt (IntKind.bits .i64) v8.Members).toNat) != 0))]), (67, .val false [.lit (.bool ((IntKind.wrap .i64 (BitVec.ofInt (IntKind.bits .i64) v8.Bare &&& ~~~BitVec.ofInt (IntKind.bits .i64) v8.Members).toNat) != 0))]), (66, .val false [.lit (.int .i64 (IntKind.wrap .i64 (BitVec.ofInt (IntKind.bits .i64) v8.Bare &&& ~~~BitVec.ofInt (IntKind.bits .i64) v8.Members).toNat))]), (65, .val false [.lit (.int .i64 v8.Members)]), (64, .adr (.box 6) [(0, 0)] 3 1), (63, .val false [.lit (.int .i64 v8.Bare)]), (62, .adr (.box 6) [(0, 0)] 3 2), (61, .val false [.lit (.bool false)]), (60, .val false [.lit (.bool false)]), (59, .val false [.lit (.bool false)]), (58, .val false [.lit (.bool r14)]), (57, .val false [.lit (.int .i64 r13)]), (56, .val false [.lit (.int .i64 x1)]), (55, .val false [.lit (.int .i64 v8.Members)]), (54, .adr (.box 6) [(0, 0)] 3 1), (53, .val false [.lit (.bool false)]), (52, .val false [.lit (.bool false)]), (51, .val false [.lit (.bool false)]), (50, .val false [.lit (.bool false)]), (49, .val false [.lit (.int .i64 v8.Id)]), (48, .adr (.box 6) [(0, 0)] 3 0), (47, .val false [.lit (.int .i64 v12.Id)]), (46, .fad ((Vrow.row v12))), (45, .fad ((Vrow.row v12))), (44, .val false [.lit (.int .i64 (IntKind.wrap .i64 (y2 - 1)))]), (43, .val false [.lit (.int .i64 y2)]), (42, .ref (.box 2) [(0, 0)] 2 0 1 false), (41, .adr (.box 2) [(0, 0)] 2 0), (40, .val false [.lit (.bool true)]), (39, .val false [.lit (.bool true)]), (38, .val false [.lit (.int .i64 y2)]), (37, .val false [.lit (.bool false)]), (36, .val false [.lit (.bool false)]), (35, .val false [.lit (.bool r9)]), (34, .val false [.lit (.int .i64 v8.Id)]), (33, .adr (.box 6) [(0, 0)] 3 0), (5, .val false [.lit (.int .i64 y2)]), (6, .adr (.box 6) [(0, 0)] 3 0), (32, .val true (Vrow.row v8)), (31, .fad ((Vrow.row v8))), (30, .val false [.lit (.int .i64 y2)]), (29, .val false [.lit (.bool true)]), (28, .val false [.lit (.int .i64 y2)]), (27, .val false [.lit (.int .i64 (x0.Rows.length : Int))]), (26, .val false [.sl false 3 (CV.frzEs (x0.Rows.map Vrow.row))]), (4, .val false [.lit (.bool false)]), (2, .adr (.box 2) [(0, 0)] 2 0), (1, .val false [.lit (.int .i64 x1)])], [(6, (Vrow.row v8)), (2, (CV.frzRow (Vtab.row x0)))]⟩ (by kernel_rfl) ?_
                        cases h13 : ((IntKind.wrap .i64 (BitVec.ofInt (IntKind.bits .i64) v8.Bare &&& ~~~BitVec.ofInt (IntKind.bits .i64) v8.Members).toNat) != 0)
                        · have H := bifF h13 H
                          refine Tr.cond (b := false) (by kernel_rfl) (fun h => nomatch h) (fun _ => ?_)
                          refine Tr.skip ?_
                          show Tr _ _ _ _ _
                          refine Tr.at ?_
                          refine LAt.runU tOk 2 (by kernel_rfl) ?_
                          refine LAt.doneU [28, 69, 68, 67, 66, 65, 64, 63, 62, 61, 60, 59, 58, 57, 56, 55, 54, 53, 52, 51, 50, 49, 48, 47, 46, 45, 44, 43, 42, 41, 40, 39, 38, 37, 36, 35, 34, 33, 5, 6, 32, 31, 30, 29, 27, 26, 4, 2, 1] [6, 2] (by kernel_rfl) ?_
                          exact Exists.intro (mo7, (IntKind.wrap .i64 (y2 + 1))) (And.intro H (And.intro (Nat.lt_succ_self mo7) (St.sub_of [28, 27, 26, 4, 2, 1] [2] (by kernel_rfl))))
                        · have H := bifT h13 H
                          refine Tr.cond (b := true) (by kernel_rfl) (fun _ => ?_) (fun h => nomatch h)
                          refine Tr.rs ?_
                          refine LAt.runU tOk 1 (by kernel_rfl) ?_
                          refine LAt.doneU [4, 68, 67, 66, 65, 64, 63, 62, 61, 60, 59, 58, 57, 56, 55, 54, 53, 52, 51, 50, 49, 48, 47, 46, 45, 44, 43, 42, 41, 40, 39, 38, 37, 36, 35, 34, 33, 5, 6, 32, 31, 30, 29, 28, 27, 26, 2, 1] [6, 2] (by kernel_rfl) ?_
                          refine Tr.ret ?_
                          have H := Option.some.inj H
                          subst H
                          have H := Ho7
                          dsimp only at H
                          have H := Option.some.inj H
                          subst H
                          exact Fin.of _ [(false, [.lit (.bool false)])] (by kernel_rfl) rfl rfl
                    · have H := bifT h12 H
                      refine Tr.draws mixed 36 (by kernel_rfl) ⟨82, 0, [(68, .val false [.lit (.bool true)]), (67, .tup []), (66, .tup []), (65, .tup []), (64, .tup []), (63, .tup []), (62, .tup []), (61, .val false [.lit (.bool true)]), (60, .val false [.lit (.bool true)]), (59, .val false [.lit (.bool true)]), (58, .val false [.lit (.bool r14)]), (57, .val false [.lit (.int .i64 r13)]), (56, .val false [.lit (.int .i64 x1)]), (55, .val false [.lit (.int .i64 v8.Members)]), (54, .adr (.box 6) [(0, 0)] 3 1), (53, .val false [.lit (.bool false)]), (52, .val false [.lit (.bool false)]), (51, .val false [.lit (.bool false)]), (50, .val false [.lit (.bool false)]), (49, .val false [.lit (.int .i64 v8.Id)]), (48, .adr (.box 6) [(0, 0)] 3 0), (47, .val false [.lit (.int .i64 v12.Id)]), (46, .fad ((Vrow.row v12))), (45, .fad ((Vrow.row v12))), (44, .val false [.lit (.int .i64 (IntKind.wrap .i64 (y2 - 1)))]), (43, .val false [.lit (.int .i64 y2)]), (42, .ref (.box 2) [(0, 0)] 2 0 1 false), (41, .adr (.box 2) [(0, 0)] 2 0), (40, .val false [.lit (.bool true)]), (39, .val false [.lit (.bool true)]), (38, .val false [.lit (.int .i64 y2)]), (37, .val false [.lit (.bool false)]), (36, .val false [.lit (.bool false)]), (35, .val false [.lit (.bool r9)]), (34, .val false [.lit (.int .i64 v8.Id)]), (33, .adr (.box 6) [(0, 0)] 3 0), (5, .val false [.lit (.int .i64 y2)]), (6, .adr (.box 6) [(0, 0)] 3 0), (32, .val true (Vrow.row v8)), (31, .fad ((Vrow.row v8))), (30, .val false [.lit (.int .i64 y2)]), (29, .val false [.lit (.bool true)]), (28, .val false [.lit (.int .i64 y2)]), (27, .val false [.lit (.int .i64 (x0.Rows.length : Int))]), (26, .val false [.sl false 3 (CV.frzEs (x0.Rows.map Vrow.row))]), (4, .val false [.lit (.bool false)]), (2, .adr (.box 2) [(0, 0)] 2 0), (1, .val false [.lit (.int .i64 x1)])], [(6, (Vrow.row v8)), (2, (CV.frzRow (Vtab.row x0)))]⟩ (fun cx => ?_) ?_
                      · refine AT.runU tOk [(0, []), (1, [2, 24, 25])] 34 [⟨[2, 24, 25], 3, 33, 34⟩] [1, 0] rfl (by kernel_rfl) (fun cx => ?_)
                        refine AT.big1 tOk 2 (by kernel_rfl) (by kernel_rfl) ?_
                        refine LAt.callU tOk [.rd, .rd, .rd] (f := 82) (av := #[.tmp 34, .const (.int .i64 1), .const (.int .i64 99)]) (ats := #[3, 3, 3]) (d := (some 35)) (ty := 4) (g := none) (by kernel_rfl) (by kernel_rfl) (by kernel_rfl) [] (impl_in n v8.Id 1 99 r9 er9) (by kernel_rfl) (.inl rfl) ?_
                        refine LAt.fin (by kernel_rfl) (And.intro (And.intro (by kernel_rfl) (by kernel_rfl)) ?_)
                        refine AT.runU tOk [(3, []), (4, [])] 31 [⟨[2, 24, 25], 3, 33, 34⟩] [4, 3, 2, 1, 0] rfl (by kernel_rfl) (fun cx => ?_)
                        refine AT.to ⟨82, 0, [(37, .val false [.lit (.bool (!r9))]), (36, .val false [.lit (.bool (!r9))]), (35, .val false [.lit (.bool r9)]), (34, .val false [.lit (.int .i64 v8.Id)]), (33, .adr (.box 6) [(0, 0)] 3 0), (5, .val false [.lit (.int .i64 y2)]), (6, .adr (.box 6) [(0, 0)] 3 0), (32, .val true (Vrow.row v8)), (31, .fad ((Vrow.row v8))), (30, .val false [.lit (.int .i64 y2)]), (29, .val false [.lit (.bool true)]), (28, .val false [.lit (.int .i64 y2)]), (27, .val false [.lit (.int .i64 (x0.Rows.length : Int))]), (26, .val false [.sl false 3 (CV.frzEs (x0.Rows.map Vrow.row))]), (4, .val false [.lit (.bool false)]), (2, .adr (.box 2) [(0, 0)] 2 0), (1, .val false [.lit (.int .i64 x1)])], [(6, (Vrow.row v8)), (2, (CV.frzRow (Vtab.row x0)))]⟩ (by kernel_rfl) ?_
                        rw [h7]
                        refine AT.runU tOk [(5, []), (6, []), (7, [])] 28 [⟨[2, 24, 25], 3, 33, 34⟩] [7, 6, 5, 4, 3, 2, 1, 0] rfl (by kernel_rfl) (fun cx => ?_)
                        refine AT.to ⟨82, 0, [(40, .val false [.lit (.bool (decide (y2 > 0)))]), (39, .val false [.lit (.bool (decide (y2 > 0)))]), (38, .val false [.lit (.int .i64 y2)]), (37, .val false [.lit (.bool false)]), (36, .val false [.lit (.bool false)]), (35, .val false [.lit (.bool r9)]), (34, .val false [.lit (.int .i64 v8.Id)]), (33, .adr (.box 6) [(0, 0)] 3 0), (5, .val false [.lit (.int .i64 y2)]), (6, .adr (.box 6) [(0, 0)] 3 0), (32, .val true (Vrow.row v8)), (31, .fad ((Vrow.row v8))), (30, .val false [.lit (.int .i64 y2)]), (29, .val false [.lit (.bool true)]), (28, .val false [.lit (.int .i64 y2)]), (27, .val false [.lit (.int .i64 (x0.Rows.length : Int))]), (26, .val false [.sl false 3 (CV.frzEs (x0.Rows.map Vrow.row))]), (4, .val false [.lit (.bool false)]), (2, .adr (.box 2) [(0, 0)] 2 0), (1, .val false [.lit (.int .i64 x1)])], [(6, (Vrow.row v8)), (2, (CV.frzRow (Vtab.row x0)))]⟩ (by kernel_rfl) ?_
                        rw [h8]
                        refine AT.runU tOk [(8, []), (9, [24, 25]), (10, []), (11, [])] 24 [⟨[24, 25], 27, 41, 42⟩, ⟨[2, 24, 25], 3, 33, 34⟩] [11, 10, 9, 8, 7, 6, 5, 4, 3, 2, 1, 0] rfl (by kernel_rfl) (fun cx => ?_)
                        refine AT.indexF tOk 12 (t := 27) (ty := 0) (x := (.tmp 42)) (y := (.tmp 44)) (d := 45) (g := (some (7, true))) ⟨(.box 2), [(0, 0)], 0, false, 3, (CV.frzEs (x0.Rows.map Vrow.row))⟩ (IntKind.wrap .i64 (y2 - 1)) (Vrow.row v12) _ (by kernel_rfl) (by kernel_rfl) (by kernel_rfl) (by kernel_rfl) (by kernel_rfl) (by kernel_rfl) rfl (idx_isF ev12) rfl (fun cx => ?_)
                        refine AT.runU tOk [(13, []), (14, []), (15, []), (16, [24, 25]), (17, []), (18, []), (19, []), (20, [])] 15 [⟨[24, 25], 3, 48, 49⟩, ⟨[24, 25], 27, 41, 42⟩, ⟨[2, 24, 25], 3, 33, 34⟩] [20, 19, 18, 17, 16, 15, 14, 13, 12, 11, 10, 9, 8, 7, 6, 5, 4, 3, 2, 1, 0] rfl (by kernel_rfl) (fun cx => ?_)
                        refine AT.to ⟨82, 0, [(53, .val false [.lit (.bool (decide (v12.Id ≥ v8.Id)))]), (52, .val false [.lit (.bool (decide (v12.Id ≥ v8.Id)))]), (51, .val false [.lit (.bool (decide (v12.Id ≥ v8.Id)))]), (50, .val false [.lit (.bool (decide (v12.Id ≥ v8.Id)))]), (49, .val false [.lit (.int .i64 v8.Id)]), (48, .adr (.box 6) [(0, 0)] 3 0), (47, .val false [.lit (.int .i64 v12.Id)]), (46, .fad ((Vrow.row v12))), (45, .fad ((Vrow.row v12))), (44, .val false [.lit (.int .i64 (IntKind.wrap .i64 (y2 - 1)))]), (43, .val false [.lit (.int .i64 y2)]), (42, .ref (.box 2) [(0, 0)] 2 0 1 false), (41, .adr (.box 2) [(0, 0)] 2 0), (40, .val false [.lit (.bool true)]), (39, .val false [.lit (.bool true)]), (38, .val false [.lit (.int .i64 y2)]), (37, .val false [.lit (.bool false)]), (36, .val false [.lit (.bool false)]), (35, .val false [.lit (.bool r9)]), (34, .val false [.lit (.int .i64 v8.Id)]), (33, .adr (.box 6) [(0, 0)] 3 0), (5, .val false [.lit (.int .i64 y2)]), (6, .adr (.box 6) [(0, 0)] 3 0), (32, .val true (Vrow.row v8)), (31, .fad ((Vrow.row v8))), (30, .val false [.lit (.int .i64 y2)]), (29, .val false [.lit (.bool true)]), (28, .val false [.lit (.int .i64 y2)]), (27, .val false [.lit (.int .i64 (x0.Rows.length : Int))]), (26, .val false [.sl false 3 (CV.frzEs (x0.Rows.map Vrow.row))]), (4, .val false [.lit (.bool false)]), (2, .adr (.box 2) [(0, 0)] 2 0), (1, .val false [.lit (.int .i64 x1)])], [(6, (Vrow.row v8)), (2, (CV.frzRow (Vtab.row x0)))]⟩ (by kernel_rfl) ?_
                        rw [h11]
                        refine AT.runU tOk [(21, []), (22, [25]), (23, [])] 12 [⟨[25], 3, 54, 55⟩, ⟨[24, 25], 3, 48, 49⟩, ⟨[24, 25], 27, 41, 42⟩, ⟨[2, 24, 25], 3, 33, 34⟩] [23, 22, 21, 20, 19, 18, 17, 16, 15, 14, 13, 12, 11, 10, 9, 8, 7, 6, 5, 4, 3, 2, 1, 0] rfl (by kernel_rfl) (fun cx => ?_)
                        refine AT.big1 tOk 24 (by kernel_rfl) (by kernel_rfl) ?_
                        refine LAt.callU tOk [.rd] (f := 110) (av := #[.tmp 56]) (ats := #[3]) (d := (some 57)) (ty := 3) (g := (some (20, false))) (by kernel_rfl) (by kernel_rfl) (by kernel_rfl) [] (impl_allPorts n x1 r13 er13) (by kernel_rfl) (.inl rfl) ?_
                        refine LAt.fin (by kernel_rfl) (And.intro (And.intro (by kernel_rfl) (by kernel_rfl)) ?_)
                        refine AT.big1 tOk 25 (by kernel_rfl) (by kernel_rfl) ?_
                        refine LAt.callU tOk [.rd, .rd, .rd] (f := 82) (av := #[.tmp 55, .const (.int .i64 0), .tmp 57]) (ats := #[3, 3, 3]) (d := (some 58)) (ty := 4) (g := (some (20, false))) (by kernel_rfl) (by kernel_rfl) (by kernel_rfl) [] (impl_in n v8.Members 0 r13 r14 er14) (by kernel_rfl) (.inl rfl) ?_
                        refine LAt.fin (by kernel_rfl) (And.intro (And.intro (by kernel_rfl) (by kernel_rfl)) ?_)
                        refine AT.runU tOk [(26, []), (27, []), (28, [])] 7 [⟨[25], 3, 54, 55⟩, ⟨[24, 25], 3, 48, 49⟩, ⟨[24, 25], 27, 41, 42⟩, ⟨[2, 24, 25], 3, 33, 34⟩] [28, 27, 26, 25, 24, 23, 22, 21, 20, 19, 18, 17, 16, 15, 14, 13, 12, 11, 10, 9, 8, 7, 6, 5, 4, 3, 2, 1, 0] rfl (by kernel_rfl) (fun cx => ?_)
                        refine AT.to ⟨82, 0, [(61, .val false [.lit (.bool (!r14))]), (60, .val false [.lit (.bool (!r14))]), (59, .val false [.lit (.bool (!r14))]), (58, .val false [.lit (.bool r14)]), (57, .val false [.lit (.int .i64 r13)]), (56, .val false [.lit (.int .i64 x1)]), (55, .val false [.lit (.int .i64 v8.Members)]), (54, .adr (.box 6) [(0, 0)] 3 1), (53, .val false [.lit (.bool false)]), (52, .val false [.lit (.bool false)]), (51, .val false [.lit (.bool false)]), (50, .val false [.lit (.bool false)]), (49, .val false [.lit (.int .i64 v8.Id)]), (48, .adr (.box 6) [(0, 0)] 3 0), (47, .val false [.lit (.int .i64 v12.Id)]), (46, .fad ((Vrow.row v12))), (45, .fad ((Vrow.row v12))), (44, .val false [.lit (.int .i64 (IntKind.wrap .i64 (y2 - 1)))]), (43, .val false [.lit (.int .i64 y2)]), (42, .ref (.box 2) [(0, 0)] 2 0 1 false), (41, .adr (.box 2) [(0, 0)] 2 0), (40, .val false [.lit (.bool true)]), (39, .val false [.lit (.bool true)]), (38, .val false [.lit (.int .i64 y2)]), (37, .val false [.lit (.bool false)]), (36, .val false [.lit (.bool false)]), (35, .val false [.lit (.bool r9)]), (34, .val false [.lit (.int .i64 v8.Id)]), (33, .adr (.box 6) [(0, 0)] 3 0), (5, .val false [.lit (.int .i64 y2)]), (6, .adr (.box 6) [(0, 0)] 3 0), (32, .val true (Vrow.row v8)), (31, .fad ((Vrow.row v8))), (30, .val false [.lit (.int .i64 y2)]), (29, .val false [.lit (.bool true)]), (28, .val false [.lit (.int .i64 y2)]), (27, .val false [.lit (.int .i64 (x0.Rows.length : Int))]), (26, .val false [.sl false 3 (CV.frzEs (x0.Rows.map Vrow.row))]), (4, .val false [.lit (.bool false)]), (2, .adr (.box 2) [(0, 0)] 2 0), (1, .val false [.lit (.int .i64 x1)])], [(6, (Vrow.row v8)), (2, (CV.frzRow (Vtab.row x0)))]⟩ (by kernel_rfl) ?_
                        rw [h12]
                        refine AT.runU tOk [(29, []), (30, []), (31, []), (32, []), (33, []), (34, []), (35, [])] 0 [⟨[25], 3, 54, 55⟩, ⟨[24, 25], 3, 48, 49⟩, ⟨[24, 25], 27, 41, 42⟩, ⟨[2, 24, 25], 3, 33, 34⟩] [35, 34, 33, 32, 31, 30, 29, 28, 27, 26, 25, 24, 23, 22, 21, 20, 19, 18, 17, 16, 15, 14, 13, 12, 11, 10, 9, 8, 7, 6, 5, 4, 3, 2, 1, 0] rfl (by kernel_rfl) (fun cx => ?_)
                        exact AT.done [68, 67, 66, 65, 64, 63, 62, 61, 60, 59, 58, 57, 56, 55, 54, 53, 52, 51, 50, 49, 48, 47, 46, 45, 44, 43, 42, 41, 40, 39, 38, 37, 36, 35, 34, 33, 5, 6, 32, 31, 30, 29, 28, 27, 26, 4, 2, 1] [6, 2] _ (by kernel_rfl) (by kernel_rfl) rfl
                      · refine Tr.cond (b := true) (by kernel_rfl) (fun _ => ?_) (fun h => nomatch h)
                        refine Tr.rs ?_
                        refine LAt.runU tOk 1 (by kernel_rfl) ?_
                        refine LAt.doneU [4, 68, 67, 66, 65, 64, 63, 62, 61, 60, 59, 58, 57, 56, 55, 54, 53, 52, 51, 50, 49, 48, 47, 46, 45, 44, 43, 42, 41, 40, 39, 38, 37, 36, 35, 34, 33, 5, 6, 32, 31, 30, 29, 28, 27, 26, 2, 1] [6, 2] (by kernel_rfl) ?_
                        refine Tr.ret ?_
                        have H := Option.some.inj H
                        subst H
                        have H := Ho7
                        dsimp only at H
                        have H := Option.some.inj H
                        subst H
                        exact Fin.of _ [(false, [.lit (.bool false)])] (by kernel_rfl) rfl rfl
                  · have H := bifT h11 H
                    refine Tr.draws mixed 36 (by kernel_rfl) ⟨82, 0, [(68, .val false [.lit (.bool true)]), (67, .tup []), (66, .tup []), (65, .tup []), (64, .tup []), (63, .tup []), (62, .tup []), (61, .val false [.lit (.bool true)]), (60, .val false [.lit (.bool true)]), (59, .tup []), (58, .tup []), (57, .tup []), (56, .tup []), (55, .tup []), (54, .tup []), (53, .val false [.lit (.bool true)]), (52, .val false [.lit (.bool true)]), (51, .val false [.lit (.bool true)]), (50, .val false [.lit (.bool true)]), (49, .val false [.lit (.int .i64 v8.Id)]), (48, .adr (.box 6) [(0, 0)] 3 0), (47, .val false [.lit (.int .i64 v12.Id)]), (46, .fad ((Vrow.row v12))), (45, .fad ((Vrow.row v12))), (44, .val false [.lit (.int .i64 (IntKind.wrap .i64 (y2 - 1)))]), (43, .val false [.lit (.int .i64 y2)]), (42, .ref (.box 2) [(0, 0)] 2 0 1 false), (41, .adr (.box 2) [(0, 0)] 2 0), (40, .val false [.lit (.bool true)]), (39, .val false [.lit (.bool true)]), (38, .val false [.lit (.int .i64 y2)]), (37, .val false [.lit (.bool false)]), (36, .val false [.lit (.bool false)]), (35, .val false [.lit (.bool r9)]), (34, .val false [.lit (.int .i64 v8.Id)]), (33, .adr (.box 6) [(0, 0)] 3 0), (5, .val false [.lit (.int .i64 y2)]), (6, .adr (.box 6) [(0, 0)] 3 0), (32, .val true (Vrow.row v8)), (31, .fad ((Vrow.row v8))), (30, .val false [.lit (.int .i64 y2)]), (29, .val false [.lit (.bool true)]), (28, .val false [.lit (.int .i64 y2)]), (27, .val false [.lit (.int .i64 (x0.Rows.length : Int))]), (26, .val false [.sl false 3 (CV.frzEs (x0.Rows.map Vrow.row))]), (4, .val false [.lit (.bool false)]), (2, .adr (.box 2) [(0, 0)] 2 0), (1, .val false [.lit (.int .i64 x1)])], [(6, (Vrow.row v8)), (2, (CV.frzRow (Vtab.row x0)))]⟩ (fun cx => ?_) ?_
                    · refine AT.runU tOk [(0, []), (1, [2])] 34 [⟨[2], 3, 33, 34⟩] [1, 0] rfl (by kernel_rfl) (fun cx => ?_)
                      refine AT.big1 tOk 2 (by kernel_rfl) (by kernel_rfl) ?_
                      refine LAt.callU tOk [.rd, .rd, .rd] (f := 82) (av := #[.tmp 34, .const (.int .i64 1), .const (.int .i64 99)]) (ats := #[3, 3, 3]) (d := (some 35)) (ty := 4) (g := none) (by kernel_rfl) (by kernel_rfl) (by kernel_rfl) [] (impl_in n v8.Id 1 99 r9 er9) (by kernel_rfl) (.inl rfl) ?_
                      refine LAt.fin (by kernel_rfl) (And.intro (And.intro (by kernel_rfl) (by kernel_rfl)) ?_)
                      refine AT.runU tOk [(3, []), (4, [])] 31 [⟨[2], 3, 33, 34⟩] [4, 3, 2, 1, 0] rfl (by kernel_rfl) (fun cx => ?_)
                      refine AT.to ⟨82, 0, [(37, .val false [.lit (.bool (!r9))]), (36, .val false [.lit (.bool (!r9))]), (35, .val false [.lit (.bool r9)]), (34, .val false [.lit (.int .i64 v8.Id)]), (33, .adr (.box 6) [(0, 0)] 3 0), (5, .val false [.lit (.int .i64 y2)]), (6, .adr (.box 6) [(0, 0)] 3 0), (32, .val true (Vrow.row v8)), (31, .fad ((Vrow.row v8))), (30, .val false [.lit (.int .i64 y2)]), (29, .val false [.lit (.bool true)]), (28, .val false [.lit (.int .i64 y2)]), (27, .val false [.lit (.int .i64 (x0.Rows.length : Int))]), (26, .val false [.sl false 3 (CV.frzEs (x0.Rows.map Vrow.row))]), (4, .val false [.lit (.bool false)]), (2, .adr (.box 2) [(0, 0)] 2 0), (1, .val false [.lit (.int .i64 x1)])], [(6, (Vrow.row v8)), (2, (CV.frzRow (Vtab.row x0)))]⟩ (by kernel_rfl) ?_
                      rw [h7]
                      refine AT.runU tOk [(5, []), (6, []), (7, [])] 28 [⟨[2], 3, 33, 34⟩] [7, 6, 5, 4, 3, 2, 1, 0] rfl (by kernel_rfl) (fun cx => ?_)
                      refine AT.to ⟨82, 0, [(40, .val false [.lit (.bool (decide (y2 > 0)))]), (39, .val false [.lit (.bool (decide (y2 > 0)))]), (38, .val false [.lit (.int .i64 y2)]), (37, .val false [.lit (.bool false)]), (36, .val false [.lit (.bool false)]), (35, .val false [.lit (.bool r9)]), (34, .val false [.lit (.int .i64 v8.Id)]), (33, .adr (.box 6) [(0, 0)] 3 0), (5, .val false [.lit (.int .i64 y2)]), (6, .adr (.box 6) [(0, 0)] 3 0), (32, .val true (Vrow.row v8)), (31, .fad ((Vrow.row v8))), (30, .val false [.lit (.int .i64 y2)]), (29, .val false [.lit (.bool true)]), (28, .val false [.lit (.int .i64 y2)]), (27, .val false [.lit (.int .i64 (x0.Rows.length : Int))]), (26, .val false [.sl false 3 (CV.frzEs (x0.Rows.map Vrow.row))]), (4, .val false [.lit (.bool false)]), (2, .adr (.box 2) [(0, 0)] 2 0), (1, .val false [.lit (.int .i64 x1)])], [(6, (Vrow.row v8)), (2, (CV.frzRow (Vtab.row x0)))]⟩ (by kernel_rfl) ?_
                      rw [h8]
                      refine AT.runU tOk [(8, []), (9, []), (10, []), (11, [])] 24 [⟨[], 27, 41, 42⟩, ⟨[2], 3, 33, 34⟩] [11, 10, 9, 8, 7, 6, 5, 4, 3, 2, 1, 0] rfl (by kernel_rfl) (fun cx => ?_)
                      refine AT.indexF tOk 12 (t := 27) (ty := 0) (x := (.tmp 42)) (y := (.tmp 44)) (d := 45) (g := (some (7, true))) ⟨(.box 2), [(0, 0)], 0, false, 3, (CV.frzEs (x0.Rows.map Vrow.row))⟩ (IntKind.wrap .i64 (y2 - 1)) (Vrow.row v12) _ (by kernel_rfl) (by kernel_rfl) (by kernel_rfl) (by kernel_rfl) (by kernel_rfl) (by kernel_rfl) rfl (idx_isF ev12) rfl (fun cx => ?_)
                      refine AT.runU tOk [(13, []), (14, []), (15, []), (16, []), (17, []), (18, []), (19, []), (20, [])] 15 [⟨[], 3, 48, 49⟩, ⟨[], 27, 41, 42⟩, ⟨[2], 3, 33, 34⟩] [20, 19, 18, 17, 16, 15, 14, 13, 12, 11, 10, 9, 8, 7, 6, 5, 4, 3, 2, 1, 0] rfl (by kernel_rfl) (fun cx => ?_)
                      refine AT.to ⟨82, 0, [(53, .val false [.lit (.bool (decide (v12.Id ≥ v8.Id)))]), (52, .val false [.lit (.bool (decide (v12.Id ≥ v8.Id)))]), (51, .val false [.lit (.bool (decide (v12.Id ≥ v8.Id)))]), (50, .val false [.lit (.bool (decide (v12.Id ≥ v8.Id)))]), (49, .val false [.lit (.int .i64 v8.Id)]), (48, .adr (.box 6) [(0, 0)] 3 0), (47, .val false [.lit (.int .i64 v12.Id)]), (46, .fad ((Vrow.row v12))), (45, .fad ((Vrow.row v12))), (44, .val false [.lit (.int .i64 (IntKind.wrap .i64 (y2 - 1)))]), (43, .val false [.lit (.int .i64 y2)]), (42, .ref (.box 2) [(0, 0)] 2 0 1 false), (41, .adr (.box 2) [(0, 0)] 2 0), (40, .val false [.lit (.bool true)]), (39, .val false [.lit (.bool true)]), (38, .val false [.lit (.int .i64 y2)]), (37, .val false [.lit (.bool false)]), (36, .val false [.lit (.bool false)]), (35, .val false [.lit (.bool r9)]), (34, .val false [.lit (.int .i64 v8.Id)]), (33, .adr (.box 6) [(0, 0)] 3 0), (5, .val false [.lit (.int .i64 y2)]), (6, .adr (.box 6) [(0, 0)] 3 0), (32, .val true (Vrow.row v8)), (31, .fad ((Vrow.row v8))), (30, .val false [.lit (.int .i64 y2)]), (29, .val false [.lit (.bool true)]), (28, .val false [.lit (.int .i64 y2)]), (27, .val false [.lit (.int .i64 (x0.Rows.length : Int))]), (26, .val false [.sl false 3 (CV.frzEs (x0.Rows.map Vrow.row))]), (4, .val false [.lit (.bool false)]), (2, .adr (.box 2) [(0, 0)] 2 0), (1, .val false [.lit (.int .i64 x1)])], [(6, (Vrow.row v8)), (2, (CV.frzRow (Vtab.row x0)))]⟩ (by kernel_rfl) ?_
                      rw [h11]
                      refine AT.runU tOk [(21, []), (22, []), (23, []), (24, []), (25, []), (26, []), (27, []), (28, []), (29, []), (30, []), (31, []), (32, []), (33, []), (34, []), (35, [])] 0 [⟨[], 3, 48, 49⟩, ⟨[], 27, 41, 42⟩, ⟨[2], 3, 33, 34⟩] [35, 34, 33, 32, 31, 30, 29, 28, 27, 26, 25, 24, 23, 22, 21, 20, 19, 18, 17, 16, 15, 14, 13, 12, 11, 10, 9, 8, 7, 6, 5, 4, 3, 2, 1, 0] rfl (by kernel_rfl) (fun cx => ?_)
                      exact AT.done [68, 67, 66, 65, 64, 63, 62, 61, 60, 59, 58, 57, 56, 55, 54, 53, 52, 51, 50, 49, 48, 47, 46, 45, 44, 43, 42, 41, 40, 39, 38, 37, 36, 35, 34, 33, 5, 6, 32, 31, 30, 29, 28, 27, 26, 4, 2, 1] [6, 2] _ (by kernel_rfl) (by kernel_rfl) rfl
                    · refine Tr.cond (b := true) (by kernel_rfl) (fun _ => ?_) (fun h => nomatch h)
                      refine Tr.rs ?_
                      refine LAt.runU tOk 1 (by kernel_rfl) ?_
                      refine LAt.doneU [4, 68, 67, 66, 65, 64, 63, 62, 61, 60, 59, 58, 57, 56, 55, 54, 53, 52, 51, 50, 49, 48, 47, 46, 45, 44, 43, 42, 41, 40, 39, 38, 37, 36, 35, 34, 33, 5, 6, 32, 31, 30, 29, 28, 27, 26, 2, 1] [6, 2] (by kernel_rfl) ?_
                      refine Tr.ret ?_
                      have H := Option.some.inj H
                      subst H
                      have H := Ho7
                      dsimp only at H
                      have H := Option.some.inj H
                      subst H
                      exact Fin.of _ [(false, [.lit (.bool false)])] (by kernel_rfl) rfl rfl
              · have H := bifT h7 H
                refine Tr.draws mixed 36 (by kernel_rfl) ⟨82, 0, [(68, .val false [.lit (.bool true)]), (67, .tup []), (66, .tup []), (65, .tup []), (64, .tup []), (63, .tup []), (62, .tup []), (61, .val false [.lit (.bool true)]), (60, .val false [.lit (.bool true)]), (59, .tup []), (58, .tup []), (57, .tup []), (56, .tup []), (55, .tup []), (54, .tup []), (53, .val false [.lit (.bool true)]), (52, .val false [.lit (.bool true)]), (51, .tup []), (50, .tup []), (49, .tup []), (48, .tup []), (47, .tup []), (46, .tup []), (45, .tup []), (44, .tup []), (43, .tup []), (42, .tup []), (41, .tup []), (40, .tup []), (39, .tup []), (38, .tup []), (37, .val false [.lit (.bool true)]), (36, .val false [.lit (.bool true)]), (35, .val false [.lit (.bool r9)]), (34, .val false [.lit (.int .i64 v8.Id)]), (33, .adr (.box 6) [(0, 0)] 3 0), (5, .val false [.lit (.int .i64 y2)]), (6, .adr (.box 6) [(0, 0)] 3 0), (32, .val true (Vrow.row v8)), (31, .fad ((Vrow.row v8))), (30, .val false [.lit (.int .i64 y2)]), (29, .val false [.lit (.bool true)]), (28, .val false [.lit (.int .i64 y2)]), (27, .val false [.lit (.int .i64 (x0.Rows.length : Int))]), (26, .val false [.sl false 3 (CV.frzEs (x0.Rows.map Vrow.row))]), (4, .val false [.lit (.bool false)]), (2, .adr (.box 2) [(0, 0)] 2 0), (1, .val false [.lit (.int .i64 x1)])], [(6, (Vrow.row v8)), (2, (CV.frzRow (Vtab.row x0)))]⟩ (fun cx => ?_) ?_
                · refine AT.runU tOk [(0, []), (1, [2])] 34 [⟨[2], 3, 33, 34⟩] [1, 0] rfl (by kernel_rfl) (fun cx => ?_)
                  refine AT.big1 tOk 2 (by kernel_rfl) (by kernel_rfl) ?_
                  refine LAt.callU tOk [.rd, .rd, .rd] (f := 82) (av := #[.tmp 34, .const (.int .i64 1), .const (.int .i64 99)]) (ats := #[3, 3, 3]) (d := (some 35)) (ty := 4) (g := none) (by kernel_rfl) (by kernel_rfl) (by kernel_rfl) [] (impl_in n v8.Id 1 99 r9 er9) (by kernel_rfl) (.inl rfl) ?_
                  refine LAt.fin (by kernel_rfl) (And.intro (And.intro (by kernel_rfl) (by kernel_rfl)) ?_)
                  refine AT.runU tOk [(3, []), (4, [])] 31 [⟨[2], 3, 33, 34⟩] [4, 3, 2, 1, 0] rfl (by kernel_rfl) (fun cx => ?_)
                  refine AT.to ⟨82, 0, [(37, .val false [.lit (.bool (!r9))]), (36, .val false [.lit (.bool (!r9))]), (35, .val false [.lit (.bool r9)]), (34, .val false [.lit (.int .i64 v8.Id)]), (33, .adr (.box 6) [(0, 0)] 3 0), (5, .val false [.lit (.int .i64 y2)]), (6, .adr (.box 6) [(0, 0)] 3 0), (32, .val true (Vrow.row v8)), (31, .fad ((Vrow.row v8))), (30, .val false [.lit (.int .i64 y2)]), (29, .val false [.lit (.bool true)]), (28, .val false [.lit (.int .i64 y2)]), (27, .val false [.lit (.int .i64 (x0.Rows.length : Int))]), (26, .val false [.sl false 3 (CV.frzEs (x0.Rows.map Vrow.row))]), (4, .val false [.lit (.bool false)]), (2, .adr (.box 2) [(0, 0)] 2 0), (1, .val false [.lit (.int .i64 x1)])], [(6, (Vrow.row v8)), (2, (CV.frzRow (Vtab.row x0)))]⟩ (by kernel_rfl) ?_
                  rw [h7]
                  refine AT.runU tOk [(5, []), (6, []), (7, []), (8, []), (9, []), (10, []), (11, []), (12, []), (13, []), (14, []), (15, []), (16, []), (17, []), (18, []), (19, []), (20, []), (21, []), (22, []), (23, []), (24, []), (25, []), (26, []), (27, []), (28, []), (29, []), (30, []), (31, []), (32, []), (33, []), (34, []), (35, [])] 0 [⟨[2], 3, 33, 34⟩] [35, 34, 33, 32, 31, 30, 29, 28, 27, 26, 25, 24, 23, 22, 21, 20, 19, 18, 17, 16, 15, 14, 13, 12, 11, 10, 9, 8, 7, 6, 5, 4, 3, 2, 1, 0] rfl (by kernel_rfl) (fun cx => ?_)
                  exact AT.done [68, 67, 66, 65, 64, 63, 62, 61, 60, 59, 58, 57, 56, 55, 54, 53, 52, 51, 50, 49, 48, 47, 46, 45, 44, 43, 42, 41, 40, 39, 38, 37, 36, 35, 34, 33, 5, 6, 32, 31, 30, 29, 28, 27, 26, 4, 2, 1] [6, 2] _ (by kernel_rfl) (by kernel_rfl) rfl
                · refine Tr.cond (b := true) (by kernel_rfl) (fun _ => ?_) (fun h => nomatch h)
                  refine Tr.rs ?_
                  refine LAt.runU tOk 1 (by kernel_rfl) ?_
                  refine LAt.doneU [4, 68, 67, 66, 65, 64, 63, 62, 61, 60, 59, 58, 57, 56, 55, 54, 53, 52, 51, 50, 49, 48, 47, 46, 45, 44, 43, 42, 41, 40, 39, 38, 37, 36, 35, 34, 33, 5, 6, 32, 31, 30, 29, 28, 27, 26, 2, 1] [6, 2] (by kernel_rfl) ?_
                  refine Tr.ret ?_
                  have H := Option.some.inj H
                  subst H
                  have H := Ho7
                  dsimp only at H
                  have H := Option.some.inj H
                  subst H
                  exact Fin.of _ [(false, [.lit (.bool false)])] (by kernel_rfl) rfl rfl
        · rintro _ H
          have H : (impl_VtabOk_J1 n x0) = some r := H
          unfold impl_VtabOk_J1 at H
          show Tr _ _ _ _ _
          refine Tr.seq ?_
          refine Tr.rs ?_
          refine LAt.runU tOk 2 (by kernel_rfl) ?_
          refine LAt.lenE tOk (t := 23) (ty := 3) (e := 3) (x := (.tmp 71)) (d := 72) (g := none) ⟨(.slot 71), [], 0, false, 1, (CV.frzEs (x0.Pvid.map intRow))⟩ (x0.Pvid).length _ (by kernel_rfl) (by kernel_rfl) (by kernel_rfl) (by kernel_rfl) (by kernel_rfl) (frz_len _ _) rfl ?_
          refine LAt.runU tOk 1 (by kernel_rfl) ?_
          refine LAt.doneU [73, 72, 71, 4, 2] [2] (by kernel_rfl) ?_
          obtain ⟨o4, eo4, Ho4⟩ := bind_some H
          clear H
          refine Tr.mid (ι := Unit) (fun v => ⟨82, 0, [(4, .val false [.lit (.bool false)])], []⟩) (fun v => impl_VtabOk_J2 n = some r) ?_ ?_
          · refine Tr.block ?_
            refine Tr.loop (ι := Nat × (Int)) (fun v => ⟨82, 0, [(73, .val false [.lit (.int .i64 v.2)]), (72, .val false [.lit (.int .i64 (x0.Pvid.length : Int))]), (71, .val false [.sl false 1 (CV.frzEs (x0.Pvid.map intRow))]), (4, .val false [.lit (.bool false)]), (2, .adr (.box 2) [(0, 0)] 2 0)], [(2, (CV.frzRow (Vtab.row x0)))]⟩) (fun v => impl_VtabOk_L3 n v.1 x0 v.2 = some o4) (fun v => v.1) (n, 0) eo4 (St.sub_of [73, 72, 71, 4, 2] [2] (by kernel_rfl)) ?_
            rintro ⟨mo4, y3⟩ H
            have H : impl_VtabOk_L3 n mo4 x0 y3 = some o4 := H
            obtain _ | mo4 := mo4
            · cases (show (none : Option _) = some o4 from H)
            · rw [impl_VtabOk_L3] at H
              refine Tr.rs ?_
              refine LAt.runU tOk 1 (by kernel_rfl) ?_
              refine LAt.doneU [74, 73, 72, 71, 4, 2] [2] (by kernel_rfl) ?_
              refine Tr.seq ?_
              refine Tr.to ⟨82, 0, [(74, .val false [.lit (.bool (decide (y3 < (x0.Pvid.length : Int))))]), (73, .val false [.lit (.int .i64 y3)]), (72, .val false [.lit (.int .i64 (x0.Pvid.length : Int))]), (71, .val false [.sl false 1 (CV.frzEs (x0.Pvid.map intRow))]), (4, .val false [.lit (.bool false)]), (2, .adr (.box 2) [(0, 0)] 2 0)], [(2, (CV.frzRow (Vtab.row x0)))]⟩ (by kernel_rfl) ?_
              cases h4 : (decide (y3 < (x0.Pvid.length : Int)))
              · have H := bifF h4 H
                refine Tr.cond (b := false) (by kernel_rfl) (fun h => nomatch h) (fun _ => ?_)
                refine Tr.exit ?_
                refine And.intro (fun _ => ?_) (fun h => absurd rfl h)
                have H := Option.some.inj H
                subst H
                have H := Ho4
                dsimp only at H
                exact Exists.intro () (And.intro H (St.sub_of [4] [] (by kernel_rfl)))
              · have H := bifT h4 H
                refine Tr.cond (b := true) (by kernel_rfl) (fun _ => ?_) (fun h => nomatch h)
                refine Tr.skip ?_
                show Tr _ _ _ _ _
                refine Tr.seq ?_
                refine Tr.block ?_
                refine Tr.rs ?_
                obtain ⟨v5, ev5, H⟩ := bind_some H
                refine LAt.indexF tOk (t := 23) (ty := 0) (x := (.tmp 71)) (y := (.tmp 73)) (d := 75) (g := none) ⟨(.slot 71), [], 0, false, 1, (CV.frzEs (x0.Pvid.map intRow))⟩ y3 [.lit (.int .i64 v5)] _ (by kernel_rfl) (by kernel_rfl) (by kernel_rfl) (by kernel_rfl) rfl (idx_isF ev5) rfl ?_
                refine LAt.runU tOk 2 (by kernel_rfl) ?_
                refine LAt.doneU [8, 76, 75, 74, 73, 72, 71, 4, 2] [2] (by kernel_rfl) ?_
                refine Tr.rs ?_
                refine LAt.runU tOk 2 (by kernel_rfl) ?_
                obtain ⟨r6, er6, H⟩ := bind_some H
                refine LAt.callU tOk [.rd, .rd] (f := 40) (av := #[.tmp 77, .tmp 78]) (ats := #[29, 3]) (d := (some 79)) (ty := 3) (g := none) (by kernel_rfl) (by kernel_rfl) (by kernel_rfl) [] (impl_RowAt n x0 v5 r6 er6) (by kernel_rfl) (.inl rfl) ?_
                refine LAt.runU tOk 1 (by kernel_rfl) ?_
                refine LAt.doneU [80, 79, 78, 77, 8, 76, 75, 74, 73, 72, 71, 4, 2] [2] (by kernel_rfl) ?_
                refine Tr.to ⟨82, 0, [(80, .val false [.lit (.bool (decide (r6 < 0)))]), (79, .val false [.lit (.int .i64 r6)]), (78, .val false [.lit (.int .i64 v5)]), (77, .val true (CV.frzRow (Vtab.row x0))), (8, .val false [.lit (.int .i64 v5)]), (76, .val false [.lit (.int .i64 v5)]), (75, .fad ([.lit (.int .i64 v5)])), (74, .val false [.lit (.bool true)]), (73, .val false [.lit (.int .i64 y3)]), (72, .val false [.lit (.int .i64 (x0.Pvid.length : Int))]), (71, .val false [.sl false 1 (CV.frzEs (x0.Pvid.map intRow))]), (4, .val false [.lit (.bool false)]), (2, .adr (.box 2) [(0, 0)] 2 0)], [(2, (CV.frzRow (Vtab.row x0)))]⟩ (by kernel_rfl) ?_
                cases h5 : (decide (r6 < 0))
                · have H := bifF h5 H
                  refine Tr.cond (b := false) (by kernel_rfl) (fun h => nomatch h) (fun _ => ?_)
                  refine Tr.skip ?_
                  show Tr _ _ _ _ _
                  refine Tr.at ?_
                  refine LAt.runU tOk 2 (by kernel_rfl) ?_
                  refine LAt.doneU [73, 81, 80, 79, 78, 77, 8, 76, 75, 74, 72, 71, 4, 2] [2] (by kernel_rfl) ?_
                  exact Exists.intro (mo4, (IntKind.wrap .i64 (y3 + 1))) (And.intro H (And.intro (Nat.lt_succ_self mo4) (St.sub_of [73, 72, 71, 4, 2] [2] (by kernel_rfl))))
                · have H := bifT h5 H
                  refine Tr.cond (b := true) (by kernel_rfl) (fun _ => ?_) (fun h => nomatch h)
                  refine Tr.rs ?_
                  refine LAt.runU tOk 1 (by kernel_rfl) ?_
                  refine LAt.doneU [4, 80, 79, 78, 77, 8, 76, 75, 74, 73, 72, 71, 2] [2] (by kernel_rfl) ?_
                  refine Tr.ret ?_
                  have H := Option.some.inj H
                  subst H
                  have H := Ho4
                  dsimp only at H
                  have H := Option.some.inj H
                  subst H
                  exact Fin.of _ [(false, [.lit (.bool false)])] (by kernel_rfl) rfl rfl
          · rintro _ H
            have H : (impl_VtabOk_J2 n) = some r := H
            unfold impl_VtabOk_J2 at H
            show Tr _ _ _ _ _
            refine Tr.rs ?_
            refine LAt.runU tOk 1 (by kernel_rfl) ?_
            refine LAt.doneU [4] [] (by kernel_rfl) ?_
            refine Tr.ret ?_
            have H := Option.some.inj H
            subst H
            exact Fin.of _ [(false, [.lit (.bool true)])] (by kernel_rfl) rfl rfl
      · have H := bifT h3 H
        refine Tr.cond (b := true) (by kernel_rfl) (fun _ => ?_) (fun h => nomatch h)
        refine Tr.rs ?_
        refine LAt.runU tOk 1 (by kernel_rfl) ?_
        refine LAt.doneU [4, 2, 1] [2] (by kernel_rfl) ?_
        refine Tr.ret ?_
        have H := Option.some.inj H
        subst H
        exact Fin.of _ [(false, [.lit (.bool false)])] (by kernel_rfl) rfl rfl
    · have H := bifT h2 H
      refine LAt.runU tOk 5 (by kernel_rfl) ?_
      refine LAt.doneU [24, 4, 2, 1] [2] (by kernel_rfl) ?_
      refine Tr.cond (b := true) (by kernel_rfl) (fun _ => ?_) (fun h => nomatch h)
      refine Tr.rs ?_
      refine LAt.runU tOk 1 (by kernel_rfl) ?_
      refine LAt.doneU [4, 2, 1] [2] (by kernel_rfl) ?_
      refine Tr.ret ?_
      have H := Option.some.inj H
      subst H
      exact Fin.of _ [(false, [.lit (.bool false)])] (by kernel_rfl) rfl rfl
  · have H := bifT h1 H
    refine LAt.runU tOk 12 (by kernel_rfl) ?_
    refine LAt.doneU [24, 4, 2, 1] [2] (by kernel_rfl) ?_
    refine Tr.cond (b := true) (by kernel_rfl) (fun _ => ?_) (fun h => nomatch h)
    refine Tr.rs ?_
    refine LAt.runU tOk 1 (by kernel_rfl) ?_
    refine LAt.doneU [4, 2, 1] [2] (by kernel_rfl) ?_
    refine Tr.ret ?_
    have H := Option.some.inj H
    subst H
    exact Fin.of _ [(false, [.lit (.bool false)])] (by kernel_rfl) rfl rfl

def impl_isCountF (n : Nat) (x0 : Int) : Option (Bool) :=
  ((impl_inF n x0 0 1000000).bind fun r1 => (some r1))
/-- loop.example/g00326/impl.isCount -/
theorem impl_isCount (n : Nat) (x0 : Int) (r : Bool) (H : impl_isCountF n x0 = some r) : LCall Try.prog 129 [.val false [.lit (.int .i64 x0)]] [.val false [.lit (.bool r)]] [] := by
  refine LCall.of_body tOk Try.func129 rfl (c := (.seq (.region 0 (rg Try.f129 0) false) (.seq (.region 1 (rg Try.f129 1) false) .ret))) (by kernel_rfl) (Nat.le_of_ble_eq_true (by kernel_rfl)) 0 (rs := [.tmp 2]) rfl [] .nil [(false, [.lit (.bool r)])] [] [] fun cx => ?_
  show Tr _ _ _ ⟨5, 0, [(0, .val false [.lit (.int .i64 x0)])], []⟩ _
  unfold impl_isCountF at H
  refine Tr.rs ?_
  refine LAt.runU tOk 1 (by kernel_rfl) ?_
  refine LAt.doneU [2, 0] [] (by kernel_rfl) ?_
  refine Tr.rs ?_
  refine LAt.runU tOk 1 (by kernel_rfl) ?_
  obtain ⟨r1, er1, H⟩ := bind_some H
  refine LAt.callU tOk [.rd, .rd, .rd] (f := 82) (av := #[.tmp 3, .const (.int .i64 0), .const (.int .i64 1000000)]) (ats := #[3, 3, 3]) (d := (some 4)) (ty := 4) (g := none) (by kernel_rfl) (by kernel_rfl) (by kernel_rfl) [] (impl_in n x0 0 1000000 r1 er1) (by kernel_rfl) (.inl rfl) ?_
  refine LAt.runU tOk 1 (by kernel_rfl) ?_
  refine LAt.doneU [2] [] (by kernel_rfl) ?_
  refine Tr.ret ?_
  have H := Option.some.inj H
  subst H
  exact Fin.of _ [(false, [.lit (.bool r1)])] (by kernel_rfl) rfl rfl

def impl_BridgeOk_J1 (n : Nat) (x0 : Bridge) : Option (Bool) :=
  ((impl_inF n x0.Id 1 99).bind fun r2 => (bif (!r2) then (some false) else (bif (decide ((x0.Name.size : Int) > 10)) then (some false) else ((impl_inF n (x0.Ports.length : Int) 1 6).bind fun r3 => (bif (!r3) then (some false) else ((impl_FdbOkF n x0.F).bind fun r4 => (bif (!r4) then (some false) else ((impl_VtabOkF n x0.V (x0.Ports.length : Int)).bind fun r5 => (bif (!r5) then (some false) else ((impl_isCountF n x0.Ticks).bind fun r6 => (bif r6 then ((impl_isCountF n x0.Parse).bind fun r7 => (bif r7 then ((impl_isCountF n x0.Word).bind fun r8 => (bif r8 then ((impl_isCountF n x0.Drops).bind fun r9 => (bif r9 then ((impl_isCountF n x0.Vers).bind fun r10 => (some r10)) else (some false))) else (some false))) else (some false))) else (some false))))))))))))
def impl_BridgeOk_L2 (n : Nat) : Nat → Bridge → Int → Option ((Unit) ⊕ (Bool))
  | 0, _, _ => none
  | mo11 + 1, x0, y1 => (bif (decide (y1 < (x0.Ports.length : Int))) then ((idx x0.Ports y1).bind fun v12 => ((impl_PtOkF n v12).bind fun r13 => (bif (!r13) then (some (Sum.inr false)) else (impl_BridgeOk_L2 n mo11 x0 (IntKind.wrap .i64 (y1 + 1)))))) else (some (Sum.inl ())))
def impl_BridgeOkF (n : Nat) (x0 : Bridge) : Option (Bool) :=
  ((impl_BridgeOk_L2 n n x0 0).bind fun o => match o with | .inl _ => (impl_BridgeOk_J1 n x0) | .inr r => some r)
/-- loop.example/g00326/impl.BridgeOk -/
theorem impl_BridgeOk (n : Nat) (x0 : Bridge) (r : Bool) (H : impl_BridgeOkF n x0 = some r) : LCall Try.prog 61 [.val true (CV.frzRow (Bridge.row x0))] [.val false [.lit (.bool r)]] [] := by
  refine LCall.of_body tOk Try.func61 rfl (c := (.seq (.region 0 (rg Try.f61 0) false) (.seq (.seq (.region 1 (rg Try.f61 1) false) (.block 0 (.loop (.seq (.region 2 (rg Try.f61 2) false) (.seq (.cond (.tmp 9) .skip (.exit 0)) (.seq (.block 1 (.seq (.region 3 (rg Try.f61 3) false) (.seq (.region 4 (rg Try.f61 4) false) (.cond (.tmp 14) (.seq (.region 5 (rg Try.f61 5) false) .ret) .skip)))) (.region 6 (rg Try.f61 6) false))))))) (.seq (.seq (.region 7 (rg Try.f61 7) false) (.cond (.tmp 47) (.seq (.region 8 (rg Try.f61 8) false) .ret) .skip)) (.seq (.region 9 (rg Try.f61 9) false) .ret))))) (by kernel_rfl) (Nat.le_of_ble_eq_true (by kernel_rfl)) 0 (rs := [.tmp 2]) rfl [] .nil [(false, [.lit (.bool r)])] [] [] fun cx => ?_
  show Tr _ _ _ ⟨71, 0, [(0, .val true (CV.frzRow (Bridge.row x0)))], []⟩ _
  unfold impl_BridgeOkF at H
  refine Tr.rs ?_
  refine LAt.runU tOk 2 (by kernel_rfl) ?_
  refine LAt.doneU [2, 1] [1] (by kernel_rfl) ?_
  refine Tr.seq ?_
  refine Tr.rs ?_
  refine LAt.runU tOk 2 (by kernel_rfl) ?_
  refine LAt.lenE tOk (t := 43) (ty := 3) (e := 41) (x := (.tmp 6)) (d := 7) (g := none) ⟨(.slot 6), [], 0, false, 8, (CV.frzEs (x0.Ports.map Pt.row))⟩ (x0.Ports).length _ (by kernel_rfl) (by kernel_rfl) (by kernel_rfl) (by kernel_rfl) (by kernel_rfl) (frz_len _ _) rfl ?_
  refine LAt.runU tOk 1 (by kernel_rfl) ?_
  refine LAt.doneU [8, 7, 6, 2, 1] [1] (by kernel_rfl) ?_
  obtain ⟨o11, eo11, Ho11⟩ := bind_some H
  clear H
  refine Tr.mid (ι := Unit) (fun v => ⟨71, 0, [(2, .val false [.lit (.bool false)]), (1, .adr (.box 1) [(0, 0)] 11 0)], [(1, (CV.frzRow (Bridge.row x0)))]⟩) (fun v => impl_BridgeOk_J1 n x0 = some r) ?_ ?_
  · refine Tr.block ?_
    refine Tr.loop (ι := Nat × (Int)) (fun v => ⟨71, 0, [(8, .val false [.lit (.int .i64 v.2)]), (7, .val false [.lit (.int .i64 (x0.Ports.length : Int))]), (6, .val false [.sl false 8 (CV.frzEs (x0.Ports.map Pt.row))]), (2, .val false [.lit (.bool false)]), (1, .adr (.box 1) [(0, 0)] 11 0)], [(1, (CV.frzRow (Bridge.row x0)))]⟩) (fun v => impl_BridgeOk_L2 n v.1 x0 v.2 = some o11) (fun v => v.1) (n, 0) eo11 (St.sub_of [8, 7, 6, 2, 1] [1] (by kernel_rfl)) ?_
    rintro ⟨mo11, y1⟩ H
    have H : impl_BridgeOk_L2 n mo11 x0 y1 = some o11 := H
    obtain _ | mo11 := mo11
    · cases (show (none : Option _) = some o11 from H)
    · rw [impl_BridgeOk_L2] at H
      refine Tr.rs ?_
      refine LAt.runU tOk 1 (by kernel_rfl) ?_
      refine LAt.doneU [9, 8, 7, 6, 2, 1] [1] (by kernel_rfl) ?_
      refine Tr.seq ?_
      refine Tr.to ⟨71, 0, [(9, .val false [.lit (.bool (decide (y1 < (x0.Ports.length : Int))))]), (8, .val false [.lit (.int .i64 y1)]), (7, .val false [.lit (.int .i64 (x0.Ports.length : Int))]), (6, .val false [.sl false 8 (CV.frzEs (x0.Ports.map Pt.row))]), (2, .val false [.lit (.bool false)]), (1, .adr (.box 1) [(0, 0)] 11 0)], [(1, (CV.frzRow (Bridge.row x0)))]⟩ (by kernel_rfl) ?_
      cases h10 : (decide (y1 < (x0.Ports.length : Int)))
      · have H := bifF h10 H
        refine Tr.cond (b := false) (by kernel_rfl) (fun h => nomatch h) (fun _ => ?_)
        refine Tr.exit ?_
        refine And.intro (fun _ => ?_) (fun h => absurd rfl h)
        have H := Option.some.inj H
        subst H
        have H := Ho11
        dsimp only at H
        exact Exists.intro () (And.intro H (St.sub_of [2, 1] [1] (by kernel_rfl)))
      · have H := bifT h10 H
        refine Tr.cond (b := true) (by kernel_rfl) (fun _ => ?_) (fun h => nomatch h)
        refine Tr.skip ?_
        show Tr _ _ _ _ _
        refine Tr.seq ?_
        refine Tr.block ?_
        refine Tr.rs ?_
        obtain ⟨v12, ev12, H⟩ := bind_some H
        refine LAt.indexF tOk (t := 43) (ty := 0) (x := (.tmp 6)) (y := (.tmp 8)) (d := 10) (g := none) ⟨(.slot 6), [], 0, false, 8, (CV.frzEs (x0.Ports.map Pt.row))⟩ y1 (Pt.row v12) _ (by kernel_rfl) (by kernel_rfl) (by kernel_rfl) (by kernel_rfl) rfl (idx_isF ev12) rfl ?_
        refine LAt.runU tOk 3 (by kernel_rfl) ?_
        refine LAt.doneU [4, 11, 10, 9, 8, 7, 6, 2, 1] [4, 1] (by kernel_rfl) ?_
        refine Tr.rs ?_
        refine LAt.runU tOk 1 (by kernel_rfl) ?_
        obtain ⟨r13, er13, H⟩ := bind_some H
        refine LAt.callU tOk [.rd] (f := 29) (av := #[.tmp 12]) (ats := #[41]) (d := (some 13)) (ty := 4) (g := none) (by kernel_rfl) (by kernel_rfl) (by kernel_rfl) [] (impl_PtOk n v12 r13 er13) (by kernel_rfl) (.inl rfl) ?_
        refine LAt.runU tOk 1 (by kernel_rfl) ?_
        refine LAt.doneU [14, 13, 12, 4, 11, 10, 9, 8, 7, 6, 2, 1] [4, 1] (by kernel_rfl) ?_
        refine Tr.to ⟨71, 0, [(14, .val false [.lit (.bool (!r13))]), (13, .val false [.lit (.bool r13)]), (12, .val true (Pt.row v12)), (4, .adr (.box 4) [(0, 0)] 8 0), (11, .val true (Pt.row v12)), (10, .fad ((Pt.row v12))), (9, .val false [.lit (.bool true)]), (8, .val false [.lit (.int .i64 y1)]), (7, .val false [.lit (.int .i64 (x0.Ports.length : Int))]), (6, .val false [.sl false 8 (CV.frzEs (x0.Ports.map Pt.row))]), (2, .val false [.lit (.bool false)]), (1, .adr (.box 1) [(0, 0)] 11 0)], [(4, (Pt.row v12)), (1, (CV.frzRow (Bridge.row x0)))]⟩ (by kernel_rfl) ?_
        cases h11 : (!r13)
        · have H := bifF h11 H
          refine Tr.cond (b := false) (by kernel_rfl) (fun h => nomatch h) (fun _ => ?_)
          refine Tr.skip ?_
          show Tr _ _ _ _ _
          refine Tr.at ?_
          refine LAt.runU tOk 2 (by kernel_rfl) ?_
          refine LAt.doneU [8, 15, 14, 13, 12, 4, 11, 10, 9, 7, 6, 2, 1] [4, 1] (by kernel_rfl) ?_
          exact Exists.intro (mo11, (IntKind.wrap .i64 (y1 + 1))) (And.intro H (And.intro (Nat.lt_succ_self mo11) (St.sub_of [8, 7, 6, 2, 1] [1] (by kernel_rfl))))
        · have H := bifT h11 H
          refine Tr.cond (b := true) (by kernel_rfl) (fun _ => ?_) (fun h => nomatch h)
          refine Tr.rs ?_
          refine LAt.runU tOk 1 (by kernel_rfl) ?_
          refine LAt.doneU [2, 14, 13, 12, 4, 11, 10, 9, 8, 7, 6, 1] [4, 1] (by kernel_rfl) ?_
          refine Tr.ret ?_
          have H := Option.some.inj H
          subst H
          have H := Ho11
          dsimp only at H
          have H := Option.some.inj H
          subst H
          exact Fin.of _ [(false, [.lit (.bool false)])] (by kernel_rfl) rfl rfl
  · rintro _ H
    have H : (impl_BridgeOk_J1 n x0) = some r := H
    unfold impl_BridgeOk_J1 at H
    show Tr _ _ _ _ _
    refine Tr.seq ?_
    refine Tr.rs ?_
    refine LAt.runU tOk 2 (by kernel_rfl) ?_
    obtain ⟨r2, er2, H⟩ := bind_some H
    refine LAt.callU tOk [.rd, .rd, .rd] (f := 82) (av := #[.tmp 17, .const (.int .i64 1), .const (.int .i64 99)]) (ats := #[3, 3, 3]) (d := (some 18)) (ty := 4) (g := none) (by kernel_rfl) (by kernel_rfl) (by kernel_rfl) [] (impl_in n x0.Id 1 99 r2 er2) (by kernel_rfl) (.inl rfl) ?_
    refine LAt.runU tOk 2 (by kernel_rfl) ?_
    refine LAt.to ⟨71, 0, [(20, .val false [.lit (.bool (!r2))]), (19, .val false [.lit (.bool (!r2))]), (18, .val false [.lit (.bool r2)]), (17, .val false [.lit (.int .i64 x0.Id)]), (16, .adr (.box 1) [(0, 0)] 11 0), (2, .val false [.lit (.bool false)]), (1, .adr (.box 1) [(0, 0)] 11 0)], [(1, (CV.frzRow (Bridge.row x0)))]⟩ (by kernel_rfl) ?_
    cases h1 : (!r2)
    · have H := bifF h1 H
      refine LAt.runU tOk 6 (by kernel_rfl) ?_
      refine LAt.to ⟨71, 0, [(26, .val false [.lit (.bool (decide ((x0.Name.size : Int) > 10)))]), (25, .val false [.lit (.bool (decide ((x0.Name.size : Int) > 10)))]), (24, .val false [.lit (.bool (decide ((x0.Name.size : Int) > 10)))]), (23, .val false [.lit (.int .i64 (x0.Name.size : Int))]), (22, .val false [.lit (.string x0.Name)]), (21, .adr (.box 1) [(0, 0)] 11 1), (20, .val false [.lit (.bool false)]), (19, .val false [.lit (.bool false)]), (18, .val false [.lit (.bool r2)]), (17, .val false [.lit (.int .i64 x0.Id)]), (16, .adr (.box 1) [(0, 0)] 11 0), (2, .val false [.lit (.bool false)]), (1, .adr (.box 1) [(0, 0)] 11 0)], [(1, (CV.frzRow (Bridge.row x0)))]⟩ (by kernel_rfl) ?_
      cases h2 : (decide ((x0.Name.size : Int) > 10))
      · have H := bifF h2 H
        refine LAt.runU tOk 2 (by kernel_rfl) ?_
        refine LAt.lenE tOk (t := 43) (ty := 3) (e := 41) (x := (.tmp 28)) (d := 29) (g := (some (10, false))) ⟨(.slot 28), [], 0, false, 8, (CV.frzEs (x0.Ports.map Pt.row))⟩ (x0.Ports).length _ (by kernel_rfl) (by kernel_rfl) (by kernel_rfl) (by kernel_rfl) (by kernel_rfl) (frz_len _ _) rfl ?_
        obtain ⟨r3, er3, H⟩ := bind_some H
        refine LAt.callU tOk [.rd, .rd, .rd] (f := 82) (av := #[.tmp 29, .const (.int .i64 1), .const (.int .i64 6)]) (ats := #[3, 3, 3]) (d := (some 30)) (ty := 4) (g := (some (10, false))) (by kernel_rfl) (by kernel_rfl) (by kernel_rfl) [] (impl_in n (x0.Ports.length : Int) 1 6 r3 er3) (by kernel_rfl) (.inl rfl) ?_
        refine LAt.runU tOk 3 (by kernel_rfl) ?_
        refine LAt.to ⟨71, 0, [(33, .val false [.lit (.bool (!r3))]), (32, .val false [.lit (.bool (!r3))]), (31, .val false [.lit (.bool (!r3))]), (30, .val false [.lit (.bool r3)]), (29, .val false [.lit (.int .i64 (x0.Ports.length : Int))]), (28, .val false [.sl false 8 (CV.frzEs (x0.Ports.map Pt.row))]), (27, .adr (.box 1) [(0, 0)] 11 2), (26, .val false [.lit (.bool false)]), (25, .val false [.lit (.bool false)]), (24, .val false [.lit (.bool false)]), (23, .val false [.lit (.int .i64 (x0.Name.size : Int))]), (22, .val false [.lit (.string x0.Name)]), (21, .adr (.box 1) [(0, 0)] 11 1), (20, .val false [.lit (.bool false)]), (19, .val false [.lit (.bool false)]), (18, .val false [.lit (.bool r2)]), (17, .val false [.lit (.int .i64 x0.Id)]), (16, .adr (.box 1) [(0, 0)] 11 0), (2, .val false [.lit (.bool false)]), (1, .adr (.box 1) [(0, 0)] 11 0)], [(1, (CV.frzRow (Bridge.row x0)))]⟩ (by kernel_rfl) ?_
        cases h3 : (!r3)
        · have H := bifF h3 H
          refine LAt.runU tOk 2 (by kernel_rfl) ?_
          obtain ⟨r4, er4, H⟩ := bind_some H
          refine LAt.callU tOk [.rd] (f := 128) (av := #[.tmp 35]) (ats := #[77]) (d := (some 36)) (ty := 4) (g := (some (17, false))) (by kernel_rfl) (by kernel_rfl) (by kernel_rfl) [] (impl_FdbOk n x0.F r4 er4) (by kernel_rfl) (.inl rfl) ?_
          refine LAt.runU tOk 3 (by kernel_rfl) ?_
          refine LAt.to ⟨71, 0, [(39, .val false [.lit (.bool (!r4))]), (38, .val false [.lit (.bool (!r4))]), (37, .val false [.lit (.bool (!r4))]), (36, .val false [.lit (.bool r4)]), (35, .val false [.sl false 5 (CV.frzEs (x0.F.map Fent.row))]), (34, .adr (.box 1) [(0, 0)] 11 3), (33, .val false [.lit (.bool false)]), (32, .val false [.lit (.bool false)]), (31, .val false [.lit (.bool false)]), (30, .val false [.lit (.bool r3)]), (29, .val false [.lit (.int .i64 (x0.Ports.length : Int))]), (28, .val false [.sl false 8 (CV.frzEs (x0.Ports.map Pt.row))]), (27, .adr (.box 1) [(0, 0)] 11 2), (26, .val false [.lit (.bool false)]), (25, .val false [.lit (.bool false)]), (24, .val false [.lit (.bool false)]), (23, .val false [.lit (.int .i64 (x0.Name.size : Int))]), (22, .val false [.lit (.string x0.Name)]), (21, .adr (.box 1) [(0, 0)] 11 1), (20, .val false [.lit (.bool false)]), (19, .val false [.lit (.bool false)]), (18, .val false [.lit (.bool r2)]), (17, .val false [.lit (.int .i64 x0.Id)]), (16, .adr (.box 1) [(0, 0)] 11 0), (2, .val false [.lit (.bool false)]), (1, .adr (.box 1) [(0, 0)] 11 0)], [(1, (CV.frzRow (Bridge.row x0)))]⟩ (by kernel_rfl) ?_
          cases h4 : (!r4)
          · have H := bifF h4 H
            refine LAt.runU tOk 4 (by kernel_rfl) ?_
            refine LAt.lenE tOk (t := 43) (ty := 3) (e := 41) (x := (.tmp 43)) (d := 44) (g := (some (23, false))) ⟨(.slot 43), [], 0, false, 8, (CV.frzEs (x0.Ports.map Pt.row))⟩ (x0.Ports).length _ (by kernel_rfl) (by kernel_rfl) (by kernel_rfl) (by kernel_rfl) (by kernel_rfl) (frz_len _ _) rfl ?_
            obtain ⟨r5, er5, H⟩ := bind_some H
            refine LAt.callU tOk [.rd, .rd] (f := 41) (av := #[.tmp 41, .tmp 44]) (ats := #[29, 3]) (d := (some 45)) (ty := 4) (g := (some (23, false))) (by kernel_rfl) (by kernel_rfl) (by kernel_rfl) [] (impl_VtabOk n x0.V (x0.Ports.length : Int) r5 er5) (by kernel_rfl) (.inl rfl) ?_
            refine LAt.runU tOk 2 (by kernel_rfl) ?_
            refine LAt.doneU [47, 2, 1] [1] (by kernel_rfl) ?_
            refine Tr.to ⟨71, 0, [(47, .val false [.lit (.bool (!r5))]), (2, .val false [.lit (.bool false)]), (1, .adr (.box 1) [(0, 0)] 11 0)], [(1, (CV.frzRow (Bridge.row x0)))]⟩ (by kernel_rfl) ?_
            cases h5 : (!r5)
            · have H := bifF h5 H
              refine Tr.cond (b := false) (by kernel_rfl) (fun h => nomatch h) (fun _ => ?_)
              refine Tr.skip ?_
              show Tr _ _ _ _ _
              refine Tr.rs ?_
              refine LAt.runU tOk 2 (by kernel_rfl) ?_
              obtain ⟨r6, er6, H⟩ := bind_some H
              refine LAt.callU tOk [.rd] (f := 129) (av := #[.tmp 49]) (ats := #[3]) (d := (some 50)) (ty := 4) (g := none) (by kernel_rfl) (by kernel_rfl) (by kernel_rfl) [] (impl_isCount n x0.Ticks r6 er6) (by kernel_rfl) (.inl rfl) ?_
              refine LAt.runU tOk 1 (by kernel_rfl) ?_
              refine LAt.to ⟨71, 0, [(51, .val false [.lit (.bool r6)]), (50, .val false [.lit (.bool r6)]), (49, .val false [.lit (.int .i64 x0.Ticks)]), (48, .adr (.box 1) [(0, 0)] 11 6), (47, .val false [.lit (.bool false)]), (2, .val false [.lit (.bool false)]), (1, .adr (.box 1) [(0, 0)] 11 0)], [(1, (CV.frzRow (Bridge.row x0)))]⟩ (by kernel_rfl) ?_
              cases h6 : r6
              · have H := bifF h6 H
                refine LAt.runU tOk 20 (by kernel_rfl) ?_
                refine LAt.doneU [2] [] (by kernel_rfl) ?_
                refine Tr.ret ?_
                have H := Option.some.inj H
                subst H
                exact Fin.of _ [(false, [.lit (.bool false)])] (by kernel_rfl) rfl rfl
              · have H := bifT h6 H
                refine LAt.runU tOk 2 (by kernel_rfl) ?_
                obtain ⟨r7, er7, H⟩ := bind_some H
                refine LAt.callU tOk [.rd] (f := 129) (av := #[.tmp 53]) (ats := #[3]) (d := (some 54)) (ty := 4) (g := (some (3, true))) (by kernel_rfl) (by kernel_rfl) (by kernel_rfl) [] (impl_isCount n x0.Parse r7 er7) (by kernel_rfl) (.inl rfl) ?_
                refine LAt.runU tOk 2 (by kernel_rfl) ?_
                refine LAt.to ⟨71, 0, [(56, .val false [.lit (.bool r7)]), (55, .val false [.lit (.bool r7)]), (54, .val false [.lit (.bool r7)]), (53, .val false [.lit (.int .i64 x0.Parse)]), (52, .adr (.box 1) [(0, 0)] 11 7), (51, .val false [.lit (.bool true)]), (50, .val false [.lit (.bool true)]), (49, .val false [.lit (.int .i64 x0.Ticks)]), (48, .adr (.box 1) [(0, 0)] 11 6), (47, .val false [.lit (.bool false)]), (2, .val false [.lit (.bool false)]), (1, .adr (.box 1) [(0, 0)] 11 0)], [(1, (CV.frzRow (Bridge.row x0)))]⟩ (by kernel_rfl) ?_
                cases h7 : r7
                · have H := bifF h7 H
                  refine LAt.runU tOk 15 (by kernel_rfl) ?_
                  refine LAt.doneU [2] [] (by kernel_rfl) ?_
                  refine Tr.ret ?_
                  have H := Option.some.inj H
                  subst H
                  exact Fin.of _ [(false, [.lit (.bool false)])] (by kernel_rfl) rfl rfl
                · have H := bifT h7 H
                  refine LAt.runU tOk 2 (by kernel_rfl) ?_
                  obtain ⟨r8, er8, H⟩ := bind_some H
                  refine LAt.callU tOk [.rd] (f := 129) (av := #[.tmp 58]) (ats := #[3]) (d := (some 59)) (ty := 4) (g := (some (8, true))) (by kernel_rfl) (by kernel_rfl) (by kernel_rfl) [] (impl_isCount n x0.Word r8 er8) (by kernel_rfl) (.inl rfl) ?_
                  refine LAt.runU tOk 2 (by kernel_rfl) ?_
                  refine LAt.to ⟨71, 0, [(61, .val false [.lit (.bool r8)]), (60, .val false [.lit (.bool r8)]), (59, .val false [.lit (.bool r8)]), (58, .val false [.lit (.int .i64 x0.Word)]), (57, .adr (.box 1) [(0, 0)] 11 8), (56, .val false [.lit (.bool true)]), (55, .val false [.lit (.bool true)]), (54, .val false [.lit (.bool true)]), (53, .val false [.lit (.int .i64 x0.Parse)]), (52, .adr (.box 1) [(0, 0)] 11 7), (51, .val false [.lit (.bool true)]), (50, .val false [.lit (.bool true)]), (49, .val false [.lit (.int .i64 x0.Ticks)]), (48, .adr (.box 1) [(0, 0)] 11 6), (47, .val false [.lit (.bool false)]), (2, .val false [.lit (.bool false)]), (1, .adr (.box 1) [(0, 0)] 11 0)], [(1, (CV.frzRow (Bridge.row x0)))]⟩ (by kernel_rfl) ?_
                  cases h8 : r8
                  · have H := bifF h8 H
                    refine LAt.runU tOk 10 (by kernel_rfl) ?_
                    refine LAt.doneU [2] [] (by kernel_rfl) ?_
                    refine Tr.ret ?_
                    have H := Option.some.inj H
                    subst H
                    exact Fin.of _ [(false, [.lit (.bool false)])] (by kernel_rfl) rfl rfl
                  · have H := bifT h8 H
                    refine LAt.runU tOk 2 (by kernel_rfl) ?_
                    obtain ⟨r9, er9, H⟩ := bind_some H
                    refine LAt.callU tOk [.rd] (f := 129) (av := #[.tmp 63]) (ats := #[3]) (d := (some 64)) (ty := 4) (g := (some (13, true))) (by kernel_rfl) (by kernel_rfl) (by kernel_rfl) [] (impl_isCount n x0.Drops r9 er9) (by kernel_rfl) (.inl rfl) ?_
                    refine LAt.runU tOk 2 (by kernel_rfl) ?_
                    refine LAt.to ⟨71, 0, [(66, .val false [.lit (.bool r9)]), (65, .val false [.lit (.bool r9)]), (64, .val false [.lit (.bool r9)]), (63, .val false [.lit (.int .i64 x0.Drops)]), (62, .adr (.box 1) [(0, 0)] 11 9), (61, .val false [.lit (.bool true)]), (60, .val false [.lit (.bool true)]), (59, .val false [.lit (.bool true)]), (58, .val false [.lit (.int .i64 x0.Word)]), (57, .adr (.box 1) [(0, 0)] 11 8), (56, .val false [.lit (.bool true)]), (55, .val false [.lit (.bool true)]), (54, .val false [.lit (.bool true)]), (53, .val false [.lit (.int .i64 x0.Parse)]), (52, .adr (.box 1) [(0, 0)] 11 7), (51, .val false [.lit (.bool true)]), (50, .val false [.lit (.bool true)]), (49, .val false [.lit (.int .i64 x0.Ticks)]), (48, .adr (.box 1) [(0, 0)] 11 6), (47, .val false [.lit (.bool false)]), (2, .val false [.lit (.bool false)]), (1, .adr (.box 1) [(0, 0)] 11 0)], [(1, (CV.frzRow (Bridge.row x0)))]⟩ (by kernel_rfl) ?_
                    cases h9 : r9
                    · have H := bifF h9 H
                      refine LAt.runU tOk 5 (by kernel_rfl) ?_
                      refine LAt.doneU [2] [] (by kernel_rfl) ?_
                      refine Tr.ret ?_
                      have H := Option.some.inj H
                      subst H
                      exact Fin.of _ [(false, [.lit (.bool false)])] (by kernel_rfl) rfl rfl
                    · have H := bifT h9 H
                      refine LAt.runU tOk 2 (by kernel_rfl) ?_
                      obtain ⟨r10, er10, H⟩ := bind_some H
                      refine LAt.callU tOk [.rd] (f := 129) (av := #[.tmp 68]) (ats := #[3]) (d := (some 69)) (ty := 4) (g := (some (18, true))) (by kernel_rfl) (by kernel_rfl) (by kernel_rfl) [] (impl_isCount n x0.Vers r10 er10) (by kernel_rfl) (.inl rfl) ?_
                      refine LAt.runU tOk 2 (by kernel_rfl) ?_
                      refine LAt.doneU [2] [] (by kernel_rfl) ?_
                      refine Tr.ret ?_
                      have H := Option.some.inj H
                      subst H
                      exact Fin.of _ [(false, [.lit (.bool r10)])] (by kernel_rfl) rfl rfl
            · have H := bifT h5 H
              refine Tr.cond (b := true) (by kernel_rfl) (fun _ => ?_) (fun h => nomatch h)
              refine Tr.rs ?_
              refine LAt.runU tOk 1 (by kernel_rfl) ?_
              refine LAt.doneU [2, 1] [1] (by kernel_rfl) ?_
              refine Tr.ret ?_
              have H := Option.some.inj H
              subst H
              exact Fin.of _ [(false, [.lit (.bool false)])] (by kernel_rfl) rfl rfl
          · have H := bifT h4 H
            refine LAt.runU tOk 8 (by kernel_rfl) ?_
            refine LAt.doneU [47, 2, 1] [1] (by kernel_rfl) ?_
            refine Tr.cond (b := true) (by kernel_rfl) (fun _ => ?_) (fun h => nomatch h)
            refine Tr.rs ?_
            refine LAt.runU tOk 1 (by kernel_rfl) ?_
            refine LAt.doneU [2, 1] [1] (by kernel_rfl) ?_
            refine Tr.ret ?_
            have H := Option.some.inj H
            subst H
            exact Fin.of _ [(false, [.lit (.bool false)])] (by kernel_rfl) rfl rfl
        · have H := bifT h3 H
          refine LAt.runU tOk 14 (by kernel_rfl) ?_
          refine LAt.doneU [47, 2, 1] [1] (by kernel_rfl) ?_
          refine Tr.cond (b := true) (by kernel_rfl) (fun _ => ?_) (fun h => nomatch h)
          refine Tr.rs ?_
          refine LAt.runU tOk 1 (by kernel_rfl) ?_
          refine LAt.doneU [2, 1] [1] (by kernel_rfl) ?_
          refine Tr.ret ?_
          have H := Option.some.inj H
          subst H
          exact Fin.of _ [(false, [.lit (.bool false)])] (by kernel_rfl) rfl rfl
      · have H := bifT h2 H
        refine LAt.runU tOk 21 (by kernel_rfl) ?_
        refine LAt.doneU [47, 2, 1] [1] (by kernel_rfl) ?_
        refine Tr.cond (b := true) (by kernel_rfl) (fun _ => ?_) (fun h => nomatch h)
        refine Tr.rs ?_
        refine LAt.runU tOk 1 (by kernel_rfl) ?_
        refine LAt.doneU [2, 1] [1] (by kernel_rfl) ?_
        refine Tr.ret ?_
        have H := Option.some.inj H
        subst H
        exact Fin.of _ [(false, [.lit (.bool false)])] (by kernel_rfl) rfl rfl
    · have H := bifT h1 H
      refine LAt.runU tOk 27 (by kernel_rfl) ?_
      refine LAt.doneU [47, 2, 1] [1] (by kernel_rfl) ?_
      refine Tr.cond (b := true) (by kernel_rfl) (fun _ => ?_) (fun h => nomatch h)
      refine Tr.rs ?_
      refine LAt.runU tOk 1 (by kernel_rfl) ?_
      refine LAt.doneU [2, 1] [1] (by kernel_rfl) ?_
      refine Tr.ret ?_
      have H := Option.some.inj H
      subst H
      exact Fin.of _ [(false, [.lit (.bool false)])] (by kernel_rfl) rfl rfl

def laws_eqVecF (n : Nat) (x0 : Vec) (x1 : Vec) : Option (Bool) :=
  (bif (x0.Root != x1.Root) then (some false) else (bif (x0.Cost != x1.Cost) then (some false) else (bif (x0.Hops != x1.Hops) then (some false) else (bif (x0.Bridge != x1.Bridge) then (some false) else (bif (x0.Port != x1.Port) then (some false) else (some true))))))
/-- loop.example/g00326/laws.eqVec -/
theorem laws_eqVec (n : Nat) (x0 : Vec) (x1 : Vec) (r : Bool) (H : laws_eqVecF n x0 x1 = some r) : LCall Try.prog 178 [.val true (CV.frzRow (Vec.row x0)), .val true (CV.frzRow (Vec.row x1))] [.val false [.lit (.bool r)]] [] := by
  refine LCall.of_body tOk Try.func178 rfl (c := (.seq (.region 0 (rg Try.f178 0) false) (.seq (.seq (.region 1 (rg Try.f178 1) false) (.cond (.tmp 9) (.seq (.region 2 (rg Try.f178 2) false) .ret) .skip)) (.seq (.seq (.region 3 (rg Try.f178 3) false) (.cond (.tmp 14) (.seq (.region 4 (rg Try.f178 4) false) .ret) .skip)) (.seq (.seq (.region 5 (rg Try.f178 5) false) (.cond (.tmp 19) (.seq (.region 6 (rg Try.f178 6) false) .ret) .skip)) (.seq (.seq (.region 7 (rg Try.f178 7) false) (.cond (.tmp 24) (.seq (.region 8 (rg Try.f178 8) false) .ret) .skip)) (.seq (.seq (.region 9 (rg Try.f178 9) false) (.cond (.tmp 29) (.seq (.region 10 (rg Try.f178 10) false) .ret) .skip)) (.seq (.region 11 (rg Try.f178 11) false) .ret)))))))) (by kernel_rfl) (Nat.le_of_ble_eq_true (by kernel_rfl)) 0 (rs := [.tmp 4]) rfl [] .nil [(false, [.lit (.bool r)])] [] [] fun cx => ?_
  show Tr _ _ _ ⟨30, 0, [(0, .val true (Vec.row x0)), (1, .val true (Vec.row x1))], []⟩ _
  unfold laws_eqVecF at H
  refine Tr.rs ?_
  refine LAt.runU tOk 3 (by kernel_rfl) ?_
  refine LAt.doneU [4, 3, 2] [3, 2] (by kernel_rfl) ?_
  refine Tr.seq ?_
  refine Tr.rs ?_
  refine LAt.runU tOk 5 (by kernel_rfl) ?_
  refine LAt.doneU [9, 4, 3, 2] [3, 2] (by kernel_rfl) ?_
  refine Tr.to ⟨30, 0, [(9, .val false [.lit (.bool (x0.Root != x1.Root))]), (4, .val false [.lit (.bool false)]), (3, .adr (.box 3) [(0, 0)] 5 0), (2, .adr (.box 2) [(0, 0)] 5 0)], [(3, (Vec.row x1)), (2, (Vec.row x0))]⟩ (by kernel_rfl) ?_
  cases h1 : (x0.Root != x1.Root)
  · have H := bifF h1 H
    refine Tr.cond (b := false) (by kernel_rfl) (fun h => nomatch h) (fun _ => ?_)
    refine Tr.skip ?_
    show Tr _ _ _ _ _
    refine Tr.seq ?_
    refine Tr.rs ?_
    refine LAt.runU tOk 5 (by kernel_rfl) ?_
    refine LAt.doneU [14, 4, 3, 2] [3, 2] (by kernel_rfl) ?_
    refine Tr.to ⟨30, 0, [(14, .val false [.lit (.bool (x0.Cost != x1.Cost))]), (4, .val false [.lit (.bool false)]), (3, .adr (.box 3) [(0, 0)] 5 0), (2, .adr (.box 2) [(0, 0)] 5 0)], [(3, (Vec.row x1)), (2, (Vec.row x0))]⟩ (by kernel_rfl) ?_
    cases h2 : (x0.Cost != x1.Cost)
    · have H := bifF h2 H
      refine Tr.cond (b := false) (by kernel_rfl) (fun h => nomatch h) (fun _ => ?_)
      refine Tr.skip ?_
      show Tr _ _ _ _ _
      refine Tr.seq ?_
      refine Tr.rs ?_
      refine LAt.runU tOk 5 (by kernel_rfl) ?_
      refine LAt.doneU [19, 4, 3, 2] [3, 2] (by kernel_rfl) ?_
      refine Tr.to ⟨30, 0, [(19, .val false [.lit (.bool (x0.Hops != x1.Hops))]), (4, .val false [.lit (.bool false)]), (3, .adr (.box 3) [(0, 0)] 5 0), (2, .adr (.box 2) [(0, 0)] 5 0)], [(3, (Vec.row x1)), (2, (Vec.row x0))]⟩ (by kernel_rfl) ?_
      cases h3 : (x0.Hops != x1.Hops)
      · have H := bifF h3 H
        refine Tr.cond (b := false) (by kernel_rfl) (fun h => nomatch h) (fun _ => ?_)
        refine Tr.skip ?_
        show Tr _ _ _ _ _
        refine Tr.seq ?_
        refine Tr.rs ?_
        refine LAt.runU tOk 5 (by kernel_rfl) ?_
        refine LAt.doneU [24, 4, 3, 2] [3, 2] (by kernel_rfl) ?_
        refine Tr.to ⟨30, 0, [(24, .val false [.lit (.bool (x0.Bridge != x1.Bridge))]), (4, .val false [.lit (.bool false)]), (3, .adr (.box 3) [(0, 0)] 5 0), (2, .adr (.box 2) [(0, 0)] 5 0)], [(3, (Vec.row x1)), (2, (Vec.row x0))]⟩ (by kernel_rfl) ?_
        cases h4 : (x0.Bridge != x1.Bridge)
        · have H := bifF h4 H
          refine Tr.cond (b := false) (by kernel_rfl) (fun h => nomatch h) (fun _ => ?_)
          refine Tr.skip ?_
          show Tr _ _ _ _ _
          refine Tr.seq ?_
          refine Tr.rs ?_
          refine LAt.runU tOk 5 (by kernel_rfl) ?_
          refine LAt.doneU [29, 4] [] (by kernel_rfl) ?_
          refine Tr.to ⟨30, 0, [(29, .val false [.lit (.bool (x0.Port != x1.Port))]), (4, .val false [.lit (.bool false)])], []⟩ (by kernel_rfl) ?_
          cases h5 : (x0.Port != x1.Port)
          · have H := bifF h5 H
            refine Tr.cond (b := false) (by kernel_rfl) (fun h => nomatch h) (fun _ => ?_)
            refine Tr.skip ?_
            show Tr _ _ _ _ _
            refine Tr.rs ?_
            refine LAt.runU tOk 1 (by kernel_rfl) ?_
            refine LAt.doneU [4] [] (by kernel_rfl) ?_
            refine Tr.ret ?_
            have H := Option.some.inj H
            subst H
            exact Fin.of _ [(false, [.lit (.bool true)])] (by kernel_rfl) rfl rfl
          · have H := bifT h5 H
            refine Tr.cond (b := true) (by kernel_rfl) (fun _ => ?_) (fun h => nomatch h)
            refine Tr.rs ?_
            refine LAt.runU tOk 1 (by kernel_rfl) ?_
            refine LAt.doneU [4] [] (by kernel_rfl) ?_
            refine Tr.ret ?_
            have H := Option.some.inj H
            subst H
            exact Fin.of _ [(false, [.lit (.bool false)])] (by kernel_rfl) rfl rfl
        · have H := bifT h4 H
          refine Tr.cond (b := true) (by kernel_rfl) (fun _ => ?_) (fun h => nomatch h)
          refine Tr.rs ?_
          refine LAt.runU tOk 1 (by kernel_rfl) ?_
          refine LAt.doneU [4, 3, 2] [3, 2] (by kernel_rfl) ?_
          refine Tr.ret ?_
          have H := Option.some.inj H
          subst H
          exact Fin.of _ [(false, [.lit (.bool false)])] (by kernel_rfl) rfl rfl
      · have H := bifT h3 H
        refine Tr.cond (b := true) (by kernel_rfl) (fun _ => ?_) (fun h => nomatch h)
        refine Tr.rs ?_
        refine LAt.runU tOk 1 (by kernel_rfl) ?_
        refine LAt.doneU [4, 3, 2] [3, 2] (by kernel_rfl) ?_
        refine Tr.ret ?_
        have H := Option.some.inj H
        subst H
        exact Fin.of _ [(false, [.lit (.bool false)])] (by kernel_rfl) rfl rfl
    · have H := bifT h2 H
      refine Tr.cond (b := true) (by kernel_rfl) (fun _ => ?_) (fun h => nomatch h)
      refine Tr.rs ?_
      refine LAt.runU tOk 1 (by kernel_rfl) ?_
      refine LAt.doneU [4, 3, 2] [3, 2] (by kernel_rfl) ?_
      refine Tr.ret ?_
      have H := Option.some.inj H
      subst H
      exact Fin.of _ [(false, [.lit (.bool false)])] (by kernel_rfl) rfl rfl
  · have H := bifT h1 H
    refine Tr.cond (b := true) (by kernel_rfl) (fun _ => ?_) (fun h => nomatch h)
    refine Tr.rs ?_
    refine LAt.runU tOk 1 (by kernel_rfl) ?_
    refine LAt.doneU [4, 3, 2] [3, 2] (by kernel_rfl) ?_
    refine Tr.ret ?_
    have H := Option.some.inj H
    subst H
    exact Fin.of _ [(false, [.lit (.bool false)])] (by kernel_rfl) rfl rfl

def laws_eqPtF (n : Nat) (x0 : Pt) (x1 : Pt) : Option (Bool) :=
  (bif (!(x0.Up == x1.Up)) then (some false) else (bif (x0.Cost != x1.Cost) then (some false) else (bif (!(x0.Has == x1.Has)) then (some false) else ((laws_eqVecF n x0.Heard x1.Heard).bind fun r1 => (bif (!r1) then (some false) else (some true))))))
/-- loop.example/g00326/laws.eqPt -/
theorem laws_eqPt (n : Nat) (x0 : Pt) (x1 : Pt) (r : Bool) (H : laws_eqPtF n x0 x1 = some r) : LCall Try.prog 154 [.val true (CV.frzRow (Pt.row x0)), .val true (CV.frzRow (Pt.row x1))] [.val false [.lit (.bool r)]] [] := by
  refine LCall.of_body tOk Try.func154 rfl (c := (.seq (.region 0 (rg Try.f154 0) false) (.seq (.seq (.region 1 (rg Try.f154 1) false) (.cond (.tmp 9) (.seq (.region 2 (rg Try.f154 2) false) .ret) .skip)) (.seq (.seq (.region 3 (rg Try.f154 3) false) (.cond (.tmp 14) (.seq (.region 4 (rg Try.f154 4) false) .ret) .skip)) (.seq (.seq (.region 5 (rg Try.f154 5) false) (.cond (.tmp 19) (.seq (.region 6 (rg Try.f154 6) false) .ret) .skip)) (.seq (.seq (.region 7 (rg Try.f154 7) false) (.cond (.tmp 25) (.seq (.region 8 (rg Try.f154 8) false) .ret) .skip)) (.seq (.region 9 (rg Try.f154 9) false) .ret))))))) (by kernel_rfl) (Nat.le_of_ble_eq_true (by kernel_rfl)) 0 (rs := [.tmp 4]) rfl [] .nil [(false, [.lit (.bool r)])] [] [] fun cx => ?_
  show Tr _ _ _ ⟨26, 0, [(0, .val true (Pt.row x0)), (1, .val true (Pt.row x1))], []⟩ _
  unfold laws_eqPtF at H
  refine Tr.rs ?_
  refine LAt.runU tOk 3 (by kernel_rfl) ?_
  refine LAt.doneU [4, 3, 2] [3, 2] (by kernel_rfl) ?_
  refine Tr.seq ?_
  refine Tr.rs ?_
  refine LAt.runU tOk 5 (by kernel_rfl) ?_
  refine LAt.doneU [9, 4, 3, 2] [3, 2] (by kernel_rfl) ?_
  refine Tr.to ⟨26, 0, [(9, .val false [.lit (.bool (!(x0.Up == x1.Up)))]), (4, .val false [.lit (.bool false)]), (3, .adr (.box 3) [(0, 0)] 8 0), (2, .adr (.box 2) [(0, 0)] 8 0)], [(3, (Pt.row x1)), (2, (Pt.row x0))]⟩ (by kernel_rfl) ?_
  cases h1 : (!(x0.Up == x1.Up))
  · have H := bifF h1 H
    refine Tr.cond (b := false) (by kernel_rfl) (fun h => nomatch h) (fun _ => ?_)
    refine Tr.skip ?_
    show Tr _ _ _ _ _
    refine Tr.seq ?_
    refine Tr.rs ?_
    refine LAt.runU tOk 5 (by kernel_rfl) ?_
    refine LAt.doneU [14, 4, 3, 2] [3, 2] (by kernel_rfl) ?_
    refine Tr.to ⟨26, 0, [(14, .val false [.lit (.bool (x0.Cost != x1.Cost))]), (4, .val false [.lit (.bool false)]), (3, .adr (.box 3) [(0, 0)] 8 0), (2, .adr (.box 2) [(0, 0)] 8 0)], [(3, (Pt.row x1)), (2, (Pt.row x0))]⟩ (by kernel_rfl) ?_
    cases h2 : (x0.Cost != x1.Cost)
    · have H := bifF h2 H
      refine Tr.cond (b := false) (by kernel_rfl) (fun h => nomatch h) (fun _ => ?_)
      refine Tr.skip ?_
      show Tr _ _ _ _ _
      refine Tr.seq ?_
      refine Tr.rs ?_
      refine LAt.runU tOk 5 (by kernel_rfl) ?_
      refine LAt.doneU [19, 4, 3, 2] [3, 2] (by kernel_rfl) ?_
      refine Tr.to ⟨26, 0, [(19, .val false [.lit (.bool (!(x0.Has == x1.Has)))]), (4, .val false [.lit (.bool false)]), (3, .adr (.box 3) [(0, 0)] 8 0), (2, .adr (.box 2) [(0, 0)] 8 0)], [(3, (Pt.row x1)), (2, (Pt.row x0))]⟩ (by kernel_rfl) ?_
      cases h3 : (!(x0.Has == x1.Has))
      · have H := bifF h3 H
        refine Tr.cond (b := false) (by kernel_rfl) (fun h => nomatch h) (fun _ => ?_)
        refine Tr.skip ?_
        show Tr _ _ _ _ _
        refine Tr.seq ?_
        refine Tr.rs ?_
        refine LAt.runU tOk 4 (by kernel_rfl) ?_
        obtain ⟨r1, er1, H⟩ := bind_some H
        refine LAt.callU tOk [.rd, .rd] (f := 178) (av := #[.tmp 21, .tmp 23]) (ats := #[39, 39]) (d := (some 24)) (ty := 4) (g := none) (by kernel_rfl) (by kernel_rfl) (by kernel_rfl) [] (laws_eqVec n x0.Heard x1.Heard r1 er1) (by kernel_rfl) (.inl rfl) ?_
        refine LAt.runU tOk 1 (by kernel_rfl) ?_
        refine LAt.doneU [25, 4] [] (by kernel_rfl) ?_
        refine Tr.to ⟨26, 0, [(25, .val false [.lit (.bool (!r1))]), (4, .val false [.lit (.bool false)])], []⟩ (by kernel_rfl) ?_
        cases h4 : (!r1)
        · have H := bifF h4 H
          refine Tr.cond (b := false) (by kernel_rfl) (fun h => nomatch h) (fun _ => ?_)
          refine Tr.skip ?_
          show Tr _ _ _ _ _
          refine Tr.rs ?_
          refine LAt.runU tOk 1 (by kernel_rfl) ?_
          refine LAt.doneU [4] [] (by kernel_rfl) ?_
          refine Tr.ret ?_
          have H := Option.some.inj H
          subst H
          exact Fin.of _ [(false, [.lit (.bool true)])] (by kernel_rfl) rfl rfl
        · have H := bifT h4 H
          refine Tr.cond (b := true) (by kernel_rfl) (fun _ => ?_) (fun h => nomatch h)
          refine Tr.rs ?_
          refine LAt.runU tOk 1 (by kernel_rfl) ?_
          refine LAt.doneU [4] [] (by kernel_rfl) ?_
          refine Tr.ret ?_
          have H := Option.some.inj H
          subst H
          exact Fin.of _ [(false, [.lit (.bool false)])] (by kernel_rfl) rfl rfl
      · have H := bifT h3 H
        refine Tr.cond (b := true) (by kernel_rfl) (fun _ => ?_) (fun h => nomatch h)
        refine Tr.rs ?_
        refine LAt.runU tOk 1 (by kernel_rfl) ?_
        refine LAt.doneU [4, 3, 2] [3, 2] (by kernel_rfl) ?_
        refine Tr.ret ?_
        have H := Option.some.inj H
        subst H
        exact Fin.of _ [(false, [.lit (.bool false)])] (by kernel_rfl) rfl rfl
    · have H := bifT h2 H
      refine Tr.cond (b := true) (by kernel_rfl) (fun _ => ?_) (fun h => nomatch h)
      refine Tr.rs ?_
      refine LAt.runU tOk 1 (by kernel_rfl) ?_
      refine LAt.doneU [4, 3, 2] [3, 2] (by kernel_rfl) ?_
      refine Tr.ret ?_
      have H := Option.some.inj H
      subst H
      exact Fin.of _ [(false, [.lit (.bool false)])] (by kernel_rfl) rfl rfl
  · have H := bifT h1 H
    refine Tr.cond (b := true) (by kernel_rfl) (fun _ => ?_) (fun h => nomatch h)
    refine Tr.rs ?_
    refine LAt.runU tOk 1 (by kernel_rfl) ?_
    refine LAt.doneU [4, 3, 2] [3, 2] (by kernel_rfl) ?_
    refine Tr.ret ?_
    have H := Option.some.inj H
    subst H
    exact Fin.of _ [(false, [.lit (.bool false)])] (by kernel_rfl) rfl rfl

def laws_eqPtS_J1 (n : Nat) : Option (Bool) :=
  (some true)
def laws_eqPtS_L2 (n : Nat) : Nat → (List Pt) → (List Pt) → Int → Option ((Unit) ⊕ (Bool))
  | 0, _, _, _ => none
  | mo2 + 1, x0, x1, y1 => (bif (decide (y1 < (x0.length : Int))) then ((idx x0 y1).bind fun v3 => ((idx x1 y1).bind fun v4 => ((laws_eqPtF n v3 v4).bind fun r5 => (bif (!r5) then (some (Sum.inr false)) else (laws_eqPtS_L2 n mo2 x0 x1 (IntKind.wrap .i64 (y1 + 1))))))) else (some (Sum.inl ())))
def laws_eqPtSF (n : Nat) (x0 : (List Pt)) (x1 : (List Pt)) : Option (Bool) :=
  (bif ((x0.length : Int) != (x1.length : Int)) then (some false) else ((laws_eqPtS_L2 n n x0 x1 0).bind fun o => match o with | .inl _ => (laws_eqPtS_J1 n) | .inr r => some r))
/-- loop.example/g00326/laws.eqPtS -/
theorem laws_eqPtS (n : Nat) (x0 : (List Pt)) (x1 : (List Pt)) (r : Bool) (H : laws_eqPtSF n x0 x1 = some r) : LCall Try.prog 120 [.val false [.sl false 8 (CV.frzEs (x0.map Pt.row))], .val false [.sl false 8 (CV.frzEs (x1.map Pt.row))]] [.val false [.lit (.bool r)]] [] := by
  refine LCall.of_body tOk Try.func120 rfl (c := (.seq (.region 0 (rg Try.f120 0) false) (.seq (.seq (.region 1 (rg Try.f120 1) false) (.cond (.tmp 10) (.seq (.region 2 (rg Try.f120 2) false) .ret) .skip)) (.seq (.seq (.region 3 (rg Try.f120 3) false) (.block 0 (.loop (.seq (.seq (.region 4 (rg Try.f120 4) false) (.cond (.tmp 14) .skip (.exit 0))) (.seq (.block 1 (.seq (.region 6 (rg Try.f120 6) true) (.cond (.tmp 26) (.seq (.region 7 (rg Try.f120 7) false) .ret) .skip))) (.region 5 (rg Try.f120 5) false)))))) (.seq (.region 8 (rg Try.f120 8) false) .ret))))) (by kernel_rfl) (Nat.le_of_ble_eq_true (by kernel_rfl)) 0 (rs := [.tmp 4]) rfl [] .nil [(false, [.lit (.bool r)])] [] [] fun cx => ?_
  show Tr _ _ _ ⟨27, 0, [(0, .val false [.sl false 8 (CV.frzEs (x0.map Pt.row))]), (1, .val false [.sl false 8 (CV.frzEs (x1.map Pt.row))])], []⟩ _
  unfold laws_eqPtSF at H
  refine Tr.rs ?_
  refine LAt.runU tOk 1 (by kernel_rfl) ?_
  refine LAt.doneU [4, 0, 1] [] (by kernel_rfl) ?_
  refine Tr.seq ?_
  refine Tr.rs ?_
  refine LAt.runU tOk 1 (by kernel_rfl) ?_
  refine LAt.lenE tOk (t := 43) (ty := 3) (e := 41) (x := (.tmp 6)) (d := 7) (g := none) ⟨(.slot 6), [], 0, false, 8, (CV.frzEs (x0.map Pt.row))⟩ (x0).length _ (by kernel_rfl) (by kernel_rfl) (by kernel_rfl) (by kernel_rfl) (by kernel_rfl) (frz_len _ _) rfl ?_
  refine LAt.runU tOk 1 (by kernel_rfl) ?_
  refine LAt.lenE tOk (t := 43) (ty := 3) (e := 41) (x := (.tmp 8)) (d := 9) (g := none) ⟨(.slot 8), [], 0, false, 8, (CV.frzEs (x1.map Pt.row))⟩ (x1).length _ (by kernel_rfl) (by kernel_rfl) (by kernel_rfl) (by kernel_rfl) (by kernel_rfl) (frz_len _ _) rfl ?_
  refine LAt.runU tOk 1 (by kernel_rfl) ?_
  refine LAt.doneU [10, 4, 0, 1] [] (by kernel_rfl) ?_
  refine Tr.to ⟨27, 0, [(10, .val false [.lit (.bool ((x0.length : Int) != (x1.length : Int)))]), (4, .val false [.lit (.bool false)]), (0, .val false [.sl false 8 (CV.frzEs (x0.map Pt.row))]), (1, .val false [.sl false 8 (CV.frzEs (x1.map Pt.row))])], []⟩ (by kernel_rfl) ?_
  cases h1 : ((x0.length : Int) != (x1.length : Int))
  · have H := bifF h1 H
    refine Tr.cond (b := false) (by kernel_rfl) (fun h => nomatch h) (fun _ => ?_)
    refine Tr.skip ?_
    show Tr _ _ _ _ _
    refine Tr.seq ?_
    refine Tr.rs ?_
    refine LAt.runU tOk 1 (by kernel_rfl) ?_
    refine LAt.doneU [5, 4, 0, 1] [] (by kernel_rfl) ?_
    obtain ⟨o2, eo2, Ho2⟩ := bind_some H
    clear H
    refine Tr.mid (ι := Unit) (fun v => ⟨27, 0, [(4, .val false [.lit (.bool false)])], []⟩) (fun v => laws_eqPtS_J1 n = some r) ?_ ?_
    · refine Tr.block ?_
      refine Tr.loop (ι := Nat × (Int)) (fun v => ⟨27, 0, [(5, .val false [.lit (.int .i64 v.2)]), (4, .val false [.lit (.bool false)]), (0, .val false [.sl false 8 (CV.frzEs (x0.map Pt.row))]), (1, .val false [.sl false 8 (CV.frzEs (x1.map Pt.row))])], []⟩) (fun v => laws_eqPtS_L2 n v.1 x0 x1 v.2 = some o2) (fun v => v.1) (n, 0) eo2 (St.sub_of [5, 4, 0, 1] [] (by kernel_rfl)) ?_
      rintro ⟨mo2, y1⟩ H
      have H : laws_eqPtS_L2 n mo2 x0 x1 y1 = some o2 := H
      obtain _ | mo2 := mo2
      · cases (show (none : Option _) = some o2 from H)
      · rw [laws_eqPtS_L2] at H
        refine Tr.seq ?_
        refine Tr.rs ?_
        refine LAt.runU tOk 2 (by kernel_rfl) ?_
        refine LAt.lenE tOk (t := 43) (ty := 3) (e := 41) (x := (.tmp 12)) (d := 13) (g := none) ⟨(.slot 12), [], 0, false, 8, (CV.frzEs (x0.map Pt.row))⟩ (x0).length _ (by kernel_rfl) (by kernel_rfl) (by kernel_rfl) (by kernel_rfl) (by kernel_rfl) (frz_len _ _) rfl ?_
        refine LAt.runU tOk 1 (by kernel_rfl) ?_
        refine LAt.doneU [14, 13, 12, 11, 5, 4, 0, 1] [] (by kernel_rfl) ?_
        refine Tr.to ⟨27, 0, [(14, .val false [.lit (.bool (decide (y1 < (x0.length : Int))))]), (13, .val false [.lit (.int .i64 (x0.length : Int))]), (12, .val false [.sl false 8 (CV.frzEs (x0.map Pt.row))]), (11, .val false [.lit (.int .i64 y1)]), (5, .val false [.lit (.int .i64 y1)]), (4, .val false [.lit (.bool false)]), (0, .val false [.sl false 8 (CV.frzEs (x0.map Pt.row))]), (1, .val false [.sl false 8 (CV.frzEs (x1.map Pt.row))])], []⟩ (by kernel_rfl) ?_
        cases h2 : (decide (y1 < (x0.length : Int)))
        · have H := bifF h2 H
          refine Tr.cond (b := false) (by kernel_rfl) (fun h => nomatch h) (fun _ => ?_)
          refine Tr.exit ?_
          refine And.intro (fun _ => ?_) (fun h => absurd rfl h)
          have H := Option.some.inj H
          subst H
          have H := Ho2
          dsimp only at H
          exact Exists.intro () (And.intro H (St.sub_of [4] [] (by kernel_rfl)))
        · have H := bifT h2 H
          refine Tr.cond (b := true) (by kernel_rfl) (fun _ => ?_) (fun h => nomatch h)
          refine Tr.skip ?_
          show Tr _ _ _ _ _
          refine Tr.seq ?_
          refine Tr.block ?_
          obtain ⟨v3, ev3, H⟩ := bind_some H
          obtain ⟨v4, ev4, H⟩ := bind_some H
          obtain ⟨r5, er5, H⟩ := bind_some H
          refine Tr.draws mixed 10 (by kernel_rfl) ⟨27, 0, [(26, .val false [.lit (.bool (!r5))]), (25, .val false [.lit (.bool r5)]), (24, .val true (Pt.row v4)), (23, .fad ((Pt.row v4))), (22, .val false [.lit (.int .i64 y1)]), (21, .val false [.sl false 8 (CV.frzEs (x1.map Pt.row))]), (20, .val true (Pt.row v3)), (19, .fad ((Pt.row v3))), (18, .val false [.lit (.int .i64 y1)]), (17, .val false [.sl false 8 (CV.frzEs (x0.map Pt.row))]), (14, .val false [.lit (.bool true)]), (13, .val false [.lit (.int .i64 (x0.length : Int))]), (12, .val false [.sl false 8 (CV.frzEs (x0.map Pt.row))]), (11, .val false [.lit (.int .i64 y1)]), (5, .val false [.lit (.int .i64 y1)]), (4, .val false [.lit (.bool false)]), (0, .val false [.sl false 8 (CV.frzEs (x0.map Pt.row))]), (1, .val false [.sl false 8 (CV.frzEs (x1.map Pt.row))])], []⟩ (fun cx => ?_) ?_
          · refine AT.runU tOk [(0, []), (1, [])] 8 [] [1, 0] rfl (by kernel_rfl) (fun cx => ?_)
            refine AT.indexF tOk 2 (t := 43) (ty := 0) (x := (.tmp 17)) (y := (.tmp 18)) (d := 19) (g := none) ⟨(.slot 17), [], 0, false, 8, (CV.frzEs (x0.map Pt.row))⟩ y1 (Pt.row v3) _ (by kernel_rfl) (by kernel_rfl) (by kernel_rfl) (by kernel_rfl) (by kernel_rfl) (by kernel_rfl) rfl (idx_isF ev3) rfl (fun cx => ?_)
            refine AT.runU tOk [(3, []), (4, []), (5, [])] 4 [] [5, 4, 3, 2, 1, 0] rfl (by kernel_rfl) (fun cx => ?_)
            refine AT.indexF tOk 6 (t := 43) (ty := 0) (x := (.tmp 21)) (y := (.tmp 22)) (d := 23) (g := none) ⟨(.slot 21), [], 0, false, 8, (CV.frzEs (x1.map Pt.row))⟩ y1 (Pt.row v4) _ (by kernel_rfl) (by kernel_rfl) (by kernel_rfl) (by kernel_rfl) (by kernel_rfl) (by kernel_rfl) rfl (idx_isF ev4) rfl (fun cx => ?_)
            refine AT.runU tOk [(7, [])] 2 [] [7, 6, 5, 4, 3, 2, 1, 0] rfl (by kernel_rfl) (fun cx => ?_)
            refine AT.big1 tOk 8 (by kernel_rfl) (by kernel_rfl) ?_
            refine LAt.callU tOk [.rd, .rd] (f := 154) (av := #[.tmp 20, .tmp 24]) (ats := #[41, 41]) (d := (some 25)) (ty := 4) (g := none) (by kernel_rfl) (by kernel_rfl) (by kernel_rfl) [] (laws_eqPt n v3 v4 r5 er5) (by kernel_rfl) (.inl rfl) ?_
            refine LAt.fin (by kernel_rfl) (And.intro (And.intro (by kernel_rfl) (by kernel_rfl)) ?_)
            refine AT.runU tOk [(9, [])] 0 [] [9, 8, 7, 6, 5, 4, 3, 2, 1, 0] rfl (by kernel_rfl) (fun cx => ?_)
            exact AT.done [26, 25, 24, 23, 22, 21, 20, 19, 18, 17, 14, 13, 12, 11, 5, 4, 0, 1] [] _ (by kernel_rfl) (by kernel_rfl) rfl
          · refine Tr.to ⟨27, 0, [(26, .val false [.lit (.bool (!r5))]), (25, .val false [.lit (.bool r5)]), (24, .val true (Pt.row v4)), (23, .fad ((Pt.row v4))), (22, .val false [.lit (.int .i64 y1)]), (21, .val false [.sl false 8 (CV.frzEs (x1.map Pt.row))]), (20, .val true (Pt.row v3)), (19, .fad ((Pt.row v3))), (18, .val false [.lit (.int .i64 y1)]), (17, .val false [.sl false 8 (CV.frzEs (x0.map Pt.row))]), (14, .val false [.lit (.bool true)]), (13, .val false [.lit (.int .i64 (x0.length : Int))]), (12, .val false [.sl false 8 (CV.frzEs (x0.map Pt.row))]), (11, .val false [.lit (.int .i64 y1)]), (5, .val false [.lit (.int .i64 y1)]), (4, .val false [.lit (.bool false)]), (0, .val false [.sl false 8 (CV.frzEs (x0.map Pt.row))]), (1, .val false [.sl false 8 (CV.frzEs (x1.map Pt.row))])], []⟩ (by kernel_rfl) ?_
            cases h3 : (!r5)
            · have H := bifF h3 H
              refine Tr.cond (b := false) (by kernel_rfl) (fun h => nomatch h) (fun _ => ?_)
              refine Tr.skip ?_
              show Tr _ _ _ _ _
              refine Tr.at ?_
              refine LAt.runU tOk 3 (by kernel_rfl) ?_
              refine LAt.doneU [5, 16, 15, 26, 25, 24, 23, 22, 21, 20, 19, 18, 17, 14, 13, 12, 11, 4, 0, 1] [] (by kernel_rfl) ?_
              exact Exists.intro (mo2, (IntKind.wrap .i64 (y1 + 1))) (And.intro H (And.intro (Nat.lt_succ_self mo2) (St.sub_of [5, 4, 0, 1] [] (by kernel_rfl))))
            · have H := bifT h3 H
              refine Tr.cond (b := true) (by kernel_rfl) (fun _ => ?_) (fun h => nomatch h)
              refine Tr.rs ?_
              refine LAt.runU tOk 1 (by kernel_rfl) ?_
              refine LAt.doneU [4, 26, 25, 24, 23, 22, 21, 20, 19, 18, 17, 14, 13, 12, 11, 5, 0, 1] [] (by kernel_rfl) ?_
              refine Tr.ret ?_
              have H := Option.some.inj H
              subst H
              have H := Ho2
              dsimp only at H
              have H := Option.some.inj H
              subst H
              exact Fin.of _ [(false, [.lit (.bool false)])] (by kernel_rfl) rfl rfl
    · rintro _ H
      have H : (laws_eqPtS_J1 n) = some r := H
      unfold laws_eqPtS_J1 at H
      show Tr _ _ _ _ _
      refine Tr.rs ?_
      refine LAt.runU tOk 1 (by kernel_rfl) ?_
      refine LAt.doneU [4] [] (by kernel_rfl) ?_
      refine Tr.ret ?_
      have H := Option.some.inj H
      subst H
      exact Fin.of _ [(false, [.lit (.bool true)])] (by kernel_rfl) rfl rfl
  · have H := bifT h1 H
    refine Tr.cond (b := true) (by kernel_rfl) (fun _ => ?_) (fun h => nomatch h)
    refine Tr.rs ?_
    refine LAt.runU tOk 1 (by kernel_rfl) ?_
    refine LAt.doneU [4, 0, 1] [] (by kernel_rfl) ?_
    refine Tr.ret ?_
    have H := Option.some.inj H
    subst H
    exact Fin.of _ [(false, [.lit (.bool false)])] (by kernel_rfl) rfl rfl

def laws_eqFentF (n : Nat) (x0 : Fent) (x1 : Fent) : Option (Bool) :=
  (bif (x0.Tag != x1.Tag) then (some false) else (bif (x0.Mac != x1.Mac) then (some false) else (bif (x0.Port != x1.Port) then (some false) else (bif (x0.Age != x1.Age) then (some false) else (bif (!(x0.Static == x1.Static)) then (some false) else (some true))))))
/-- loop.example/g00326/laws.eqFent -/
theorem laws_eqFent (n : Nat) (x0 : Fent) (x1 : Fent) (r : Bool) (H : laws_eqFentF n x0 x1 = some r) : LCall Try.prog 155 [.val true (CV.frzRow (Fent.row x0)), .val true (CV.frzRow (Fent.row x1))] [.val false [.lit (.bool r)]] [] := by
  refine LCall.of_body tOk Try.func155 rfl (c := (.seq (.region 0 (rg Try.f155 0) false) (.seq (.seq (.region 1 (rg Try.f155 1) false) (.cond (.tmp 9) (.seq (.region 2 (rg Try.f155 2) false) .ret) .skip)) (.seq (.seq (.region 3 (rg Try.f155 3) false) (.cond (.tmp 14) (.seq (.region 4 (rg Try.f155 4) false) .ret) .skip)) (.seq (.seq (.region 5 (rg Try.f155 5) false) (.cond (.tmp 19) (.seq (.region 6 (rg Try.f155 6) false) .ret) .skip)) (.seq (.seq (.region 7 (rg Try.f155 7) false) (.cond (.tmp 24) (.seq (.region 8 (rg Try.f155 8) false) .ret) .skip)) (.seq (.seq (.region 9 (rg Try.f155 9) false) (.cond (.tmp 29) (.seq (.region 10 (rg Try.f155 10) false) .ret) .skip)) (.seq (.region 11 (rg Try.f155 11) false) .ret)))))))) (by kernel_rfl) (Nat.le_of_ble_eq_true (by kernel_rfl)) 0 (rs := [.tmp 4]) rfl [] .nil [(false, [.lit (.bool r)])] [] [] fun cx => ?_
  show Tr _ _ _ ⟨30, 0, [(0, .val true (Fent.row x0)), (1, .val true (Fent.row x1))], []⟩ _
  unfold laws_eqFentF at H
  refine Tr.rs ?_
  refine LAt.runU tOk 3 (by kernel_rfl) ?_
  refine LAt.doneU [4, 3, 2] [3, 2] (by kernel_rfl) ?_
  refine Tr.seq ?_
  refine Tr.rs ?_
  refine LAt.runU tOk 5 (by kernel_rfl) ?_
  refine LAt.doneU [9, 4, 3, 2] [3, 2] (by kernel_rfl) ?_
  refine Tr.to ⟨30, 0, [(9, .val false [.lit (.bool (x0.Tag != x1.Tag))]), (4, .val false [.lit (.bool false)]), (3, .adr (.box 3) [(0, 0)] 5 0), (2, .adr (.box 2) [(0, 0)] 5 0)], [(3, (Fent.row x1)), (2, (Fent.row x0))]⟩ (by kernel_rfl) ?_
  cases h1 : (x0.Tag != x1.Tag)
  · have H := bifF h1 H
    refine Tr.cond (b := false) (by kernel_rfl) (fun h => nomatch h) (fun _ => ?_)
    refine Tr.skip ?_
    show Tr _ _ _ _ _
    refine Tr.seq ?_
    refine Tr.rs ?_
    refine LAt.runU tOk 5 (by kernel_rfl) ?_
    refine LAt.doneU [14, 4, 3, 2] [3, 2] (by kernel_rfl) ?_
    refine Tr.to ⟨30, 0, [(14, .val false [.lit (.bool (x0.Mac != x1.Mac))]), (4, .val false [.lit (.bool false)]), (3, .adr (.box 3) [(0, 0)] 5 0), (2, .adr (.box 2) [(0, 0)] 5 0)], [(3, (Fent.row x1)), (2, (Fent.row x0))]⟩ (by kernel_rfl) ?_
    cases h2 : (x0.Mac != x1.Mac)
    · have H := bifF h2 H
      refine Tr.cond (b := false) (by kernel_rfl) (fun h => nomatch h) (fun _ => ?_)
      refine Tr.skip ?_
      show Tr _ _ _ _ _
      refine Tr.seq ?_
      refine Tr.rs ?_
      refine LAt.runU tOk 5 (by kernel_rfl) ?_
      refine LAt.doneU [19, 4, 3, 2] [3, 2] (by kernel_rfl) ?_
      refine Tr.to ⟨30, 0, [(19, .val false [.lit (.bool (x0.Port != x1.Port))]), (4, .val false [.lit (.bool false)]), (3, .adr (.box 3) [(0, 0)] 5 0), (2, .adr (.box 2) [(0, 0)] 5 0)], [(3, (Fent.row x1)), (2, (Fent.row x0))]⟩ (by kernel_rfl) ?_
      cases h3 : (x0.Port != x1.Port)
      · have H := bifF h3 H
        refine Tr.cond (b := false) (by kernel_rfl) (fun h => nomatch h) (fun _ => ?_)
        refine Tr.skip ?_
        show Tr _ _ _ _ _
        refine Tr.seq ?_
        refine Tr.rs ?_
        refine LAt.runU tOk 5 (by kernel_rfl) ?_
        refine LAt.doneU [24, 4, 3, 2] [3, 2] (by kernel_rfl) ?_
        refine Tr.to ⟨30, 0, [(24, .val false [.lit (.bool (x0.Age != x1.Age))]), (4, .val false [.lit (.bool false)]), (3, .adr (.box 3) [(0, 0)] 5 0), (2, .adr (.box 2) [(0, 0)] 5 0)], [(3, (Fent.row x1)), (2, (Fent.row x0))]⟩ (by kernel_rfl) ?_
        cases h4 : (x0.Age != x1.Age)
        · have H := bifF h4 H
          refine Tr.cond (b := false) (by kernel_rfl) (fun h => nomatch h) (fun _ => ?_)
          refine Tr.skip ?_
          show Tr _ _ _ _ _
          refine Tr.seq ?_
          refine Tr.rs ?_
          refine LAt.runU tOk 5 (by kernel_rfl) ?_
          refine LAt.doneU [29, 4] [] (by kernel_rfl) ?_
          refine Tr.to ⟨30, 0, [(29, .val false [.lit (.bool (!(x0.Static == x1.Static)))]), (4, .val false [.lit (.bool false)])], []⟩ (by kernel_rfl) ?_
          cases h5 : (!(x0.Static == x1.Static))
          · have H := bifF h5 H
            refine Tr.cond (b := false) (by kernel_rfl) (fun h => nomatch h) (fun _ => ?_)
            refine Tr.skip ?_
            show Tr _ _ _ _ _
            refine Tr.rs ?_
            refine LAt.runU tOk 1 (by kernel_rfl) ?_
            refine LAt.doneU [4] [] (by kernel_rfl) ?_
            refine Tr.ret ?_
            have H := Option.some.inj H
            subst H
            exact Fin.of _ [(false, [.lit (.bool true)])] (by kernel_rfl) rfl rfl
          · have H := bifT h5 H
            refine Tr.cond (b := true) (by kernel_rfl) (fun _ => ?_) (fun h => nomatch h)
            refine Tr.rs ?_
            refine LAt.runU tOk 1 (by kernel_rfl) ?_
            refine LAt.doneU [4] [] (by kernel_rfl) ?_
            refine Tr.ret ?_
            have H := Option.some.inj H
            subst H
            exact Fin.of _ [(false, [.lit (.bool false)])] (by kernel_rfl) rfl rfl
        · have H := bifT h4 H
          refine Tr.cond (b := true) (by kernel_rfl) (fun _ => ?_) (fun h => nomatch h)
          refine Tr.rs ?_
          refine LAt.runU tOk 1 (by kernel_rfl) ?_
          refine LAt.doneU [4, 3, 2] [3, 2] (by kernel_rfl) ?_
          refine Tr.ret ?_
          have H := Option.some.inj H
          subst H
          exact Fin.of _ [(false, [.lit (.bool false)])] (by kernel_rfl) rfl rfl
      · have H := bifT h3 H
        refine Tr.cond (b := true) (by kernel_rfl) (fun _ => ?_) (fun h => nomatch h)
        refine Tr.rs ?_
        refine LAt.runU tOk 1 (by kernel_rfl) ?_
        refine LAt.doneU [4, 3, 2] [3, 2] (by kernel_rfl) ?_
        refine Tr.ret ?_
        have H := Option.some.inj H
        subst H
        exact Fin.of _ [(false, [.lit (.bool false)])] (by kernel_rfl) rfl rfl
    · have H := bifT h2 H
      refine Tr.cond (b := true) (by kernel_rfl) (fun _ => ?_) (fun h => nomatch h)
      refine Tr.rs ?_
      refine LAt.runU tOk 1 (by kernel_rfl) ?_
      refine LAt.doneU [4, 3, 2] [3, 2] (by kernel_rfl) ?_
      refine Tr.ret ?_
      have H := Option.some.inj H
      subst H
      exact Fin.of _ [(false, [.lit (.bool false)])] (by kernel_rfl) rfl rfl
  · have H := bifT h1 H
    refine Tr.cond (b := true) (by kernel_rfl) (fun _ => ?_) (fun h => nomatch h)
    refine Tr.rs ?_
    refine LAt.runU tOk 1 (by kernel_rfl) ?_
    refine LAt.doneU [4, 3, 2] [3, 2] (by kernel_rfl) ?_
    refine Tr.ret ?_
    have H := Option.some.inj H
    subst H
    exact Fin.of _ [(false, [.lit (.bool false)])] (by kernel_rfl) rfl rfl

def laws_eqFentS_J1 (n : Nat) : Option (Bool) :=
  (some true)
def laws_eqFentS_L2 (n : Nat) : Nat → (List Fent) → (List Fent) → Int → Option ((Unit) ⊕ (Bool))
  | 0, _, _, _ => none
  | mo2 + 1, x0, x1, y1 => (bif (decide (y1 < (x0.length : Int))) then ((idx x0 y1).bind fun v3 => ((idx x1 y1).bind fun v4 => ((laws_eqFentF n v3 v4).bind fun r5 => (bif (!r5) then (some (Sum.inr false)) else (laws_eqFentS_L2 n mo2 x0 x1 (IntKind.wrap .i64 (y1 + 1))))))) else (some (Sum.inl ())))
def laws_eqFentSF (n : Nat) (x0 : (List Fent)) (x1 : (List Fent)) : Option (Bool) :=
  (bif ((x0.length : Int) != (x1.length : Int)) then (some false) else ((laws_eqFentS_L2 n n x0 x1 0).bind fun o => match o with | .inl _ => (laws_eqFentS_J1 n) | .inr r => some r))
/-- loop.example/g00326/laws.eqFentS -/
theorem laws_eqFentS (n : Nat) (x0 : (List Fent)) (x1 : (List Fent)) (r : Bool) (H : laws_eqFentSF n x0 x1 = some r) : LCall Try.prog 121 [.val false [.sl false 5 (CV.frzEs (x0.map Fent.row))], .val false [.sl false 5 (CV.frzEs (x1.map Fent.row))]] [.val false [.lit (.bool r)]] [] := by
  refine LCall.of_body tOk Try.func121 rfl (c := (.seq (.region 0 (rg Try.f121 0) false) (.seq (.seq (.region 1 (rg Try.f121 1) false) (.cond (.tmp 10) (.seq (.region 2 (rg Try.f121 2) false) .ret) .skip)) (.seq (.seq (.region 3 (rg Try.f121 3) false) (.block 0 (.loop (.seq (.seq (.region 4 (rg Try.f121 4) false) (.cond (.tmp 14) .skip (.exit 0))) (.seq (.block 1 (.seq (.region 6 (rg Try.f121 6) true) (.cond (.tmp 26) (.seq (.region 7 (rg Try.f121 7) false) .ret) .skip))) (.region 5 (rg Try.f121 5) false)))))) (.seq (.region 8 (rg Try.f121 8) false) .ret))))) (by kernel_rfl) (Nat.le_of_ble_eq_true (by kernel_rfl)) 0 (rs := [.tmp 4]) rfl [] .nil [(false, [.lit (.bool r)])] [] [] fun cx => ?_
  show Tr _ _ _ ⟨27, 0, [(0, .val false [.sl false 5 (CV.frzEs (x0.map Fent.row))]), (1, .val false [.sl false 5 (CV.frzEs (x1.map Fent.row))])], []⟩ _
  unfold laws_eqFentSF at H
  refine Tr.rs ?_
  refine LAt.runU tOk 1 (by kernel_rfl) ?_
  refine LAt.doneU [4, 0, 1] [] (by kernel_rfl) ?_
  refine Tr.seq ?_
  refine Tr.rs ?_
  refine LAt.runU tOk 1 (by kernel_rfl) ?_
  refine LAt.lenE tOk (t := 77) (ty := 3) (e := 147) (x := (.tmp 6)) (d := 7) (g := none) ⟨(.slot 6), [], 0, false, 5, (CV.frzEs (x0.map Fent.row))⟩ (x0).length _ (by kernel_rfl) (by kernel_rfl) (by kernel_rfl) (by kernel_rfl) (by kernel_rfl) (frz_len _ _) rfl ?_
  refine LAt.runU tOk 1 (by kernel_rfl) ?_
  refine LAt.lenE tOk (t := 77) (ty := 3) (e := 147) (x := (.tmp 8)) (d := 9) (g := none) ⟨(.slot 8), [], 0, false, 5, (CV.frzEs (x1.map Fent.row))⟩ (x1).length _ (by kernel_rfl) (by kernel_rfl) (by kernel_rfl) (by kernel_rfl) (by kernel_rfl) (frz_len _ _) rfl ?_
  refine LAt.runU tOk 1 (by kernel_rfl) ?_
  refine LAt.doneU [10, 4, 0, 1] [] (by kernel_rfl) ?_
  refine Tr.to ⟨27, 0, [(10, .val false [.lit (.bool ((x0.length : Int) != (x1.length : Int)))]), (4, .val false [.lit (.bool false)]), (0, .val false [.sl false 5 (CV.frzEs (x0.map Fent.row))]), (1, .val false [.sl false 5 (CV.frzEs (x1.map Fent.row))])], []⟩ (by kernel_rfl) ?_
  cases h1 : ((x0.length : Int) != (x1.length : Int))
  · have H := bifF h1 H
    refine Tr.cond (b := false) (by kernel_rfl) (fun h => nomatch h) (fun _ => ?_)
    refine Tr.skip ?_
    show Tr _ _ _ _ _
    refine Tr.seq ?_
    refine Tr.rs ?_
    refine LAt.runU tOk 1 (by kernel_rfl) ?_
    refine LAt.doneU [5, 4, 0, 1] [] (by kernel_rfl) ?_
    obtain ⟨o2, eo2, Ho2⟩ := bind_some H
    clear H
    refine Tr.mid (ι := Unit) (fun v => ⟨27, 0, [(4, .val false [.lit (.bool false)])], []⟩) (fun v => laws_eqFentS_J1 n = some r) ?_ ?_
    · refine Tr.block ?_
      refine Tr.loop (ι := Nat × (Int)) (fun v => ⟨27, 0, [(5, .val false [.lit (.int .i64 v.2)]), (4, .val false [.lit (.bool false)]), (0, .val false [.sl false 5 (CV.frzEs (x0.map Fent.row))]), (1, .val false [.sl false 5 (CV.frzEs (x1.map Fent.row))])], []⟩) (fun v => laws_eqFentS_L2 n v.1 x0 x1 v.2 = some o2) (fun v => v.1) (n, 0) eo2 (St.sub_of [5, 4, 0, 1] [] (by kernel_rfl)) ?_
      rintro ⟨mo2, y1⟩ H
      have H : laws_eqFentS_L2 n mo2 x0 x1 y1 = some o2 := H
      obtain _ | mo2 := mo2
      · cases (show (none : Option _) = some o2 from H)
      · rw [laws_eqFentS_L2] at H
        refine Tr.seq ?_
        refine Tr.rs ?_
        refine LAt.runU tOk 2 (by kernel_rfl) ?_
        refine LAt.lenE tOk (t := 77) (ty := 3) (e := 147) (x := (.tmp 12)) (d := 13) (g := none) ⟨(.slot 12), [], 0, false, 5, (CV.frzEs (x0.map Fent.row))⟩ (x0).length _ (by kernel_rfl) (by kernel_rfl) (by kernel_rfl) (by kernel_rfl) (by kernel_rfl) (frz_len _ _) rfl ?_
        refine LAt.runU tOk 1 (by kernel_rfl) ?_
        refine LAt.doneU [14, 13, 12, 11, 5, 4, 0, 1] [] (by kernel_rfl) ?_
        refine Tr.to ⟨27, 0, [(14, .val false [.lit (.bool (decide (y1 < (x0.length : Int))))]), (13, .val false [.lit (.int .i64 (x0.length : Int))]), (12, .val false [.sl false 5 (CV.frzEs (x0.map Fent.row))]), (11, .val false [.lit (.int .i64 y1)]), (5, .val false [.lit (.int .i64 y1)]), (4, .val false [.lit (.bool false)]), (0, .val false [.sl false 5 (CV.frzEs (x0.map Fent.row))]), (1, .val false [.sl false 5 (CV.frzEs (x1.map Fent.row))])], []⟩ (by kernel_rfl) ?_
        cases h2 : (decide (y1 < (x0.length : Int)))
        · have H := bifF h2 H
          refine Tr.cond (b := false) (by kernel_rfl) (fun h => nomatch h) (fun _ => ?_)
          refine Tr.exit ?_
          refine And.intro (fun _ => ?_) (fun h => absurd rfl h)
          have H := Option.some.inj H
          subst H
          have H := Ho2
          dsimp only at H
          exact Exists.intro () (And.intro H (St.sub_of [4] [] (by kernel_rfl)))
        · have H := bifT h2 H
          refine Tr.cond (b := true) (by kernel_rfl) (fun _ => ?_) (fun h => nomatch h)
          refine Tr.skip ?_
          show Tr _ _ _ _ _
          refine Tr.seq ?_
          refine Tr.block ?_
          obtain ⟨v3, ev3, H⟩ := bind_some H
          obtain ⟨v4, ev4, H⟩ := bind_some H
          obtain ⟨r5, er5, H⟩ := bind_some H
          refine Tr.draws mixed 10 (by kernel_rfl) ⟨27, 0, [(26, .val false [.lit (.bool (!r5))]), (25, .val false [.lit (.bool r5)]), (24, .val true (Fent.row v4)), (23, .fad ((Fent.row v4))), (22, .val false [.lit (.int .i64 y1)]), (21, .val false [.sl false 5 (CV.frzEs (x1.map Fent.row))]), (20, .val true (Fent.row v3)), (19, .fad ((Fent.row v3))), (18, .val false [.lit (.int .i64 y1)]), (17, .val false [.sl false 5 (CV.frzEs (x0.map Fent.row))]), (14, .val false [.lit (.bool true)]), (13, .val false [.lit (.int .i64 (x0.length : Int))]), (12, .val false [.sl false 5 (CV.frzEs (x0.map Fent.row))]), (11, .val false [.lit (.int .i64 y1)]), (5, .val false [.lit (.int .i64 y1)]), (4, .val false [.lit (.bool false)]), (0, .val false [.sl false 5 (CV.frzEs (x0.map Fent.row))]), (1, .val false [.sl false 5 (CV.frzEs (x1.map Fent.row))])], []⟩ (fun cx => ?_) ?_
          · refine AT.runU tOk [(0, []), (1, [])] 8 [] [1, 0] rfl (by kernel_rfl) (fun cx => ?_)
            refine AT.indexF tOk 2 (t := 77) (ty := 0) (x := (.tmp 17)) (y := (.tmp 18)) (d := 19) (g := none) ⟨(.slot 17), [], 0, false, 5, (CV.frzEs (x0.map Fent.row))⟩ y1 (Fent.row v3) _ (by kernel_rfl) (by kernel_rfl) (by kernel_rfl) (by kernel_rfl) (by kernel_rfl) (by kernel_rfl) rfl (idx_isF ev3) rfl (fun cx => ?_)
            refine AT.runU tOk [(3, []), (4, []), (5, [])] 4 [] [5, 4, 3, 2, 1, 0] rfl (by kernel_rfl) (fun cx => ?_)
            refine AT.indexF tOk 6 (t := 77) (ty := 0) (x := (.tmp 21)) (y := (.tmp 22)) (d := 23) (g := none) ⟨(.slot 21), [], 0, false, 5, (CV.frzEs (x1.map Fent.row))⟩ y1 (Fent.row v4) _ (by kernel_rfl) (by kernel_rfl) (by kernel_rfl) (by kernel_rfl) (by kernel_rfl) (by kernel_rfl) rfl (idx_isF ev4) rfl (fun cx => ?_)
            refine AT.runU tOk [(7, [])] 2 [] [7, 6, 5, 4, 3, 2, 1, 0] rfl (by kernel_rfl) (fun cx => ?_)
            refine AT.big1 tOk 8 (by kernel_rfl) (by kernel_rfl) ?_
            refine LAt.callU tOk [.rd, .rd] (f := 155) (av := #[.tmp 20, .tmp 24]) (ats := #[147, 147]) (d := (some 25)) (ty := 4) (g := none) (by kernel_rfl) (by kernel_rfl) (by kernel_rfl) [] (laws_eqFent n v3 v4 r5 er5) (by kernel_rfl) (.inl rfl) ?_
            refine LAt.fin (by kernel_rfl) (And.intro (And.intro (by kernel_rfl) (by kernel_rfl)) ?_)
            refine AT.runU tOk [(9, [])] 0 [] [9, 8, 7, 6, 5, 4, 3, 2, 1, 0] rfl (by kernel_rfl) (fun cx => ?_)
            exact AT.done [26, 25, 24, 23, 22, 21, 20, 19, 18, 17, 14, 13, 12, 11, 5, 4, 0, 1] [] _ (by kernel_rfl) (by kernel_rfl) rfl
          · refine Tr.to ⟨27, 0, [(26, .val false [.lit (.bool (!r5))]), (25, .val false [.lit (.bool r5)]), (24, .val true (Fent.row v4)), (23, .fad ((Fent.row v4))), (22, .val false [.lit (.int .i64 y1)]), (21, .val false [.sl false 5 (CV.frzEs (x1.map Fent.row))]), (20, .val true (Fent.row v3)), (19, .fad ((Fent.row v3))), (18, .val false [.lit (.int .i64 y1)]), (17, .val false [.sl false 5 (CV.frzEs (x0.map Fent.row))]), (14, .val false [.lit (.bool true)]), (13, .val false [.lit (.int .i64 (x0.length : Int))]), (12, .val false [.sl false 5 (CV.frzEs (x0.map Fent.row))]), (11, .val false [.lit (.int .i64 y1)]), (5, .val false [.lit (.int .i64 y1)]), (4, .val false [.lit (.bool false)]), (0, .val false [.sl false 5 (CV.frzEs (x0.map Fent.row))]), (1, .val false [.sl false 5 (CV.frzEs (x1.map Fent.row))])], []⟩ (by kernel_rfl) ?_
            cases h3 : (!r5)
            · have H := bifF h3 H
              refine Tr.cond (b := false) (by kernel_rfl) (fun h => nomatch h) (fun _ => ?_)
              refine Tr.skip ?_
              show Tr _ _ _ _ _
              refine Tr.at ?_
              refine LAt.runU tOk 3 (by kernel_rfl) ?_
              refine LAt.doneU [5, 16, 15, 26, 25, 24, 23, 22, 21, 20, 19, 18, 17, 14, 13, 12, 11, 4, 0, 1] [] (by kernel_rfl) ?_
              exact Exists.intro (mo2, (IntKind.wrap .i64 (y1 + 1))) (And.intro H (And.intro (Nat.lt_succ_self mo2) (St.sub_of [5, 4, 0, 1] [] (by kernel_rfl))))
            · have H := bifT h3 H
              refine Tr.cond (b := true) (by kernel_rfl) (fun _ => ?_) (fun h => nomatch h)
              refine Tr.rs ?_
              refine LAt.runU tOk 1 (by kernel_rfl) ?_
              refine LAt.doneU [4, 26, 25, 24, 23, 22, 21, 20, 19, 18, 17, 14, 13, 12, 11, 5, 0, 1] [] (by kernel_rfl) ?_
              refine Tr.ret ?_
              have H := Option.some.inj H
              subst H
              have H := Ho2
              dsimp only at H
              have H := Option.some.inj H
              subst H
              exact Fin.of _ [(false, [.lit (.bool false)])] (by kernel_rfl) rfl rfl
    · rintro _ H
      have H : (laws_eqFentS_J1 n) = some r := H
      unfold laws_eqFentS_J1 at H
      show Tr _ _ _ _ _
      refine Tr.rs ?_
      refine LAt.runU tOk 1 (by kernel_rfl) ?_
      refine LAt.doneU [4] [] (by kernel_rfl) ?_
      refine Tr.ret ?_
      have H := Option.some.inj H
      subst H
      exact Fin.of _ [(false, [.lit (.bool true)])] (by kernel_rfl) rfl rfl
  · have H := bifT h1 H
    refine Tr.cond (b := true) (by kernel_rfl) (fun _ => ?_) (fun h => nomatch h)
    refine Tr.rs ?_
    refine LAt.runU tOk 1 (by kernel_rfl) ?_
    refine LAt.doneU [4, 0, 1] [] (by kernel_rfl) ?_
    refine Tr.ret ?_
    have H := Option.some.inj H
    subst H
    exact Fin.of _ [(false, [.lit (.bool false)])] (by kernel_rfl) rfl rfl

def laws_eqVrowF (n : Nat) (x0 : Vrow) (x1 : Vrow) : Option (Bool) :=
  (bif (x0.Id != x1.Id) then (some false) else (bif (x0.Members != x1.Members) then (some false) else (bif (x0.Bare != x1.Bare) then (some false) else (some true))))
/-- loop.example/g00326/laws.eqVrow -/
theorem laws_eqVrow (n : Nat) (x0 : Vrow) (x1 : Vrow) (r : Bool) (H : laws_eqVrowF n x0 x1 = some r) : LCall Try.prog 147 [.val true (CV.frzRow (Vrow.row x0)), .val true (CV.frzRow (Vrow.row x1))] [.val false [.lit (.bool r)]] [] := by
  refine LCall.of_body tOk Try.func147 rfl (c := (.seq (.region 0 (rg Try.f147 0) false) (.seq (.seq (.region 1 (rg Try.f147 1) false) (.cond (.tmp 9) (.seq (.region 2 (rg Try.f147 2) false) .ret) .skip)) (.seq (.seq (.region 3 (rg Try.f147 3) false) (.cond (.tmp 14) (.seq (.region 4 (rg Try.f147 4) false) .ret) .skip)) (.seq (.seq (.region 5 (rg Try.f147 5) false) (.cond (.tmp 19) (.seq (.region 6 (rg Try.f147 6) false) .ret) .skip)) (.seq (.region 7 (rg Try.f147 7) false) .ret)))))) (by kernel_rfl) (Nat.le_of_ble_eq_true (by kernel_rfl)) 0 (rs := [.tmp 4]) rfl [] .nil [(false, [.lit (.bool r)])] [] [] fun cx => ?_
  show Tr _ _ _ ⟨20, 0, [(0, .val true (Vrow.row x0)), (1, .val true (Vrow.row x1))], []⟩ _
  unfold laws_eqVrowF at H
  refine Tr.rs ?_
  refine LAt.runU tOk 3 (by kernel_rfl) ?_
  refine LAt.doneU [4, 3, 2] [3, 2] (by kernel_rfl) ?_
  refine Tr.seq ?_
  refine Tr.rs ?_
  refine LAt.runU tOk 5 (by kernel_rfl) ?_
  refine LAt.doneU [9, 4, 3, 2] [3, 2] (by kernel_rfl) ?_
  refine Tr.to ⟨20, 0, [(9, .val false [.lit (.bool (x0.Id != x1.Id))]), (4, .val false [.lit (.bool false)]), (3, .adr (.box 3) [(0, 0)] 3 0), (2, .adr (.box 2) [(0, 0)] 3 0)], [(3, (Vrow.row x1)), (2, (Vrow.row x0))]⟩ (by kernel_rfl) ?_
  cases h1 : (x0.Id != x1.Id)
  · have H := bifF h1 H
    refine Tr.cond (b := false) (by kernel_rfl) (fun h => nomatch h) (fun _ => ?_)
    refine Tr.skip ?_
    show Tr _ _ _ _ _
    refine Tr.seq ?_
    refine Tr.rs ?_
    refine LAt.runU tOk 5 (by kernel_rfl) ?_
    refine LAt.doneU [14, 4, 3, 2] [3, 2] (by kernel_rfl) ?_
    refine Tr.to ⟨20, 0, [(14, .val false [.lit (.bool (x0.Members != x1.Members))]), (4, .val false [.lit (.bool false)]), (3, .adr (.box 3) [(0, 0)] 3 0), (2, .adr (.box 2) [(0, 0)] 3 0)], [(3, (Vrow.row x1)), (2, (Vrow.row x0))]⟩ (by kernel_rfl) ?_
    cases h2 : (x0.Members != x1.Members)
    · have H := bifF h2 H
      refine Tr.cond (b := false) (by kernel_rfl) (fun h => nomatch h) (fun _ => ?_)
      refine Tr.skip ?_
      show Tr _ _ _ _ _
      refine Tr.seq ?_
      refine Tr.rs ?_
      refine LAt.runU tOk 5 (by kernel_rfl) ?_
      refine LAt.doneU [19, 4] [] (by kernel_rfl) ?_
      refine Tr.to ⟨20, 0, [(19, .val false [.lit (.bool (x0.Bare != x1.Bare))]), (4, .val false [.lit (.bool false)])], []⟩ (by kernel_rfl) ?_
      cases h3 : (x0.Bare != x1.Bare)
      · have H := bifF h3 H
        refine Tr.cond (b := false) (by kernel_rfl) (fun h => nomatch h) (fun _ => ?_)
        refine Tr.skip ?_
        show Tr _ _ _ _ _
        refine Tr.rs ?_
        refine LAt.runU tOk 1 (by kernel_rfl) ?_
        refine LAt.doneU [4] [] (by kernel_rfl) ?_
        refine Tr.ret ?_
        have H := Option.some.inj H
        subst H
        exact Fin.of _ [(false, [.lit (.bool true)])] (by kernel_rfl) rfl rfl
      · have H := bifT h3 H
        refine Tr.cond (b := true) (by kernel_rfl) (fun _ => ?_) (fun h => nomatch h)
        refine Tr.rs ?_
        refine LAt.runU tOk 1 (by kernel_rfl) ?_
        refine LAt.doneU [4] [] (by kernel_rfl) ?_
        refine Tr.ret ?_
        have H := Option.some.inj H
        subst H
        exact Fin.of _ [(false, [.lit (.bool false)])] (by kernel_rfl) rfl rfl
    · have H := bifT h2 H
      refine Tr.cond (b := true) (by kernel_rfl) (fun _ => ?_) (fun h => nomatch h)
      refine Tr.rs ?_
      refine LAt.runU tOk 1 (by kernel_rfl) ?_
      refine LAt.doneU [4, 3, 2] [3, 2] (by kernel_rfl) ?_
      refine Tr.ret ?_
      have H := Option.some.inj H
      subst H
      exact Fin.of _ [(false, [.lit (.bool false)])] (by kernel_rfl) rfl rfl
  · have H := bifT h1 H
    refine Tr.cond (b := true) (by kernel_rfl) (fun _ => ?_) (fun h => nomatch h)
    refine Tr.rs ?_
    refine LAt.runU tOk 1 (by kernel_rfl) ?_
    refine LAt.doneU [4, 3, 2] [3, 2] (by kernel_rfl) ?_
    refine Tr.ret ?_
    have H := Option.some.inj H
    subst H
    exact Fin.of _ [(false, [.lit (.bool false)])] (by kernel_rfl) rfl rfl

def laws_eqVrowS_J1 (n : Nat) : Option (Bool) :=
  (some true)
def laws_eqVrowS_L2 (n : Nat) : Nat → (List Vrow) → (List Vrow) → Int → Option ((Unit) ⊕ (Bool))
  | 0, _, _, _ => none
  | mo2 + 1, x0, x1, y1 => (bif (decide (y1 < (x0.length : Int))) then ((idx x0 y1).bind fun v3 => ((idx x1 y1).bind fun v4 => ((laws_eqVrowF n v3 v4).bind fun r5 => (bif (!r5) then (some (Sum.inr false)) else (laws_eqVrowS_L2 n mo2 x0 x1 (IntKind.wrap .i64 (y1 + 1))))))) else (some (Sum.inl ())))
def laws_eqVrowSF (n : Nat) (x0 : (List Vrow)) (x1 : (List Vrow)) : Option (Bool) :=
  (bif ((x0.length : Int) != (x1.length : Int)) then (some false) else ((laws_eqVrowS_L2 n n x0 x1 0).bind fun o => match o with | .inl _ => (laws_eqVrowS_J1 n) | .inr r => some r))
/-- loop.example/g00326/laws.eqVrowS -/
theorem laws_eqVrowS (n : Nat) (x0 : (List Vrow)) (x1 : (List Vrow)) (r : Bool) (H : laws_eqVrowSF n x0 x1 = some r) : LCall Try.prog 84 [.val false [.sl false 3 (CV.frzEs (x0.map Vrow.row))], .val false [.sl false 3 (CV.frzEs (x1.map Vrow.row))]] [.val false [.lit (.bool r)]] [] := by
  refine LCall.of_body tOk Try.func84 rfl (c := (.seq (.region 0 (rg Try.f84 0) false) (.seq (.seq (.region 1 (rg Try.f84 1) false) (.cond (.tmp 10) (.seq (.region 2 (rg Try.f84 2) false) .ret) .skip)) (.seq (.seq (.region 3 (rg Try.f84 3) false) (.block 0 (.loop (.seq (.seq (.region 4 (rg Try.f84 4) false) (.cond (.tmp 14) .skip (.exit 0))) (.seq (.block 1 (.seq (.region 6 (rg Try.f84 6) true) (.cond (.tmp 26) (.seq (.region 7 (rg Try.f84 7) false) .ret) .skip))) (.region 5 (rg Try.f84 5) false)))))) (.seq (.region 8 (rg Try.f84 8) false) .ret))))) (by kernel_rfl) (Nat.le_of_ble_eq_true (by kernel_rfl)) 0 (rs := [.tmp 4]) rfl [] .nil [(false, [.lit (.bool r)])] [] [] fun cx => ?_
  show Tr _ _ _ ⟨27, 0, [(0, .val false [.sl false 3 (CV.frzEs (x0.map Vrow.row))]), (1, .val false [.sl false 3 (CV.frzEs (x1.map Vrow.row))])], []⟩ _
  unfold laws_eqVrowSF at H
  refine Tr.rs ?_
  refine LAt.runU tOk 1 (by kernel_rfl) ?_
  refine LAt.doneU [4, 0, 1] [] (by kernel_rfl) ?_
  refine Tr.seq ?_
  refine Tr.rs ?_
  refine LAt.runU tOk 1 (by kernel_rfl) ?_
  refine LAt.lenE tOk (t := 27) (ty := 3) (e := 56) (x := (.tmp 6)) (d := 7) (g := none) ⟨(.slot 6), [], 0, false, 3, (CV.frzEs (x0.map Vrow.row))⟩ (x0).length _ (by kernel_rfl) (by kernel_rfl) (by kernel_rfl) (by kernel_rfl) (by kernel_rfl) (frz_len _ _) rfl ?_
  refine LAt.runU tOk 1 (by kernel_rfl) ?_
  refine LAt.lenE tOk (t := 27) (ty := 3) (e := 56) (x := (.tmp 8)) (d := 9) (g := none) ⟨(.slot 8), [], 0, false, 3, (CV.frzEs (x1.map Vrow.row))⟩ (x1).length _ (by kernel_rfl) (by kernel_rfl) (by kernel_rfl) (by kernel_rfl) (by kernel_rfl) (frz_len _ _) rfl ?_
  refine LAt.runU tOk 1 (by kernel_rfl) ?_
  refine LAt.doneU [10, 4, 0, 1] [] (by kernel_rfl) ?_
  refine Tr.to ⟨27, 0, [(10, .val false [.lit (.bool ((x0.length : Int) != (x1.length : Int)))]), (4, .val false [.lit (.bool false)]), (0, .val false [.sl false 3 (CV.frzEs (x0.map Vrow.row))]), (1, .val false [.sl false 3 (CV.frzEs (x1.map Vrow.row))])], []⟩ (by kernel_rfl) ?_
  cases h1 : ((x0.length : Int) != (x1.length : Int))
  · have H := bifF h1 H
    refine Tr.cond (b := false) (by kernel_rfl) (fun h => nomatch h) (fun _ => ?_)
    refine Tr.skip ?_
    show Tr _ _ _ _ _
    refine Tr.seq ?_
    refine Tr.rs ?_
    refine LAt.runU tOk 1 (by kernel_rfl) ?_
    refine LAt.doneU [5, 4, 0, 1] [] (by kernel_rfl) ?_
    obtain ⟨o2, eo2, Ho2⟩ := bind_some H
    clear H
    refine Tr.mid (ι := Unit) (fun v => ⟨27, 0, [(4, .val false [.lit (.bool false)])], []⟩) (fun v => laws_eqVrowS_J1 n = some r) ?_ ?_
    · refine Tr.block ?_
      refine Tr.loop (ι := Nat × (Int)) (fun v => ⟨27, 0, [(5, .val false [.lit (.int .i64 v.2)]), (4, .val false [.lit (.bool false)]), (0, .val false [.sl false 3 (CV.frzEs (x0.map Vrow.row))]), (1, .val false [.sl false 3 (CV.frzEs (x1.map Vrow.row))])], []⟩) (fun v => laws_eqVrowS_L2 n v.1 x0 x1 v.2 = some o2) (fun v => v.1) (n, 0) eo2 (St.sub_of [5, 4, 0, 1] [] (by kernel_rfl)) ?_
      rintro ⟨mo2, y1⟩ H
      have H : laws_eqVrowS_L2 n mo2 x0 x1 y1 = some o2 := H
      obtain _ | mo2 := mo2
      · cases (show (none : Option _) = some o2 from H)
      · rw [laws_eqVrowS_L2] at H
        refine Tr.seq ?_
        refine Tr.rs ?_
        refine LAt.runU tOk 2 (by kernel_rfl) ?_
        refine LAt.lenE tOk (t := 27) (ty := 3) (e := 56) (x := (.tmp 12)) (d := 13) (g := none) ⟨(.slot 12), [], 0, false, 3, (CV.frzEs (x0.map Vrow.row))⟩ (x0).length _ (by kernel_rfl) (by kernel_rfl) (by kernel_rfl) (by kernel_rfl) (by kernel_rfl) (frz_len _ _) rfl ?_
        refine LAt.runU tOk 1 (by kernel_rfl) ?_
        refine LAt.doneU [14, 13, 12, 11, 5, 4, 0, 1] [] (by kernel_rfl) ?_
        refine Tr.to ⟨27, 0, [(14, .val false [.lit (.bool (decide (y1 < (x0.length : Int))))]), (13, .val false [.lit (.int .i64 (x0.length : Int))]), (12, .val false [.sl false 3 (CV.frzEs (x0.map Vrow.row))]), (11, .val false [.lit (.int .i64 y1)]), (5, .val false [.lit (.int .i64 y1)]), (4, .val false [.lit (.bool false)]), (0, .val false [.sl false 3 (CV.frzEs (x0.map Vrow.row))]), (1, .val false [.sl false 3 (CV.frzEs (x1.map Vrow.row))])], []⟩ (by kernel_rfl) ?_
        cases h2 : (decide (y1 < (x0.length : Int)))
        · have H := bifF h2 H
          refine Tr.cond (b := false) (by kernel_rfl) (fun h => nomatch h) (fun _ => ?_)
          refine Tr.exit ?_
          refine And.intro (fun _ => ?_) (fun h => absurd rfl h)
          have H := Option.some.inj H
          subst H
          have H := Ho2
          dsimp only at H
          exact Exists.intro () (And.intro H (St.sub_of [4] [] (by kernel_rfl)))
        · have H := bifT h2 H
          refine Tr.cond (b := true) (by kernel_rfl) (fun _ => ?_) (fun h => nomatch h)
          refine Tr.skip ?_
          show Tr _ _ _ _ _
          refine Tr.seq ?_
          refine Tr.block ?_
          obtain ⟨v3, ev3, H⟩ := bind_some H
          obtain ⟨v4, ev4, H⟩ := bind_some H
          obtain ⟨r5, er5, H⟩ := bind_some H
          refine Tr.draws mixed 10 (by kernel_rfl) ⟨27, 0, [(26, .val false [.lit (.bool (!r5))]), (25, .val false [.lit (.bool r5)]), (24, .val true (Vrow.row v4)), (23, .fad ((Vrow.row v4))), (22, .val false [.lit (.int .i64 y1)]), (21, .val false [.sl false 3 (CV.frzEs (x1.map Vrow.row))]), (20, .val true (Vrow.row v3)), (19, .fad ((Vrow.row v3))), (18, .val false [.lit (.int .i64 y1)]), (17, .val false [.sl false 3 (CV.frzEs (x0.map Vrow.row))]), (14, .val false [.lit (.bool true)]), (13, .val false [.lit (.int .i64 (x0.length : Int))]), (12, .val false [.sl false 3 (CV.frzEs (x0.map Vrow.row))]), (11, .val false [.lit (.int .i64 y1)]), (5, .val false [.lit (.int .i64 y1)]), (4, .val false [.lit (.bool false)]), (0, .val false [.sl false 3 (CV.frzEs (x0.map Vrow.row))]), (1, .val false [.sl false 3 (CV.frzEs (x1.map Vrow.row))])], []⟩ (fun cx => ?_) ?_
          · refine AT.runU tOk [(0, []), (1, [])] 8 [] [1, 0] rfl (by kernel_rfl) (fun cx => ?_)
            refine AT.indexF tOk 2 (t := 27) (ty := 0) (x := (.tmp 17)) (y := (.tmp 18)) (d := 19) (g := none) ⟨(.slot 17), [], 0, false, 3, (CV.frzEs (x0.map Vrow.row))⟩ y1 (Vrow.row v3) _ (by kernel_rfl) (by kernel_rfl) (by kernel_rfl) (by kernel_rfl) (by kernel_rfl) (by kernel_rfl) rfl (idx_isF ev3) rfl (fun cx => ?_)
            refine AT.runU tOk [(3, []), (4, []), (5, [])] 4 [] [5, 4, 3, 2, 1, 0] rfl (by kernel_rfl) (fun cx => ?_)
            refine AT.indexF tOk 6 (t := 27) (ty := 0) (x := (.tmp 21)) (y := (.tmp 22)) (d := 23) (g := none) ⟨(.slot 21), [], 0, false, 3, (CV.frzEs (x1.map Vrow.row))⟩ y1 (Vrow.row v4) _ (by kernel_rfl) (by kernel_rfl) (by kernel_rfl) (by kernel_rfl) (by kernel_rfl) (by kernel_rfl) rfl (idx_isF ev4) rfl (fun cx => ?_)
            refine AT.runU tOk [(7, [])] 2 [] [7, 6, 5, 4, 3, 2, 1, 0] rfl (by kernel_rfl) (fun cx => ?_)
            refine AT.big1 tOk 8 (by kernel_rfl) (by kernel_rfl) ?_
            refine LAt.callU tOk [.rd, .rd] (f := 147) (av := #[.tmp 20, .tmp 24]) (ats := #[56, 56]) (d := (some 25)) (ty := 4) (g := none) (by kernel_rfl) (by kernel_rfl) (by kernel_rfl) [] (laws_eqVrow n v3 v4 r5 er5) (by kernel_rfl) (.inl rfl) ?_
            refine LAt.fin (by kernel_rfl) (And.intro (And.intro (by kernel_rfl) (by kernel_rfl)) ?_)
            refine AT.runU tOk [(9, [])] 0 [] [9, 8, 7, 6, 5, 4, 3, 2, 1, 0] rfl (by kernel_rfl) (fun cx => ?_)
            exact AT.done [26, 25, 24, 23, 22, 21, 20, 19, 18, 17, 14, 13, 12, 11, 5, 4, 0, 1] [] _ (by kernel_rfl) (by kernel_rfl) rfl
          · refine Tr.to ⟨27, 0, [(26, .val false [.lit (.bool (!r5))]), (25, .val false [.lit (.bool r5)]), (24, .val true (Vrow.row v4)), (23, .fad ((Vrow.row v4))), (22, .val false [.lit (.int .i64 y1)]), (21, .val false [.sl false 3 (CV.frzEs (x1.map Vrow.row))]), (20, .val true (Vrow.row v3)), (19, .fad ((Vrow.row v3))), (18, .val false [.lit (.int .i64 y1)]), (17, .val false [.sl false 3 (CV.frzEs (x0.map Vrow.row))]), (14, .val false [.lit (.bool true)]), (13, .val false [.lit (.int .i64 (x0.length : Int))]), (12, .val false [.sl false 3 (CV.frzEs (x0.map Vrow.row))]), (11, .val false [.lit (.int .i64 y1)]), (5, .val false [.lit (.int .i64 y1)]), (4, .val false [.lit (.bool false)]), (0, .val false [.sl false 3 (CV.frzEs (x0.map Vrow.row))]), (1, .val false [.sl false 3 (CV.frzEs (x1.map Vrow.row))])], []⟩ (by kernel_rfl) ?_
            cases h3 : (!r5)
            · have H := bifF h3 H
              refine Tr.cond (b := false) (by kernel_rfl) (fun h => nomatch h) (fun _ => ?_)
              refine Tr.skip ?_
              show Tr _ _ _ _ _
              refine Tr.at ?_
              refine LAt.runU tOk 3 (by kernel_rfl) ?_
              refine LAt.doneU [5, 16, 15, 26, 25, 24, 23, 22, 21, 20, 19, 18, 17, 14, 13, 12, 11, 4, 0, 1] [] (by kernel_rfl) ?_
              exact Exists.intro (mo2, (IntKind.wrap .i64 (y1 + 1))) (And.intro H (And.intro (Nat.lt_succ_self mo2) (St.sub_of [5, 4, 0, 1] [] (by kernel_rfl))))
            · have H := bifT h3 H
              refine Tr.cond (b := true) (by kernel_rfl) (fun _ => ?_) (fun h => nomatch h)
              refine Tr.rs ?_
              refine LAt.runU tOk 1 (by kernel_rfl) ?_
              refine LAt.doneU [4, 26, 25, 24, 23, 22, 21, 20, 19, 18, 17, 14, 13, 12, 11, 5, 0, 1] [] (by kernel_rfl) ?_
              refine Tr.ret ?_
              have H := Option.some.inj H
              subst H
              have H := Ho2
              dsimp only at H
              have H := Option.some.inj H
              subst H
              exact Fin.of _ [(false, [.lit (.bool false)])] (by kernel_rfl) rfl rfl
    · rintro _ H
      have H : (laws_eqVrowS_J1 n) = some r := H
      unfold laws_eqVrowS_J1 at H
      show Tr _ _ _ _ _
      refine Tr.rs ?_
      refine LAt.runU tOk 1 (by kernel_rfl) ?_
      refine LAt.doneU [4] [] (by kernel_rfl) ?_
      refine Tr.ret ?_
      have H := Option.some.inj H
      subst H
      exact Fin.of _ [(false, [.lit (.bool true)])] (by kernel_rfl) rfl rfl
  · have H := bifT h1 H
    refine Tr.cond (b := true) (by kernel_rfl) (fun _ => ?_) (fun h => nomatch h)
    refine Tr.rs ?_
    refine LAt.runU tOk 1 (by kernel_rfl) ?_
    refine LAt.doneU [4, 0, 1] [] (by kernel_rfl) ?_
    refine Tr.ret ?_
    have H := Option.some.inj H
    subst H
    exact Fin.of _ [(false, [.lit (.bool false)])] (by kernel_rfl) rfl rfl

def laws_eqIntS_J1 (n : Nat) : Option (Bool) :=
  (some true)
def laws_eqIntS_L2 (n : Nat) : Nat → (List Int) → (List Int) → Int → Option ((Unit) ⊕ (Bool))
  | 0, _, _, _ => none
  | mo2 + 1, x0, x1, y1 => (bif (decide (y1 < (x0.length : Int))) then ((idx x0 y1).bind fun v3 => ((idx x1 y1).bind fun v4 => (bif (v3 != v4) then (some (Sum.inr false)) else (laws_eqIntS_L2 n mo2 x0 x1 (IntKind.wrap .i64 (y1 + 1)))))) else (some (Sum.inl ())))
def laws_eqIntSF (n : Nat) (x0 : (List Int)) (x1 : (List Int)) : Option (Bool) :=
  (bif ((x0.length : Int) != (x1.length : Int)) then (some false) else ((laws_eqIntS_L2 n n x0 x1 0).bind fun o => match o with | .inl _ => (laws_eqIntS_J1 n) | .inr r => some r))
/-- loop.example/g00326/laws.eqIntS -/
theorem laws_eqIntS (n : Nat) (x0 : (List Int)) (x1 : (List Int)) (r : Bool) (H : laws_eqIntSF n x0 x1 = some r) : LCall Try.prog 85 [.val false [.sl false 1 (CV.frzEs (x0.map intRow))], .val false [.sl false 1 (CV.frzEs (x1.map intRow))]] [.val false [.lit (.bool r)]] [] := by
  refine LCall.of_body tOk Try.func85 rfl (c := (.seq (.region 0 (rg Try.f85 0) false) (.seq (.seq (.region 1 (rg Try.f85 1) false) (.cond (.tmp 10) (.seq (.region 2 (rg Try.f85 2) false) .ret) .skip)) (.seq (.seq (.region 3 (rg Try.f85 3) false) (.block 0 (.loop (.seq (.seq (.region 4 (rg Try.f85 4) false) (.cond (.tmp 14) .skip (.exit 0))) (.seq (.block 1 (.seq (.region 6 (rg Try.f85 6) true) (.cond (.tmp 25) (.seq (.region 7 (rg Try.f85 7) false) .ret) .skip))) (.region 5 (rg Try.f85 5) false)))))) (.seq (.region 8 (rg Try.f85 8) false) .ret))))) (by kernel_rfl) (Nat.le_of_ble_eq_true (by kernel_rfl)) 0 (rs := [.tmp 4]) rfl [] .nil [(false, [.lit (.bool r)])] [] [] fun cx => ?_
  show Tr _ _ _ ⟨26, 0, [(0, .val false [.sl false 1 (CV.frzEs (x0.map intRow))]), (1, .val false [.sl false 1 (CV.frzEs (x1.map intRow))])], []⟩ _
  unfold laws_eqIntSF at H
  refine Tr.rs ?_
  refine LAt.runU tOk 1 (by kernel_rfl) ?_
  refine LAt.doneU [4, 0, 1] [] (by kernel_rfl) ?_
  refine Tr.seq ?_
  refine Tr.rs ?_
  refine LAt.runU tOk 1 (by kernel_rfl) ?_
  refine LAt.lenE tOk (t := 23) (ty := 3) (e := 3) (x := (.tmp 6)) (d := 7) (g := none) ⟨(.slot 6), [], 0, false, 1, (CV.frzEs (x0.map intRow))⟩ (x0).length _ (by kernel_rfl) (by kernel_rfl) (by kernel_rfl) (by kernel_rfl) (by kernel_rfl) (frz_len _ _) rfl ?_
  refine LAt.runU tOk 1 (by kernel_rfl) ?_
  refine LAt.lenE tOk (t := 23) (ty := 3) (e := 3) (x := (.tmp 8)) (d := 9) (g := none) ⟨(.slot 8), [], 0, false, 1, (CV.frzEs (x1.map intRow))⟩ (x1).length _ (by kernel_rfl) (by kernel_rfl) (by kernel_rfl) (by kernel_rfl) (by kernel_rfl) (frz_len _ _) rfl ?_
  refine LAt.runU tOk 1 (by kernel_rfl) ?_
  refine LAt.doneU [10, 4, 0, 1] [] (by kernel_rfl) ?_
  refine Tr.to ⟨26, 0, [(10, .val false [.lit (.bool ((x0.length : Int) != (x1.length : Int)))]), (4, .val false [.lit (.bool false)]), (0, .val false [.sl false 1 (CV.frzEs (x0.map intRow))]), (1, .val false [.sl false 1 (CV.frzEs (x1.map intRow))])], []⟩ (by kernel_rfl) ?_
  cases h1 : ((x0.length : Int) != (x1.length : Int))
  · have H := bifF h1 H
    refine Tr.cond (b := false) (by kernel_rfl) (fun h => nomatch h) (fun _ => ?_)
    refine Tr.skip ?_
    show Tr _ _ _ _ _
    refine Tr.seq ?_
    refine Tr.rs ?_
    refine LAt.runU tOk 1 (by kernel_rfl) ?_
    refine LAt.doneU [5, 4, 0, 1] [] (by kernel_rfl) ?_
    obtain ⟨o2, eo2, Ho2⟩ := bind_some H
    clear H
    refine Tr.mid (ι := Unit) (fun v => ⟨26, 0, [(4, .val false [.lit (.bool false)])], []⟩) (fun v => laws_eqIntS_J1 n = some r) ?_ ?_
    · refine Tr.block ?_
      refine Tr.loop (ι := Nat × (Int)) (fun v => ⟨26, 0, [(5, .val false [.lit (.int .i64 v.2)]), (4, .val false [.lit (.bool false)]), (0, .val false [.sl false 1 (CV.frzEs (x0.map intRow))]), (1, .val false [.sl false 1 (CV.frzEs (x1.map intRow))])], []⟩) (fun v => laws_eqIntS_L2 n v.1 x0 x1 v.2 = some o2) (fun v => v.1) (n, 0) eo2 (St.sub_of [5, 4, 0, 1] [] (by kernel_rfl)) ?_
      rintro ⟨mo2, y1⟩ H
      have H : laws_eqIntS_L2 n mo2 x0 x1 y1 = some o2 := H
      obtain _ | mo2 := mo2
      · cases (show (none : Option _) = some o2 from H)
      · rw [laws_eqIntS_L2] at H
        refine Tr.seq ?_
        refine Tr.rs ?_
        refine LAt.runU tOk 2 (by kernel_rfl) ?_
        refine LAt.lenE tOk (t := 23) (ty := 3) (e := 3) (x := (.tmp 12)) (d := 13) (g := none) ⟨(.slot 12), [], 0, false, 1, (CV.frzEs (x0.map intRow))⟩ (x0).length _ (by kernel_rfl) (by kernel_rfl) (by kernel_rfl) (by kernel_rfl) (by kernel_rfl) (frz_len _ _) rfl ?_
        refine LAt.runU tOk 1 (by kernel_rfl) ?_
        refine LAt.doneU [14, 13, 12, 11, 5, 4, 0, 1] [] (by kernel_rfl) ?_
        refine Tr.to ⟨26, 0, [(14, .val false [.lit (.bool (decide (y1 < (x0.length : Int))))]), (13, .val false [.lit (.int .i64 (x0.length : Int))]), (12, .val false [.sl false 1 (CV.frzEs (x0.map intRow))]), (11, .val false [.lit (.int .i64 y1)]), (5, .val false [.lit (.int .i64 y1)]), (4, .val false [.lit (.bool false)]), (0, .val false [.sl false 1 (CV.frzEs (x0.map intRow))]), (1, .val false [.sl false 1 (CV.frzEs (x1.map intRow))])], []⟩ (by kernel_rfl) ?_
        cases h2 : (decide (y1 < (x0.length : Int)))
        · have H := bifF h2 H
          refine Tr.cond (b := false) (by kernel_rfl) (fun h => nomatch h) (fun _ => ?_)
          refine Tr.exit ?_
          refine And.intro (fun _ => ?_) (fun h => absurd rfl h)
          have H := Option.some.inj H
          subst H
          have H := Ho2
          dsimp only at H
          exact Exists.intro () (And.intro H (St.sub_of [4] [] (by kernel_rfl)))
        · have H := bifT h2 H
          refine Tr.cond (b := true) (by kernel_rfl) (fun _ => ?_) (fun h => nomatch h)
          refine Tr.skip ?_
          show Tr _ _ _ _ _
          refine Tr.seq ?_
          refine Tr.block ?_
          obtain ⟨v3, ev3, H⟩ := bind_some H
          obtain ⟨v4, ev4, H⟩ := bind_some H
          refine Tr.draws mixed 9 (by kernel_rfl) ⟨26, 0, [(25, .val false [.lit (.bool (v3 != v4))]), (24, .val false [.lit (.int .i64 v4)]), (23, .fad ([.lit (.int .i64 v4)])), (22, .val false [.lit (.int .i64 y1)]), (21, .val false [.sl false 1 (CV.frzEs (x1.map intRow))]), (20, .val false [.lit (.int .i64 v3)]), (19, .fad ([.lit (.int .i64 v3)])), (18, .val false [.lit (.int .i64 y1)]), (17, .val false [.sl false 1 (CV.frzEs (x0.map intRow))]), (14, .val false [.lit (.bool true)]), (13, .val false [.lit (.int .i64 (x0.length : Int))]), (12, .val false [.sl false 1 (CV.frzEs (x0.map intRow))]), (11, .val false [.lit (.int .i64 y1)]), (5, .val false [.lit (.int .i64 y1)]), (4, .val false [.lit (.bool false)]), (0, .val false [.sl false 1 (CV.frzEs (x0.map intRow))]), (1, .val false [.sl false 1 (CV.frzEs (x1.map intRow))])], []⟩ (fun cx => ?_) ?_
          · refine AT.runU tOk [(0, []), (1, [])] 7 [] [1, 0] rfl (by kernel_rfl) (fun cx => ?_)
            refine AT.indexF tOk 2 (t := 23) (ty := 0) (x := (.tmp 17)) (y := (.tmp 18)) (d := 19) (g := none) ⟨(.slot 17), [], 0, false, 1, (CV.frzEs (x0.map intRow))⟩ y1 [.lit (.int .i64 v3)] _ (by kernel_rfl) (by kernel_rfl) (by kernel_rfl) (by kernel_rfl) (by kernel_rfl) (by kernel_rfl) rfl (idx_isF ev3) rfl (fun cx => ?_)
            refine AT.runU tOk [(3, []), (4, []), (5, [])] 3 [] [5, 4, 3, 2, 1, 0] rfl (by kernel_rfl) (fun cx => ?_)
            refine AT.indexF tOk 6 (t := 23) (ty := 0) (x := (.tmp 21)) (y := (.tmp 22)) (d := 23) (g := none) ⟨(.slot 21), [], 0, false, 1, (CV.frzEs (x1.map intRow))⟩ y1 [.lit (.int .i64 v4)] _ (by kernel_rfl) (by kernel_rfl) (by kernel_rfl) (by kernel_rfl) (by kernel_rfl) (by kernel_rfl) rfl (idx_isF ev4) rfl (fun cx => ?_)
            refine AT.runU tOk [(7, []), (8, [])] 0 [] [8, 7, 6, 5, 4, 3, 2, 1, 0] rfl (by kernel_rfl) (fun cx => ?_)
            exact AT.done [25, 24, 23, 22, 21, 20, 19, 18, 17, 14, 13, 12, 11, 5, 4, 0, 1] [] _ (by kernel_rfl) (by kernel_rfl) rfl
          · refine Tr.to ⟨26, 0, [(25, .val false [.lit (.bool (v3 != v4))]), (24, .val false [.lit (.int .i64 v4)]), (23, .fad ([.lit (.int .i64 v4)])), (22, .val false [.lit (.int .i64 y1)]), (21, .val false [.sl false 1 (CV.frzEs (x1.map intRow))]), (20, .val false [.lit (.int .i64 v3)]), (19, .fad ([.lit (.int .i64 v3)])), (18, .val false [.lit (.int .i64 y1)]), (17, .val false [.sl false 1 (CV.frzEs (x0.map intRow))]), (14, .val false [.lit (.bool true)]), (13, .val false [.lit (.int .i64 (x0.length : Int))]), (12, .val false [.sl false 1 (CV.frzEs (x0.map intRow))]), (11, .val false [.lit (.int .i64 y1)]), (5, .val false [.lit (.int .i64 y1)]), (4, .val false [.lit (.bool false)]), (0, .val false [.sl false 1 (CV.frzEs (x0.map intRow))]), (1, .val false [.sl false 1 (CV.frzEs (x1.map intRow))])], []⟩ (by kernel_rfl) ?_
            cases h3 : (v3 != v4)
            · have H := bifF h3 H
              refine Tr.cond (b := false) (by kernel_rfl) (fun h => nomatch h) (fun _ => ?_)
              refine Tr.skip ?_
              show Tr _ _ _ _ _
              refine Tr.at ?_
              refine LAt.runU tOk 3 (by kernel_rfl) ?_
              refine LAt.doneU [5, 16, 15, 25, 24, 23, 22, 21, 20, 19, 18, 17, 14, 13, 12, 11, 4, 0, 1] [] (by kernel_rfl) ?_
              exact Exists.intro (mo2, (IntKind.wrap .i64 (y1 + 1))) (And.intro H (And.intro (Nat.lt_succ_self mo2) (St.sub_of [5, 4, 0, 1] [] (by kernel_rfl))))
            · have H := bifT h3 H
              refine Tr.cond (b := true) (by kernel_rfl) (fun _ => ?_) (fun h => nomatch h)
              refine Tr.rs ?_
              refine LAt.runU tOk 1 (by kernel_rfl) ?_
              refine LAt.doneU [4, 25, 24, 23, 22, 21, 20, 19, 18, 17, 14, 13, 12, 11, 5, 0, 1] [] (by kernel_rfl) ?_
              refine Tr.ret ?_
              have H := Option.some.inj H
              subst H
              have H := Ho2
              dsimp only at H
              have H := Option.some.inj H
              subst H
              exact Fin.of _ [(false, [.lit (.bool false)])] (by kernel_rfl) rfl rfl
    · rintro _ H
      have H : (laws_eqIntS_J1 n) = some r := H
      unfold laws_eqIntS_J1 at H
      show Tr _ _ _ _ _
      refine Tr.rs ?_
      refine LAt.runU tOk 1 (by kernel_rfl) ?_
      refine LAt.doneU [4] [] (by kernel_rfl) ?_
      refine Tr.ret ?_
      have H := Option.some.inj H
      subst H
      exact Fin.of _ [(false, [.lit (.bool true)])] (by kernel_rfl) rfl rfl
  · have H := bifT h1 H
    refine Tr.cond (b := true) (by kernel_rfl) (fun _ => ?_) (fun h => nomatch h)
    refine Tr.rs ?_
    refine LAt.runU tOk 1 (by kernel_rfl) ?_
    refine LAt.doneU [4, 0, 1] [] (by kernel_rfl) ?_
    refine Tr.ret ?_
    have H := Option.some.inj H
    subst H
    exact Fin.of _ [(false, [.lit (.bool false)])] (by kernel_rfl) rfl rfl

def laws_eqVtabF (n : Nat) (x0 : Vtab) (x1 : Vtab) : Option (Bool) :=
  ((laws_eqVrowSF n x0.Rows x1.Rows).bind fun r1 => (bif (!r1) then (some false) else ((laws_eqIntSF n x0.Pvid x1.Pvid).bind fun r2 => (bif (!r2) then (some false) else (some true)))))
/-- loop.example/g00326/laws.eqVtab -/
theorem laws_eqVtab (n : Nat) (x0 : Vtab) (x1 : Vtab) (r : Bool) (H : laws_eqVtabF n x0 x1 = some r) : LCall Try.prog 19 [.val true (CV.frzRow (Vtab.row x0)), .val true (CV.frzRow (Vtab.row x1))] [.val false [.lit (.bool r)]] [] := by
  refine LCall.of_body tOk Try.func19 rfl (c := (.seq (.region 0 (rg Try.f19 0) false) (.seq (.seq (.region 1 (rg Try.f19 1) false) (.cond (.tmp 10) (.seq (.region 2 (rg Try.f19 2) false) .ret) .skip)) (.seq (.seq (.region 3 (rg Try.f19 3) false) (.cond (.tmp 16) (.seq (.region 4 (rg Try.f19 4) false) .ret) .skip)) (.seq (.region 5 (rg Try.f19 5) false) .ret))))) (by kernel_rfl) (Nat.le_of_ble_eq_true (by kernel_rfl)) 0 (rs := [.tmp 4]) rfl [] .nil [(false, [.lit (.bool r)])] [] [] fun cx => ?_
  show Tr _ _ _ ⟨17, 0, [(0, .val true (CV.frzRow (Vtab.row x0))), (1, .val true (CV.frzRow (Vtab.row x1)))], []⟩ _
  unfold laws_eqVtabF at H
  refine Tr.rs ?_
  refine LAt.runU tOk 3 (by kernel_rfl) ?_
  refine LAt.doneU [4, 3, 2] [3, 2] (by kernel_rfl) ?_
  refine Tr.seq ?_
  refine Tr.rs ?_
  refine LAt.runU tOk 4 (by kernel_rfl) ?_
  obtain ⟨r1, er1, H⟩ := bind_some H
  refine LAt.callU tOk [.rd, .rd] (f := 84) (av := #[.tmp 6, .tmp 8]) (ats := #[27, 27]) (d := (some 9)) (ty := 4) (g := none) (by kernel_rfl) (by kernel_rfl) (by kernel_rfl) [] (laws_eqVrowS n x0.Rows x1.Rows r1 er1) (by kernel_rfl) (.inl rfl) ?_
  refine LAt.runU tOk 1 (by kernel_rfl) ?_
  refine LAt.doneU [10, 4, 3, 2] [3, 2] (by kernel_rfl) ?_
  refine Tr.to ⟨17, 0, [(10, .val false [.lit (.bool (!r1))]), (4, .val false [.lit (.bool false)]), (3, .adr (.box 3) [(0, 0)] 2 0), (2, .adr (.box 2) [(0, 0)] 2 0)], [(3, (CV.frzRow (Vtab.row x1))), (2, (CV.frzRow (Vtab.row x0)))]⟩ (by kernel_rfl) ?_
  cases h1 : (!r1)
  · have H := bifF h1 H
    refine Tr.cond (b := false) (by kernel_rfl) (fun h => nomatch h) (fun _ => ?_)
    refine Tr.skip ?_
    show Tr _ _ _ _ _
    refine Tr.seq ?_
    refine Tr.rs ?_
    refine LAt.runU tOk 4 (by kernel_rfl) ?_
    obtain ⟨r2, er2, H⟩ := bind_some H
    refine LAt.callU tOk [.rd, .rd] (f := 85) (av := #[.tmp 12, .tmp 14]) (ats := #[23, 23]) (d := (some 15)) (ty := 4) (g := none) (by kernel_rfl) (by kernel_rfl) (by kernel_rfl) [] (laws_eqIntS n x0.Pvid x1.Pvid r2 er2) (by kernel_rfl) (.inl rfl) ?_
    refine LAt.runU tOk 1 (by kernel_rfl) ?_
    refine LAt.doneU [16, 4] [] (by kernel_rfl) ?_
    refine Tr.to ⟨17, 0, [(16, .val false [.lit (.bool (!r2))]), (4, .val false [.lit (.bool false)])], []⟩ (by kernel_rfl) ?_
    cases h2 : (!r2)
    · have H := bifF h2 H
      refine Tr.cond (b := false) (by kernel_rfl) (fun h => nomatch h) (fun _ => ?_)
      refine Tr.skip ?_
      show Tr _ _ _ _ _
      refine Tr.rs ?_
      refine LAt.runU tOk 1 (by kernel_rfl) ?_
      refine LAt.doneU [4] [] (by kernel_rfl) ?_
      refine Tr.ret ?_
      have H := Option.some.inj H
      subst H
      exact Fin.of _ [(false, [.lit (.bool true)])] (by kernel_rfl) rfl rfl
    · have H := bifT h2 H
      refine Tr.cond (b := true) (by kernel_rfl) (fun _ => ?_) (fun h => nomatch h)
      refine Tr.rs ?_
      refine LAt.runU tOk 1 (by kernel_rfl) ?_
      refine LAt.doneU [4] [] (by kernel_rfl) ?_
      refine Tr.ret ?_
      have H := Option.some.inj H
      subst H
      exact Fin.of _ [(false, [.lit (.bool false)])] (by kernel_rfl) rfl rfl
  · have H := bifT h1 H
    refine Tr.cond (b := true) (by kernel_rfl) (fun _ => ?_) (fun h => nomatch h)
    refine Tr.rs ?_
    refine LAt.runU tOk 1 (by kernel_rfl) ?_
    refine LAt.doneU [4, 3, 2] [3, 2] (by kernel_rfl) ?_
    refine Tr.ret ?_
    have H := Option.some.inj H
    subst H
    exact Fin.of _ [(false, [.lit (.bool false)])] (by kernel_rfl) rfl rfl

def laws_eqBridgeF (n : Nat) (x0 : Bridge) (x1 : Bridge) : Option (Bool) :=
  (bif (x0.Id != x1.Id) then (some false) else (bif (!(x0.Name.toList == x1.Name.toList)) then (some false) else ((laws_eqPtSF n x0.Ports x1.Ports).bind fun r1 => (bif (!r1) then (some false) else ((laws_eqFentSF n x0.F x1.F).bind fun r2 => (bif (!r2) then (some false) else ((laws_eqVtabF n x0.V x1.V).bind fun r3 => (bif (!r3) then (some false) else (bif (x0.Ticks != x1.Ticks) then (some false) else (bif (x0.Parse != x1.Parse) then (some false) else (bif (x0.Word != x1.Word) then (some false) else (bif (x0.Drops != x1.Drops) then (some false) else (bif (x0.Vers != x1.Vers) then (some false) else (some true))))))))))))))
/-- loop.example/g00326/laws.eqBridge -/
theorem laws_eqBridge (n : Nat) (x0 : Bridge) (x1 : Bridge) (r : Bool) (H : laws_eqBridgeF n x0 x1 = some r) : LCall Try.prog 55 [.val true (CV.frzRow (Bridge.row x0)), .val true (CV.frzRow (Bridge.row x1))] [.val false [.lit (.bool r)]] [] := by
  refine LCall.of_body tOk Try.func55 rfl (c := (.seq (.region 0 (rg Try.f55 0) false) (.seq (.seq (.region 1 (rg Try.f55 1) false) (.cond (.tmp 9) (.seq (.region 2 (rg Try.f55 2) false) .ret) .skip)) (.seq (.seq (.region 3 (rg Try.f55 3) false) (.cond (.tmp 14) (.seq (.region 4 (rg Try.f55 4) false) .ret) .skip)) (.seq (.seq (.region 5 (rg Try.f55 5) false) (.cond (.tmp 20) (.seq (.region 6 (rg Try.f55 6) false) .ret) .skip)) (.seq (.seq (.region 7 (rg Try.f55 7) false) (.cond (.tmp 26) (.seq (.region 8 (rg Try.f55 8) false) .ret) .skip)) (.seq (.seq (.region 9 (rg Try.f55 9) false) (.cond (.tmp 32) (.seq (.region 10 (rg Try.f55 10) false) .ret) .skip)) (.seq (.seq (.region 11 (rg Try.f55 11) false) (.cond (.tmp 37) (.seq (.region 12 (rg Try.f55 12) false) .ret) .skip)) (.seq (.seq (.region 13 (rg Try.f55 13) false) (.cond (.tmp 42) (.seq (.region 14 (rg Try.f55 14) false) .ret) .skip)) (.seq (.seq (.region 15 (rg Try.f55 15) false) (.cond (.tmp 47) (.seq (.region 16 (rg Try.f55 16) false) .ret) .skip)) (.seq (.seq (.region 17 (rg Try.f55 17) false) (.cond (.tmp 52) (.seq (.region 18 (rg Try.f55 18) false) .ret) .skip)) (.seq (.seq (.region 19 (rg Try.f55 19) false) (.cond (.tmp 57) (.seq (.region 20 (rg Try.f55 20) false) .ret) .skip)) (.seq (.region 21 (rg Try.f55 21) false) .ret))))))))))))) (by kernel_rfl) (Nat.le_of_ble_eq_true (by kernel_rfl)) 0 (rs := [.tmp 4]) rfl [] .nil [(false, [.lit (.bool r)])] [] [] fun cx => ?_
  show Tr _ _ _ ⟨58, 0, [(0, .val true (CV.frzRow (Bridge.row x0))), (1, .val true (CV.frzRow (Bridge.row x1)))], []⟩ _
  unfold laws_eqBridgeF at H
  refine Tr.rs ?_
  refine LAt.runU tOk 3 (by kernel_rfl) ?_
  refine LAt.doneU [4, 3, 2] [3, 2] (by kernel_rfl) ?_
  refine Tr.seq ?_
  refine Tr.rs ?_
  refine LAt.runU tOk 5 (by kernel_rfl) ?_
  refine LAt.doneU [9, 4, 3, 2] [3, 2] (by kernel_rfl) ?_
  refine Tr.to ⟨58, 0, [(9, .val false [.lit (.bool (x0.Id != x1.Id))]), (4, .val false [.lit (.bool false)]), (3, .adr (.box 3) [(0, 0)] 11 0), (2, .adr (.box 2) [(0, 0)] 11 0)], [(3, (CV.frzRow (Bridge.row x1))), (2, (CV.frzRow (Bridge.row x0)))]⟩ (by kernel_rfl) ?_
  cases h1 : (x0.Id != x1.Id)
  · have H := bifF h1 H
    refine Tr.cond (b := false) (by kernel_rfl) (fun h => nomatch h) (fun _ => ?_)
    refine Tr.skip ?_
    show Tr _ _ _ _ _
    refine Tr.seq ?_
    refine Tr.rs ?_
    refine LAt.runU tOk 5 (by kernel_rfl) ?_
    refine LAt.doneU [14, 4, 3, 2] [3, 2] (by kernel_rfl) ?_
    refine Tr.to ⟨58, 0, [(14, .val false [.lit (.bool (!(x0.Name.toList == x1.Name.toList)))]), (4, .val false [.lit (.bool false)]), (3, .adr (.box 3) [(0, 0)] 11 0), (2, .adr (.box 2) [(0, 0)] 11 0)], [(3, (CV.frzRow (Bridge.row x1))), (2, (CV.frzRow (Bridge.row x0)))]⟩ (by kernel_rfl) ?_
    cases h2 : (!(x0.Name.toList == x1.Name.toList))
    · have H := bifF h2 H
      refine Tr.cond (b := false) (by kernel_rfl) (fun h => nomatch h) (fun _ => ?_)
      refine Tr.skip ?_
      show Tr _ _ _ _ _
      refine Tr.seq ?_
      refine Tr.rs ?_
      refine LAt.runU tOk 4 (by kernel_rfl) ?_
      obtain ⟨r1, er1, H⟩ := bind_some H
      refine LAt.callU tOk [.rd, .rd] (f := 120) (av := #[.tmp 16, .tmp 18]) (ats := #[43, 43]) (d := (some 19)) (ty := 4) (g := none) (by kernel_rfl) (by kernel_rfl) (by kernel_rfl) [] (laws_eqPtS n x0.Ports x1.Ports r1 er1) (by kernel_rfl) (.inl rfl) ?_
      refine LAt.runU tOk 1 (by kernel_rfl) ?_
      refine LAt.doneU [20, 4, 3, 2] [3, 2] (by kernel_rfl) ?_
      refine Tr.to ⟨58, 0, [(20, .val false [.lit (.bool (!r1))]), (4, .val false [.lit (.bool false)]), (3, .adr (.box 3) [(0, 0)] 11 0), (2, .adr (.box 2) [(0, 0)] 11 0)], [(3, (CV.frzRow (Bridge.row x1))), (2, (CV.frzRow (Bridge.row x0)))]⟩ (by kernel_rfl) ?_
      cases h3 : (!r1)
      · have H := bifF h3 H
        refine Tr.cond (b := false) (by kernel_rfl) (fun h => nomatch h) (fun _ => ?_)
        refine Tr.skip ?_
        show Tr _ _ _ _ _
        refine Tr.seq ?_
        refine Tr.rs ?_
        refine LAt.runU tOk 4 (by kernel_rfl) ?_
        obtain ⟨r2, er2, H⟩ := bind_some H
        refine LAt.callU tOk [.rd, .rd] (f := 121) (av := #[.tmp 22, .tmp 24]) (ats := #[77, 77]) (d := (some 25)) (ty := 4) (g := none) (by kernel_rfl) (by kernel_rfl) (by kernel_rfl) [] (laws_eqFentS n x0.F x1.F r2 er2) (by kernel_rfl) (.inl rfl) ?_
        refine LAt.runU tOk 1 (by kernel_rfl) ?_
        refine LAt.doneU [26, 4, 3, 2] [3, 2] (by kernel_rfl) ?_
        refine Tr.to ⟨58, 0, [(26, .val false [.lit (.bool (!r2))]), (4, .val false [.lit (.bool false)]), (3, .adr (.box 3) [(0, 0)] 11 0), (2, .adr (.box 2) [(0, 0)] 11 0)], [(3, (CV.frzRow (Bridge.row x1))), (2, (CV.frzRow (Bridge.row x0)))]⟩ (by kernel_rfl) ?_
        cases h4 : (!r2)
        · have H := bifF h4 H
          refine Tr.cond (b := false) (by kernel_rfl) (fun h => nomatch h) (fun _ => ?_)
          refine Tr.skip ?_
          show Tr _ _ _ _ _
          refine Tr.seq ?_
          refine Tr.rs ?_
          refine LAt.runU tOk 4 (by kernel_rfl) ?_
          obtain ⟨r3, er3, H⟩ := bind_some H
          refine LAt.callU tOk [.rd, .rd] (f := 19) (av := #[.tmp 28, .tmp 30]) (ats := #[29, 29]) (d := (some 31)) (ty := 4) (g := none) (by kernel_rfl) (by kernel_rfl) (by kernel_rfl) [] (laws_eqVtab n x0.V x1.V r3 er3) (by kernel_rfl) (.inl rfl) ?_
          refine LAt.runU tOk 1 (by kernel_rfl) ?_
          refine LAt.doneU [32, 4, 3, 2] [3, 2] (by kernel_rfl) ?_
          refine Tr.to ⟨58, 0, [(32, .val false [.lit (.bool (!r3))]), (4, .val false [.lit (.bool false)]), (3, .adr (.box 3) [(0, 0)] 11 0), (2, .adr (.box 2) [(0, 0)] 11 0)], [(3, (CV.frzRow (Bridge.row x1))), (2, (CV.frzRow (Bridge.row x0)))]⟩ (by kernel_rfl) ?_
          cases h5 : (!r3)
          · have H := bifF h5 H
            refine Tr.cond (b := false) (by kernel_rfl) (fun h => nomatch h) (fun _ => ?_)
            refine Tr.skip ?_
            show Tr _ _ _ _ _
            refine Tr.seq ?_
            refine Tr.rs ?_
            refine LAt.runU tOk 5 (by kernel_rfl) ?_
            refine LAt.doneU [37, 4, 3, 2] [3, 2] (by kernel_rfl) ?_
            refine Tr.to ⟨58, 0, [(37, .val false [.lit (.bool (x0.Ticks != x1.Ticks))]), (4, .val false [.lit (.bool false)]), (3, .adr (.box 3) [(0, 0)] 11 0), (2, .adr (.box 2) [(0, 0)] 11 0)], [(3, (CV.frzRow (Bridge.row x1))), (2, (CV.frzRow (Bridge.row x0)))]⟩ (by kernel_rfl) ?_
            cases h6 : (x0.Ticks != x1.Ticks)
            · have H := bifF h6 H
              refine Tr.cond (b := false) (by kernel_rfl) (fun h => nomatch h) (fun _ => ?_)
              refine Tr.skip ?_
              show Tr _ _ _ _ _
              refine Tr.seq ?_
              refine Tr.rs ?_
              refine LAt.runU tOk 5 (by kernel_rfl) ?_
              refine LAt.doneU [42, 4, 3, 2] [3, 2] (by kernel_rfl) ?_
              refine Tr.to ⟨58, 0, [(42, .val false [.lit (.bool (x0.Parse != x1.Parse))]), (4, .val false [.lit (.bool false)]), (3, .adr (.box 3) [(0, 0)] 11 0), (2, .adr (.box 2) [(0, 0)] 11 0)], [(3, (CV.frzRow (Bridge.row x1))), (2, (CV.frzRow (Bridge.row x0)))]⟩ (by kernel_rfl) ?_
              cases h7 : (x0.Parse != x1.Parse)
              · have H := bifF h7 H
                refine Tr.cond (b := false) (by kernel_rfl) (fun h => nomatch h) (fun _ => ?_)
                refine Tr.skip ?_
                show Tr _ _ _ _ _
                refine Tr.seq ?_
                refine Tr.rs ?_
                refine LAt.runU tOk 5 (by kernel_rfl) ?_
                refine LAt.doneU [47, 4, 3, 2] [3, 2] (by kernel_rfl) ?_
                refine Tr.to ⟨58, 0, [(47, .val false [.lit (.bool (x0.Word != x1.Word))]), (4, .val false [.lit (.bool false)]), (3, .adr (.box 3) [(0, 0)] 11 0), (2, .adr (.box 2) [(0, 0)] 11 0)], [(3, (CV.frzRow (Bridge.row x1))), (2, (CV.frzRow (Bridge.row x0)))]⟩ (by kernel_rfl) ?_
                cases h8 : (x0.Word != x1.Word)
                · have H := bifF h8 H
                  refine Tr.cond (b := false) (by kernel_rfl) (fun h => nomatch h) (fun _ => ?_)
                  refine Tr.skip ?_
                  show Tr _ _ _ _ _
                  refine Tr.seq ?_
                  refine Tr.rs ?_
                  refine LAt.runU tOk 5 (by kernel_rfl) ?_
                  refine LAt.doneU [52, 4, 3, 2] [3, 2] (by kernel_rfl) ?_
                  refine Tr.to ⟨58, 0, [(52, .val false [.lit (.bool (x0.Drops != x1.Drops))]), (4, .val false [.lit (.bool false)]), (3, .adr (.box 3) [(0, 0)] 11 0), (2, .adr (.box 2) [(0, 0)] 11 0)], [(3, (CV.frzRow (Bridge.row x1))), (2, (CV.frzRow (Bridge.row x0)))]⟩ (by kernel_rfl) ?_
                  cases h9 : (x0.Drops != x1.Drops)
                  · have H := bifF h9 H
                    refine Tr.cond (b := false) (by kernel_rfl) (fun h => nomatch h) (fun _ => ?_)
                    refine Tr.skip ?_
                    show Tr _ _ _ _ _
                    refine Tr.seq ?_
                    refine Tr.rs ?_
                    refine LAt.runU tOk 5 (by kernel_rfl) ?_
                    refine LAt.doneU [57, 4] [] (by kernel_rfl) ?_
                    refine Tr.to ⟨58, 0, [(57, .val false [.lit (.bool (x0.Vers != x1.Vers))]), (4, .val false [.lit (.bool false)])], []⟩ (by kernel_rfl) ?_
                    cases h10 : (x0.Vers != x1.Vers)
                    · have H := bifF h10 H
                      refine Tr.cond (b := false) (by kernel_rfl) (fun h => nomatch h) (fun _ => ?_)
                      refine Tr.skip ?_
                      show Tr _ _ _ _ _
                      refine Tr.rs ?_
                      refine LAt.runU tOk 1 (by kernel_rfl) ?_
                      refine LAt.doneU [4] [] (by kernel_rfl) ?_
                      refine Tr.ret ?_
                      have H := Option.some.inj H
                      subst H
                      exact Fin.of _ [(false, [.lit (.bool true)])] (by kernel_rfl) rfl rfl
                    · have H := bifT h10 H
                      refine Tr.cond (b := true) (by kernel_rfl) (fun _ => ?_) (fun h => nomatch h)
                      refine Tr.rs ?_
                      refine LAt.runU tOk 1 (by kernel_rfl) ?_
                      refine LAt.doneU [4] [] (by kernel_rfl) ?_
                      refine Tr.ret ?_
                      have H := Option.some.inj H
                      subst H
                      exact Fin.of _ [(false, [.lit (.bool false)])] (by kernel_rfl) rfl rfl
                  · have H := bifT h9 H
                    refine Tr.cond (b := true) (by kernel_rfl) (fun _ => ?_) (fun h => nomatch h)
                    refine Tr.rs ?_
                    refine LAt.runU tOk 1 (by kernel_rfl) ?_
                    refine LAt.doneU [4, 3, 2] [3, 2] (by kernel_rfl) ?_
                    refine Tr.ret ?_
                    have H := Option.some.inj H
                    subst H
                    exact Fin.of _ [(false, [.lit (.bool false)])] (by kernel_rfl) rfl rfl
                · have H := bifT h8 H
                  refine Tr.cond (b := true) (by kernel_rfl) (fun _ => ?_) (fun h => nomatch h)
                  refine Tr.rs ?_
                  refine LAt.runU tOk 1 (by kernel_rfl) ?_
                  refine LAt.doneU [4, 3, 2] [3, 2] (by kernel_rfl) ?_
                  refine Tr.ret ?_
                  have H := Option.some.inj H
                  subst H
                  exact Fin.of _ [(false, [.lit (.bool false)])] (by kernel_rfl) rfl rfl
              · have H := bifT h7 H
                refine Tr.cond (b := true) (by kernel_rfl) (fun _ => ?_) (fun h => nomatch h)
                refine Tr.rs ?_
                refine LAt.runU tOk 1 (by kernel_rfl) ?_
                refine LAt.doneU [4, 3, 2] [3, 2] (by kernel_rfl) ?_
                refine Tr.ret ?_
                have H := Option.some.inj H
                subst H
                exact Fin.of _ [(false, [.lit (.bool false)])] (by kernel_rfl) rfl rfl
            · have H := bifT h6 H
              refine Tr.cond (b := true) (by kernel_rfl) (fun _ => ?_) (fun h => nomatch h)
              refine Tr.rs ?_
              refine LAt.runU tOk 1 (by kernel_rfl) ?_
              refine LAt.doneU [4, 3, 2] [3, 2] (by kernel_rfl) ?_
              refine Tr.ret ?_
              have H := Option.some.inj H
              subst H
              exact Fin.of _ [(false, [.lit (.bool false)])] (by kernel_rfl) rfl rfl
          · have H := bifT h5 H
            refine Tr.cond (b := true) (by kernel_rfl) (fun _ => ?_) (fun h => nomatch h)
            refine Tr.rs ?_
            refine LAt.runU tOk 1 (by kernel_rfl) ?_
            refine LAt.doneU [4, 3, 2] [3, 2] (by kernel_rfl) ?_
            refine Tr.ret ?_
            have H := Option.some.inj H
            subst H
            exact Fin.of _ [(false, [.lit (.bool false)])] (by kernel_rfl) rfl rfl
        · have H := bifT h4 H
          refine Tr.cond (b := true) (by kernel_rfl) (fun _ => ?_) (fun h => nomatch h)
          refine Tr.rs ?_
          refine LAt.runU tOk 1 (by kernel_rfl) ?_
          refine LAt.doneU [4, 3, 2] [3, 2] (by kernel_rfl) ?_
          refine Tr.ret ?_
          have H := Option.some.inj H
          subst H
          exact Fin.of _ [(false, [.lit (.bool false)])] (by kernel_rfl) rfl rfl
      · have H := bifT h3 H
        refine Tr.cond (b := true) (by kernel_rfl) (fun _ => ?_) (fun h => nomatch h)
        refine Tr.rs ?_
        refine LAt.runU tOk 1 (by kernel_rfl) ?_
        refine LAt.doneU [4, 3, 2] [3, 2] (by kernel_rfl) ?_
        refine Tr.ret ?_
        have H := Option.some.inj H
        subst H
        exact Fin.of _ [(false, [.lit (.bool false)])] (by kernel_rfl) rfl rfl
    · have H := bifT h2 H
      refine Tr.cond (b := true) (by kernel_rfl) (fun _ => ?_) (fun h => nomatch h)
      refine Tr.rs ?_
      refine LAt.runU tOk 1 (by kernel_rfl) ?_
      refine LAt.doneU [4, 3, 2] [3, 2] (by kernel_rfl) ?_
      refine Tr.ret ?_
      have H := Option.some.inj H
      subst H
      exact Fin.of _ [(false, [.lit (.bool false)])] (by kernel_rfl) rfl rfl
  · have H := bifT h1 H
    refine Tr.cond (b := true) (by kernel_rfl) (fun _ => ?_) (fun h => nomatch h)
    refine Tr.rs ?_
    refine LAt.runU tOk 1 (by kernel_rfl) ?_
    refine LAt.doneU [4, 3, 2] [3, 2] (by kernel_rfl) ?_
    refine Tr.ret ?_
    have H := Option.some.inj H
    subst H
    exact Fin.of _ [(false, [.lit (.bool false)])] (by kernel_rfl) rfl rfl

def laws_FnExactBridgeOkF (n : Nat) (x0 : Bridge) : Option (Bool) :=
  ((laws_szBridgeF n x0 1048576).bind fun r1 => (bif (decide (r1 < 0)) then (some true) else ((laws_toBridgeF n x0).bind fun r2 => ((spec_BridgeOkF n r2).bind fun r3 => ((laws_toBridgeF n x0).bind fun r4 => ((impl_BridgeOkF n r4).bind fun r5 => (bif (!(r5 == r3)) then (some false) else ((laws_toBridgeF n x0).bind fun r6 => ((laws_eqBridgeF n r4 r6).bind fun r7 => (bif (!r7) then (some false) else (some true)))))))))))
/-- loop.example/g00326/laws.FnExactBridgeOk -/
theorem laws_FnExactBridgeOk (n : Nat) (x0 : Bridge) (r : Bool) (H : laws_FnExactBridgeOkF n x0 = some r) : LCall Try.prog 11 [.val true (CV.frzRow (Bridge.row x0))] [.val false [.lit (.bool r)]] [] := by
  refine LCall.of_body tOk Try.func11 rfl (c := (.seq (.region 0 (rg Try.f11 0) false) (.seq (.region 1 (rg Try.f11 1) false) (.seq (.region 2 (rg Try.f11 2) false) (.seq (.seq (.region 3 (rg Try.f11 3) false) (.cond (.tmp 11) (.seq (.region 4 (rg Try.f11 4) false) .ret) .skip)) (.seq (.region 5 (rg Try.f11 5) false) (.seq (.region 6 (rg Try.f11 6) false) (.seq (.region 7 (rg Try.f11 7) false) (.seq (.seq (.region 8 (rg Try.f11 8) false) (.cond (.tmp 21) (.seq (.region 9 (rg Try.f11 9) false) .ret) .skip)) (.seq (.seq (.region 10 (rg Try.f11 10) true) (.cond (.tmp 26) (.seq (.region 11 (rg Try.f11 11) false) .ret) .skip)) (.seq (.region 12 (rg Try.f11 12) false) .ret))))))))))) (by kernel_rfl) (Nat.le_of_ble_eq_true (by kernel_rfl)) 0 (rs := [.tmp 2]) rfl [] .nil [(false, [.lit (.bool r)])] [] [] fun cx => ?_
  show Tr _ _ _ ⟨27, 0, [(0, .val true (CV.frzRow (Bridge.row x0)))], []⟩ _
  unfold laws_FnExactBridgeOkF at H
  refine Tr.rs ?_
  refine LAt.runU tOk 2 (by kernel_rfl) ?_
  refine LAt.doneU [2, 1] [1] (by kernel_rfl) ?_
  refine Tr.rs ?_
  refine LAt.runU tOk 1 (by kernel_rfl) ?_
  refine LAt.doneU [3, 2, 1] [1] (by kernel_rfl) ?_
  refine Tr.rs ?_
  refine LAt.runU tOk 2 (by kernel_rfl) ?_
  obtain ⟨r1, er1, H⟩ := bind_some H
  refine LAt.callU tOk [.rd, .rd] (f := 51) (av := #[.tmp 7, .tmp 8]) (ats := #[74, 3]) (d := (some 9)) (ty := 3) (g := none) (by kernel_rfl) (by kernel_rfl) (by kernel_rfl) [] (laws_szBridge n x0 1048576 r1 er1) (by kernel_rfl) (.inl rfl) ?_
  refine LAt.runU tOk 1 (by kernel_rfl) ?_
  refine LAt.doneU [3, 2, 1] [1] (by kernel_rfl) ?_
  refine Tr.seq ?_
  refine Tr.rs ?_
  refine LAt.runU tOk 2 (by kernel_rfl) ?_
  refine LAt.doneU [11, 2, 1] [1] (by kernel_rfl) ?_
  refine Tr.to ⟨27, 0, [(11, .val false [.lit (.bool (decide (r1 < 0)))]), (2, .val false [.lit (.bool false)]), (1, .adr (.box 1) [(0, 0)] 11 0)], [(1, (CV.frzRow (Bridge.row x0)))]⟩ (by kernel_rfl) ?_
  cases h1 : (decide (r1 < 0))
  · have H := bifF h1 H
    refine Tr.cond (b := false) (by kernel_rfl) (fun h => nomatch h) (fun _ => ?_)
    refine Tr.skip ?_
    show Tr _ _ _ _ _
    refine Tr.rs ?_
    refine LAt.runU tOk 1 (by kernel_rfl) ?_
    obtain ⟨r2, er2, H⟩ := bind_some H
    refine LAt.callU tOk [.rd] (f := 53) (av := #[.tmp 12]) (ats := #[74]) (d := (some 13)) (ty := 79) (g := none) (by kernel_rfl) (by kernel_rfl) (by kernel_rfl) [] (laws_toBridge n x0 r2 er2) (by kernel_rfl) (.inl rfl) ?_
    obtain ⟨r3, er3, H⟩ := bind_some H
    refine LAt.callU tOk [.rd] (f := 60) (av := #[.tmp 13]) (ats := #[79]) (d := (some 14)) (ty := 4) (g := none) (by kernel_rfl) (by kernel_rfl) (by kernel_rfl) [] (spec_BridgeOk n r2 r3 er3) (by kernel_rfl) (.inl rfl) ?_
    refine LAt.runU tOk 1 (by kernel_rfl) ?_
    refine LAt.doneU [4, 2, 1] [1] (by kernel_rfl) ?_
    refine Tr.rs ?_
    refine LAt.runU tOk 1 (by kernel_rfl) ?_
    obtain ⟨r4, er4, H⟩ := bind_some H
    refine LAt.callU tOk [.rd] (f := 53) (av := #[.tmp 15]) (ats := #[74]) (d := (some 16)) (ty := 79) (g := none) (by kernel_rfl) (by kernel_rfl) (by kernel_rfl) [] (laws_toBridge n x0 r4 er4) (by kernel_rfl) (.inl rfl) ?_
    refine LAt.runU tOk 2 (by kernel_rfl) ?_
    refine LAt.doneU [5, 4, 2, 1] [5, 1] (by kernel_rfl) ?_
    refine Tr.rs ?_
    refine LAt.runU tOk 1 (by kernel_rfl) ?_
    obtain ⟨r5, er5, H⟩ := bind_some H
    refine LAt.callU tOk [.rd] (f := 61) (av := #[.tmp 17]) (ats := #[79]) (d := (some 18)) (ty := 4) (g := none) (by kernel_rfl) (by kernel_rfl) (by kernel_rfl) [.box 5] (impl_BridgeOk n r4 r5 er5) (by kernel_rfl) (.inr (rets_cons (mine_cons mine_lit mine_nil) rets_nil)) ?_
    refine LAt.runU tOk 1 (by kernel_rfl) ?_
    refine LAt.doneU [6, 5, 4, 2, 1] [5, 1] (by kernel_rfl) ?_
    refine Tr.seq ?_
    refine Tr.rs ?_
    refine LAt.runU tOk 3 (by kernel_rfl) ?_
    refine LAt.doneU [21, 5, 2, 1] [5, 1] (by kernel_rfl) ?_
    refine Tr.to ⟨27, 0, [(21, .val false [.lit (.bool (!(r5 == r3)))]), (5, .adr (.box 5) [(0, 0)] 11 0), (2, .val false [.lit (.bool false)]), (1, .adr (.box 1) [(0, 0)] 11 0)], [(5, (Bridge.row r4)), (1, (CV.frzRow (Bridge.row x0)))]⟩ (by kernel_rfl) ?_
    cases h2 : (!(r5 == r3))
    · have H := bifF h2 H
      refine Tr.cond (b := false) (by kernel_rfl) (fun h => nomatch h) (fun _ => ?_)
      refine Tr.skip ?_
      show Tr _ _ _ _ _
      refine Tr.seq ?_
      obtain ⟨r6, er6, H⟩ := bind_some H
      obtain ⟨r7, er7, H⟩ := bind_some H
      refine Tr.draws mixed 5 (by kernel_rfl) ⟨27, 0, [(26, .val false [.lit (.bool (!r7))]), (2, .val false [.lit (.bool false)])], []⟩ (fun cx => ?_) ?_
      · refine AT.runU tOk [(0, [3]), (1, [2, 3])] 3 [⟨[2, 3], 74, 1, 23⟩, ⟨[3], 79, 5, 22⟩] [1, 0] rfl (by kernel_rfl) (fun cx => ?_)
        refine AT.big1 tOk 2 (by kernel_rfl) (by kernel_rfl) ?_
        refine LAt.callU tOk [.rd] (f := 53) (av := #[.tmp 23]) (ats := #[74]) (d := (some 24)) (ty := 79) (g := none) (by kernel_rfl) (by kernel_rfl) (by kernel_rfl) [] (laws_toBridge n x0 r6 er6) (by kernel_rfl) (.inl rfl) ?_
        refine LAt.fin (by kernel_rfl) (And.intro (And.intro (by kernel_rfl) (by kernel_rfl)) ?_)
        refine AT.big1 tOk 3 (by kernel_rfl) (by kernel_rfl) ?_
        refine LAt.callU tOk [.rd, .rd] (f := 55) (av := #[.tmp 22, .tmp 24]) (ats := #[79, 79]) (d := (some 25)) (ty := 4) (g := none) (by kernel_rfl) (by kernel_rfl) (by kernel_rfl) [.box 5] (laws_eqBridge n r4 r6 r7 er7) (by kernel_rfl) (.inr (rets_cons (mine_cons mine_lit mine_nil) rets_nil)) ?_
        refine LAt.fin (by kernel_rfl) (And.intro (And.intro (by kernel_rfl) (by kernel_rfl)) ?_)
        refine AT.runU tOk [(4, [])] 0 [⟨[2, 3], 74, 1, 23⟩, ⟨[3], 79, 5, 22⟩] [4, 3, 2, 1, 0] rfl (by kernel_rfl) (fun cx => ?_)
        exact AT.done [26, 2] [] _ (by kernel_rfl) (by kernel_rfl) rfl
      · refine Tr.to ⟨27, 0, [(26, .val false [.lit (.bool (!r7))]), (2, .val false [.lit (.bool false)])], []⟩ (by kernel_rfl) ?_
        cases h3 : (!r7)
        · have H := bifF h3 H
          refine Tr.cond (b := false) (by kernel_rfl) (fun h => nomatch h) (fun _ => ?_)
          refine Tr.skip ?_
          show Tr _ _ _ _ _
          refine Tr.rs ?_
          refine LAt.runU tOk 1 (by kernel_rfl) ?_
          refine LAt.doneU [2] [] (by kernel_rfl) ?_
          refine Tr.ret ?_
          have H := Option.some.inj H
          subst H
          exact Fin.of _ [(false, [.lit (.bool true)])] (by kernel_rfl) rfl rfl
        · have H := bifT h3 H
          refine Tr.cond (b := true) (by kernel_rfl) (fun _ => ?_) (fun h => nomatch h)
          refine Tr.rs ?_
          refine LAt.runU tOk 1 (by kernel_rfl) ?_
          refine LAt.doneU [2] [] (by kernel_rfl) ?_
          refine Tr.ret ?_
          have H := Option.some.inj H
          subst H
          exact Fin.of _ [(false, [.lit (.bool false)])] (by kernel_rfl) rfl rfl
    · have H := bifT h2 H
      refine Tr.cond (b := true) (by kernel_rfl) (fun _ => ?_) (fun h => nomatch h)
      refine Tr.rs ?_
      refine LAt.runU tOk 1 (by kernel_rfl) ?_
      refine LAt.doneU [2, 5, 1] [5, 1] (by kernel_rfl) ?_
      refine Tr.ret ?_
      have H := Option.some.inj H
      subst H
      exact Fin.of _ [(false, [.lit (.bool false)])] (by kernel_rfl) rfl rfl
  · have H := bifT h1 H
    refine Tr.cond (b := true) (by kernel_rfl) (fun _ => ?_) (fun h => nomatch h)
    refine Tr.rs ?_
    refine LAt.runU tOk 1 (by kernel_rfl) ?_
    refine LAt.doneU [2, 1] [1] (by kernel_rfl) ?_
    refine Tr.ret ?_
    have H := Option.some.inj H
    subst H
    exact Fin.of _ [(false, [.lit (.bool true)])] (by kernel_rfl) rfl rfl
end Go.Proofs.Ytgpcfaiacggoiaa.Tw
