/- Functions of the program, over trees. -/
import Derived.Test.YtnhmckiejhbmcaaProg
import Derived.Test.YtnhmckiejhbmcaaTlRule
import Derived.Test.YtnhmckiejhbmcaaTlU3
import Derived.Test.YtnhmckiejhbmcaaTwFR0
import Derived.WalkKit
set_option linter.unusedVariables false
set_option linter.unusedSimpArgs false
set_option maxRecDepth 100000
set_option maxHeartbeats 1000000
namespace Go.Proofs.Ytnhmckiejhbmcaa.Tw
open Go Go.TL Go.Proofs


def laws_FnRoles_J1 (n : Nat) (r2 : Int × (List Pt)) (r3 : Vec × Int) (y6 : Int) : Option (Bool) :=
  (bif (r3.1.Bridge == r2.1) then (bif (decide (r3.1.Root ≤ r2.1)) then (bif ((r3.1.Root == r2.1) == (r3.2 == (-1))) then (bif ((y6 == 1) == (decide (r3.2 ≥ 0))) then (some (decide (y6 ≤ 1))) else (some false)) else (some false)) else (some false)) else (some false))
def laws_FnRoles_J4 (n : Nat) (k : (Int × Int → Option ((Int) ⊕ (Bool)))) (r2 : Int × (List Pt)) (r3 : Vec × Int) (y10 : Int) (y4 : Int) (y11 : Bool) (y12 : Bool) (y13 : Bool) (y14 : Bool) (y15 : Int) (y16 : Bool) (y17 : Int) : Option ((Int) ⊕ (Bool)) :=
  ((idx r2.2 y4).bind fun v18 => ((impl_StepVecF n v18.Heard v18.Cost).bind fun r19 => (bif v18.Up then (bif v18.Has then (bif r19.2 then (bif (decide (r19.1.Root < r3.1.Root)) then (some (Sum.inr false)) else (bif (r19.1.Root == r3.1.Root) then (bif (decide (r19.1.Cost < r3.1.Cost)) then (bif (decide (r19.1.Root < r2.1)) then (some (Sum.inr false)) else (k ((IntKind.wrap .i64 (y4 + 1)), y10))) else (k ((IntKind.wrap .i64 (y4 + 1)), y10))) else (k ((IntKind.wrap .i64 (y4 + 1)), y10)))) else (k ((IntKind.wrap .i64 (y4 + 1)), y10))) else (k ((IntKind.wrap .i64 (y4 + 1)), y10))) else (k ((IntKind.wrap .i64 (y4 + 1)), y10)))))
def laws_FnRoles_J3 (n : Nat) (k : (Int × Int → Option ((Int) ⊕ (Bool)))) (r2 : Int × (List Pt)) (r3 : Vec × Int) (r8 : Int) (y4 : Int) (y9 : Bool) (y10 : Int) : Option ((Int) ⊕ (Bool)) :=
  ((spec_RoleOfF n r2.1 r2.2 y4).bind fun r20 => (bif (r8 != r20) then (some (Sum.inr false)) else ((idx r2.2 y4).bind fun v21 => (bif ((r8 == 4) == v21.Up) then (some (Sum.inr false)) else ((impl_SendsF n r2.1 r2.2).bind fun r22 => ((laws_bitF n r22 y4).bind fun r23 => (bif (r8 == 1) then (bif (!(r23 == true)) then (some (Sum.inr false)) else (laws_FnRoles_J4 n k r2 r3 y10 y4 true true true r23 r22 v21.Up r20)) else (bif (!(r23 == (r8 == 2))) then (some (Sum.inr false)) else (laws_FnRoles_J4 n k r2 r3 y10 y4 (r8 == 2) false false r23 r22 v21.Up r20)))))))))
def laws_FnRoles_L2 (n : Nat) : Nat → Int × (List Pt) → Vec × Int → Int → Int → Option ((Int) ⊕ (Bool))
  | 0, _, _, _, _ => none
  | mo7 + 1, r2, r3, y4, y5 => (bif (decide (y4 < (r2.2.length : Int))) then ((impl_RoleOfF n r2.1 r2.2 y4).bind fun r8 => (bif (r8 == 1) then (laws_FnRoles_J3 n (fun v => laws_FnRoles_L2 n mo7 r2 r3 v.1 v.2) r2 r3 r8 y4 true (IntKind.wrap .i64 (y5 + 1))) else (laws_FnRoles_J3 n (fun v => laws_FnRoles_L2 n mo7 r2 r3 v.1 v.2) r2 r3 r8 y4 false y5))) else (some (Sum.inl y5)))
def laws_FnRolesF (n : Nat) (x0 : (List Int)) : Option (Bool) :=
  ((laws_bigF n x0).bind fun r1 => (bif r1 then (some true) else ((spec_DrawPortsF n x0).bind fun r2 => ((impl_BestVecF n r2.1 r2.2).bind fun r3 => ((laws_FnRoles_L2 n n r2 r3 0 0).bind fun o => match o with | .inl y6 => (laws_FnRoles_J1 n r2 r3 y6) | .inr r => some r)))))
/-- loop.example/g00326/laws.FnRoles -/
theorem laws_FnRoles (n : Nat) (x0 : (List Int)) (r : Bool) (H : laws_FnRolesF n x0 = some r) : LCall Try.prog 10 [.val false [.sl false 1 (CV.frzEs (x0.map byteRow))]] [.val false [.lit (.bool r)]] [] := by
  refine LCall.of_body tOk Try.func10 rfl (c := (.seq (.region 0 (rg Try.f10 0) false) (.seq (.seq (.region 1 (rg Try.f10 1) false) (.cond (.tmp 13) (.seq (.region 2 (rg Try.f10 2) false) .ret) .skip)) (.seq (.region 3 (rg Try.f10 3) false) (.seq (.region 4 (rg Try.f10 4) false) (.seq (.region 5 (rg Try.f10 5) false) (.seq (.seq (.region 6 (rg Try.f10 6) false) (.block 0 (.loop (.seq (.seq (.region 7 (rg Try.f10 7) false) (.cond (.tmp 28) .skip (.exit 0))) (.seq (.block 1 (.seq (.region 9 (rg Try.f10 9) false) (.seq (.seq (.region 10 (rg Try.f10 10) false) (.cond (.tmp 36) (.region 11 (rg Try.f10 11) false) .skip)) (.seq (.seq (.region 12 (rg Try.f10 12) false) (.cond (.tmp 68) (.seq (.region 13 (rg Try.f10 13) false) .ret) .skip)) (.seq (.region 14 (rg Try.f10 14) true) (.seq (.region 15 (rg Try.f10 15) false) (.cond (.tmp 124) (.seq (.region 16 (rg Try.f10 16) false) .ret) .skip))))))) (.region 8 (rg Try.f10 8) false)))))) (.seq (.region 17 (rg Try.f10 17) false) .ret)))))))) (by kernel_rfl) (Nat.le_of_ble_eq_true (by kernel_rfl)) 0 (rs := [.tmp 2]) rfl [] .nil [(false, [.lit (.bool r)])] [] [] fun cx => ?_
  show Tr _ _ _ ⟨155, 0, [(0, .val false [.sl false 1 (CV.frzEs (x0.map byteRow))])], []⟩ _
  unfold laws_FnRolesF at H
  refine Tr.rs ?_
  refine LAt.runU tOk 1 (by kernel_rfl) ?_
  refine LAt.doneU [2, 0] [] (by kernel_rfl) ?_
  refine Tr.seq ?_
  refine Tr.rs ?_
  refine LAt.runU tOk 1 (by kernel_rfl) ?_
  obtain ⟨r1, er1, H⟩ := bind_some H
  refine LAt.callU tOk [.rd] (f := 38) (av := #[.tmp 12]) (ats := #[61]) (d := (some 13)) (ty := 4) (g := none) (by kernel_rfl) (by kernel_rfl) (by kernel_rfl) [] (laws_big n x0 r1 er1) (by kernel_rfl) (.inl rfl) ?_
  refine LAt.doneU [13, 2, 0] [] (by kernel_rfl) ?_
  refine Tr.to ⟨155, 0, [(13, .val false [.lit (.bool r1)]), (2, .val false [.lit (.bool false)]), (0, .val false [.sl false 1 (CV.frzEs (x0.map byteRow))])], []⟩ (by kernel_rfl) ?_
  cases h1 : r1
  · have H := bifF h1 H
    refine Tr.cond (b := false) (by kernel_rfl) (fun h => nomatch h) (fun _ => ?_)
    refine Tr.skip ?_
    show Tr _ _ _ _ _
    refine Tr.rs ?_
    refine LAt.runU tOk 1 (by kernel_rfl) ?_
    obtain ⟨r2, er2, H⟩ := bind_some H
    refine LAt.callU tOk [.rd] (f := 39) (av := #[.tmp 15]) (ats := #[61]) (d := (some 16)) (ty := 63) (g := none) (by kernel_rfl) (by kernel_rfl) (by kernel_rfl) [] (spec_DrawPorts n x0 r2 er2) (by kernel_rfl) (.inl rfl) ?_
    refine LAt.movT tOk (ty := 63) (t := 16) (d := 14) (g := none) [(false, [.lit (.int .i64 r2.1)]), (false, [.sl true 8 (r2.2.map Pt.row)])] _ (by kernel_rfl) (.inl rfl) (by kernel_rfl) (by kernel_rfl) (by kernel_rfl) (by kernel_rfl) rfl ?_
    refine LAt.runU tOk 3 (by kernel_rfl) ?_
    refine LAt.moveU (T := lk tab) (ty := 54) (x := (.tmp 18)) (d := 4) (g := none) false [.sl true 8 (r2.2.map Pt.row)] (by kernel_rfl) (by kernel_rfl) (by kernel_rfl) (by kernel_rfl) (by kernel_rfl) ?_
    refine LAt.doneU [4, 3, 2] [] (by kernel_rfl) ?_
    refine Tr.rs ?_
    refine LAt.runU tOk 2 (by kernel_rfl) ?_
    obtain ⟨r3, er3, H⟩ := bind_some H
    refine LAt.callU tOk [.rd, .rd] (f := 33) (av := #[.tmp 20, .tmp 21]) (ats := #[3, 54]) (d := (some 22)) (ty := 52) (g := none) (by kernel_rfl) (by kernel_rfl) (by kernel_rfl) [.slot 4] (impl_BestVec n r2.1 r2.2 r3 er3) (by kernel_rfl) (.inr (rets_cons (Vec.row_mine _) (rets_cons (mine_cons mine_lit mine_nil) rets_nil))) ?_
    refine LAt.movT tOk (ty := 52) (t := 22) (d := 19) (g := none) [(true, (Vec.row r3.1)), (false, [.lit (.int .i64 r3.2)])] _ (by kernel_rfl) (.inl rfl) (by kernel_rfl) (by kernel_rfl) (by kernel_rfl) (by kernel_rfl) rfl ?_
    refine LAt.runU tOk 5 (by kernel_rfl) ?_
    refine LAt.doneU [6, 5, 4, 3, 2] [5] (by kernel_rfl) ?_
    refine Tr.rs ?_
    refine LAt.runU tOk 1 (by kernel_rfl) ?_
    refine LAt.doneU [7, 6, 5, 4, 3, 2] [5] (by kernel_rfl) ?_
    refine Tr.seq ?_
    refine Tr.rs ?_
    refine LAt.runU tOk 1 (by kernel_rfl) ?_
    refine LAt.doneU [8, 7, 6, 5, 4, 3, 2] [5] (by kernel_rfl) ?_
    obtain ⟨o7, eo7, Ho7⟩ := bind_some H
    clear H
    refine Tr.mid (ι := Int) (fun v => ⟨155, 0, [(7, .val false [.lit (.int .i64 v)]), (6, .val false [.lit (.int .i64 r3.2)]), (5, .adr (.box 5) [(0, 0)] 5 0), (3, .val false [.lit (.int .i64 r2.1)]), (2, .val false [.lit (.bool false)])], [(5, (Vec.row r3.1))]⟩) (fun v => laws_FnRoles_J1 n r2 r3 v = some r) ?_ ?_
    · refine Tr.block ?_
      refine Tr.loop (ι := Nat × (Int × Int)) (fun v => ⟨155, 0, [(8, .val false [.lit (.int .i64 v.2.1)]), (7, .val false [.lit (.int .i64 v.2.2)]), (6, .val false [.lit (.int .i64 r3.2)]), (5, .adr (.box 5) [(0, 0)] 5 0), (4, .val false [.sl true 8 (r2.2.map Pt.row)]), (3, .val false [.lit (.int .i64 r2.1)]), (2, .val false [.lit (.bool false)])], [(5, (Vec.row r3.1))]⟩) (fun v => laws_FnRoles_L2 n v.1 r2 r3 v.2.1 v.2.2 = some o7) (fun v => v.1) (n, (0, 0)) eo7 (St.sub_of [8, 7, 6, 5, 4, 3, 2] [5] (by kernel_rfl)) ?_
      rintro ⟨mo7, y4, y5⟩ H
      have H : laws_FnRoles_L2 n mo7 r2 r3 y4 y5 = some o7 := H
      obtain _ | mo7 := mo7
      · cases (show (none : Option _) = some o7 from H)
      · rw [laws_FnRoles_L2] at H
        refine Tr.seq ?_
        refine Tr.rs ?_
        refine LAt.runU tOk 2 (by kernel_rfl) ?_
        refine LAt.lenE tOk (t := 54) (ty := 3) (e := 29) (x := (.tmp 26)) (d := 27) (g := none) ⟨(.slot 4), [], 0, true, 8, (r2.2.map Pt.row)⟩ (r2.2).length _ (by kernel_rfl) (by kernel_rfl) (by kernel_rfl) (by kernel_rfl) (by kernel_rfl) (map_len _ _) rfl ?_
        refine LAt.runU tOk 1 (by kernel_rfl) ?_
        refine LAt.doneU [28, 27, 26, 25, 8, 7, 6, 5, 4, 3, 2] [5] (by kernel_rfl) ?_
        refine Tr.to ⟨155, 0, [(28, .val false [.lit (.bool (decide (y4 < (r2.2.length : Int))))]), (27, .val false [.lit (.int .i64 (r2.2.length : Int))]), (26, .ref (.slot 4) [] 0 0 1 false), (25, .val false [.lit (.int .i64 y4)]), (8, .val false [.lit (.int .i64 y4)]), (7, .val false [.lit (.int .i64 y5)]), (6, .val false [.lit (.int .i64 r3.2)]), (5, .adr (.box 5) [(0, 0)] 5 0), (4, .val false [.sl true 8 (r2.2.map Pt.row)]), (3, .val false [.lit (.int .i64 r2.1)]), (2, .val false [.lit (.bool false)])], [(5, (Vec.row r3.1))]⟩ (by kernel_rfl) ?_
        cases h6 : (decide (y4 < (r2.2.length : Int)))
        · have H := bifF h6 H
          refine Tr.cond (b := false) (by kernel_rfl) (fun h => nomatch h) (fun _ => ?_)
          refine Tr.exit ?_
          refine And.intro (fun _ => ?_) (fun h => absurd rfl h)
          have H := Option.some.inj H
          subst H
          have H := Ho7
          dsimp only at H
          exact Exists.intro y5 (And.intro H (St.sub_of [7, 6, 5, 3, 2] [5] (by kernel_rfl)))
        · have H := bifT h6 H
          refine Tr.cond (b := true) (by kernel_rfl) (fun _ => ?_) (fun h => nomatch h)
          refine Tr.skip ?_
          show Tr _ _ _ _ _
          refine Tr.seq ?_
          refine Tr.block ?_
          refine Tr.rs ?_
          refine LAt.runU tOk 3 (by kernel_rfl) ?_
          obtain ⟨r8, er8, H⟩ := bind_some H
          refine LAt.callU tOk [.rd, .rd, .rd] (f := 40) (av := #[.tmp 31, .tmp 32, .tmp 33]) (ats := #[3, 54, 3]) (d := (some 34)) (ty := 3) (g := none) (by kernel_rfl) (by kernel_rfl) (by kernel_rfl) [.slot 4] (impl_RoleOf n r2.1 r2.2 y4 r8 er8) (by kernel_rfl) (.inr (rets_cons (mine_cons mine_lit mine_nil) rets_nil)) ?_
          refine LAt.runU tOk 1 (by kernel_rfl) ?_
          refine LAt.doneU [9, 34, 33, 32, 31, 28, 27, 26, 25, 8, 7, 6, 5, 4, 3, 2] [5] (by kernel_rfl) ?_
          refine Tr.seq ?_
          refine Tr.mid (ι := Bool × Int) (fun v => ⟨155, 0, [(36, .val false [.lit (.bool v.1)]), (35, .val false [.lit (.int .i64 r8)]), (9, .val false [.lit (.int .i64 r8)]), (34, .val false [.lit (.int .i64 r8)]), (33, .val false [.lit (.int .i64 y4)]), (32, .ref (.slot 4) [] 0 0 1 false), (31, .val false [.lit (.int .i64 r2.1)]), (28, .val false [.lit (.bool true)]), (27, .val false [.lit (.int .i64 (r2.2.length : Int))]), (26, .ref (.slot 4) [] 0 0 1 false), (25, .val false [.lit (.int .i64 y4)]), (8, .val false [.lit (.int .i64 y4)]), (7, .val false [.lit (.int .i64 v.2)]), (6, .val false [.lit (.int .i64 r3.2)]), (5, .adr (.box 5) [(0, 0)] 5 0), (4, .val false [.sl true 8 (r2.2.map Pt.row)]), (3, .val false [.lit (.int .i64 r2.1)]), (2, .val false [.lit (.bool false)])], [(5, (Vec.row r3.1))]⟩) (fun v => laws_FnRoles_J3 n (fun v => laws_FnRoles_L2 n mo7 r2 r3 v.1 v.2) r2 r3 r8 y4 v.1 v.2 = some o7) ?_ ?_
          · refine Tr.rs ?_
            refine LAt.runU tOk 2 (by kernel_rfl) ?_
            refine LAt.doneU [36, 35, 9, 34, 33, 32, 31, 28, 27, 26, 25, 8, 7, 6, 5, 4, 3, 2] [5] (by kernel_rfl) ?_
            refine Tr.to ⟨155, 0, [(36, .val false [.lit (.bool (r8 == 1))]), (35, .val false [.lit (.int .i64 r8)]), (9, .val false [.lit (.int .i64 r8)]), (34, .val false [.lit (.int .i64 r8)]), (33, .val false [.lit (.int .i64 y4)]), (32, .ref (.slot 4) [] 0 0 1 false), (31, .val false [.lit (.int .i64 r2.1)]), (28, .val false [.lit (.bool true)]), (27, .val false [.lit (.int .i64 (r2.2.length : Int))]), (26, .ref (.slot 4) [] 0 0 1 false), (25, .val false [.lit (.int .i64 y4)]), (8, .val false [.lit (.int .i64 y4)]), (7, .val false [.lit (.int .i64 y5)]), (6, .val false [.lit (.int .i64 r3.2)]), (5, .adr (.box 5) [(0, 0)] 5 0), (4, .val false [.sl true 8 (r2.2.map Pt.row)]), (3, .val false [.lit (.int .i64 r2.1)]), (2, .val false [.lit (.bool false)])], [(5, (Vec.row r3.1))]⟩ (by kernel_rfl) ?_
            cases h19 : (r8 == 1)
            · have H := bifF h19 H
              refine Tr.cond (b := false) (by kernel_rfl) (fun h => nomatch h) (fun _ => ?_)
              refine Tr.skip ?_
              exact Exists.intro (false, y5) (And.intro H (St.sub_of [36, 35, 9, 34, 33, 32, 31, 28, 27, 26, 25, 8, 7, 6, 5, 4, 3, 2] [5] (by kernel_rfl)))
            · have H := bifT h19 H
              refine Tr.cond (b := true) (by kernel_rfl) (fun _ => ?_) (fun h => nomatch h)
              refine Tr.at ?_
              refine LAt.runU tOk 3 (by kernel_rfl) ?_
              refine LAt.doneU [7, 38, 37, 36, 35, 9, 34, 33, 32, 31, 28, 27, 26, 25, 8, 6, 5, 4, 3, 2] [5] (by kernel_rfl) ?_
              exact Exists.intro (true, (IntKind.wrap .i64 (y5 + 1))) (And.intro H (St.sub_of [36, 35, 9, 34, 33, 32, 31, 28, 27, 26, 25, 8, 7, 6, 5, 4, 3, 2] [5] (by kernel_rfl)))
          · rintro ⟨y9, y10⟩ H
            have H : (laws_FnRoles_J3 n (fun v => laws_FnRoles_L2 n mo7 r2 r3 v.1 v.2) r2 r3 r8 y4 y9 y10) = some o7 := H
            unfold laws_FnRoles_J3 at H
            show Tr _ _ _ _ _
            refine Tr.seq ?_
            refine Tr.mid (ι := Bool × Bool × Bool × Bool × Int × Bool × Int) (fun v => ⟨155, 0, [(68, .val false [.lit (.bool false)]), (67, .val false [.lit (.bool false)]), (66, .val false [.lit (.bool v.1)]), (63, .val false [.lit (.bool v.2.1)]), (62, .val false [.lit (.bool v.2.2.1)]), (61, .val false [.lit (.int .i64 r8)]), (60, .val false [.lit (.bool v.2.2.2.1)]), (59, .val false [.lit (.int .i64 y4)]), (58, .val false [.lit (.int .i64 v.2.2.2.2.1)]), (57, .ref (.slot 4) [] 0 0 1 false), (56, .val false [.lit (.int .i64 r2.1)]), (55, .val false [.lit (.bool false)]), (54, .val false [.lit (.bool false)]), (53, .val false [.lit (.bool false)]), (52, .val false [.lit (.bool v.2.2.2.2.2.1)]), (51, .adr (.slot 4) [(0, (y4.toNat))] 8 0), (50, .adr (.slot 4) [(0, (y4.toNat))] 8 0), (49, .val false [.lit (.int .i64 y4)]), (48, .ref (.slot 4) [] 0 0 1 false), (47, .val false [.lit (.bool (r8 == 4))]), (46, .val false [.lit (.int .i64 r8)]), (45, .val false [.lit (.bool false)]), (44, .val false [.lit (.bool false)]), (43, .val false [.lit (.int .i64 v.2.2.2.2.2.2)]), (42, .val false [.lit (.int .i64 y4)]), (41, .ref (.slot 4) [] 0 0 1 false), (40, .val false [.lit (.int .i64 r2.1)]), (39, .val false [.lit (.int .i64 r8)]), (36, .val false [.lit (.bool y9)]), (35, .val false [.lit (.int .i64 r8)]), (9, .val false [.lit (.int .i64 r8)]), (34, .val false [.lit (.int .i64 r8)]), (33, .val false [.lit (.int .i64 y4)]), (32, .ref (.slot 4) [] 0 0 1 false), (31, .val false [.lit (.int .i64 r2.1)]), (28, .val false [.lit (.bool true)]), (27, .val false [.lit (.int .i64 (r2.2.length : Int))]), (26, .ref (.slot 4) [] 0 0 1 false), (25, .val false [.lit (.int .i64 y4)]), (8, .val false [.lit (.int .i64 y4)]), (7, .val false [.lit (.int .i64 y10)]), (6, .val false [.lit (.int .i64 r3.2)]), (5, .adr (.box 5) [(0, 0)] 5 0), (4, .val false [.sl true 8 (r2.2.map Pt.row)]), (3, .val false [.lit (.int .i64 r2.1)]), (2, .val false [.lit (.bool false)])], [(5, (Vec.row r3.1))]⟩) (fun v => laws_FnRoles_J4 n (fun v => laws_FnRoles_L2 n mo7 r2 r3 v.1 v.2) r2 r3 y10 y4 v.1 v.2.1 v.2.2.1 v.2.2.2.1 v.2.2.2.2.1 v.2.2.2.2.2.1 v.2.2.2.2.2.2 = some o7) ?_ ?_
            · refine Tr.rs ?_
              refine LAt.runU tOk 4 (by kernel_rfl) ?_
              obtain ⟨r20, er20, H⟩ := bind_some H
              refine LAt.callU tOk [.rd, .rd, .rd] (f := 41) (av := #[.tmp 40, .tmp 41, .tmp 42]) (ats := #[3, 54, 3]) (d := (some 43)) (ty := 3) (g := none) (by kernel_rfl) (by kernel_rfl) (by kernel_rfl) [.slot 4] (spec_RoleOf n r2.1 r2.2 y4 r20 er20) (by kernel_rfl) (.inr (rets_cons (mine_cons mine_lit mine_nil) rets_nil)) ?_
              refine LAt.runU tOk 2 (by kernel_rfl) ?_
              refine LAt.to ⟨155, 0, [(45, .val false [.lit (.bool (r8 != r20))]), (44, .val false [.lit (.bool (r8 != r20))]), (43, .val false [.lit (.int .i64 r20)]), (42, .val false [.lit (.int .i64 y4)]), (41, .ref (.slot 4) [] 0 0 1 false), (40, .val false [.lit (.int .i64 r2.1)]), (39, .val false [.lit (.int .i64 r8)]), (36, .val false [.lit (.bool y9)]), (35, .val false [.lit (.int .i64 r8)]), (9, .val false [.lit (.int .i64 r8)]), (34, .val false [.lit (.int .i64 r8)]), (33, .val false [.lit (.int .i64 y4)]), (32, .ref (.slot 4) [] 0 0 1 false), (31, .val false [.lit (.int .i64 r2.1)]), (28, .val false [.lit (.bool true)]), (27, .val false [.lit (.int .i64 (r2.2.length : Int))]), (26, .ref (.slot 4) [] 0 0 1 false), (25, .val false [.lit (.int .i64 y4)]), (8, .val false [.lit (.int .i64 y4)]), (7, .val false [.lit (.int .i64 y10)]), (6, .val false [.lit (.int .i64 r3.2)]), (5, .adr (.box 5) [(0, 0)] 5 0), (4, .val false [.sl true 8 (r2.2.map Pt.row)]), (3, .val false [.lit (.int .i64 r2.1)]), (2, .val false [.lit (.bool false)])], [(5, (Vec.row r3.1))]⟩ (by kernel_rfl) ?_
              cases h14 : (r8 != r20)
              · have H := bifF h14 H
                refine LAt.runU tOk 4 (by kernel_rfl) ?_
                obtain ⟨v21, ev21, H⟩ := bind_some H
                refine LAt.indexO tOk (t := 54) (ty := 0) (x := (.tmp 48)) (y := (.tmp 49)) (d := 50) (g := (some (6, false))) ⟨(.slot 4), [], 0, true, 8, (r2.2.map Pt.row)⟩ y4 (y4.toNat) (Pt.row v21) _ (by kernel_rfl) (by kernel_rfl) (by kernel_rfl) (by kernel_rfl) rfl (by kernel_rfl) (idx_isE ev21) rfl rfl ?_
                refine LAt.runU tOk 1 (by kernel_rfl) ?_
                refine LAt.loadE tOk (t := 4) (ty := 4) (x := (.tmp 51)) (d := 52) (g := (some (6, false))) ⟨.bool, 1, 1, [.lit (.bool false)]⟩ (.slot 4) [(0, (y4.toNat))] 8 0 [.sl true 8 (r2.2.map Pt.row)] (Pt.row v21) _ (by kernel_rfl) (by kernel_rfl) (by kernel_rfl) (by kernel_rfl) (by kernel_rfl) (getQ_elem rfl (idx_get ev21).2) rfl (by intro h; cases h) (by kernel_rfl) (by kernel_rfl) rfl ?_
                refine LAt.runU tOk 3 (by kernel_rfl) ?_
                refine LAt.to ⟨155, 0, [(55, .val false [.lit (.bool ((r8 == 4) == v21.Up))]), (54, .val false [.lit (.bool ((r8 == 4) == v21.Up))]), (53, .val false [.lit (.bool ((r8 == 4) == v21.Up))]), (52, .val false [.lit (.bool v21.Up)]), (51, .adr (.slot 4) [(0, (y4.toNat))] 8 0), (50, .adr (.slot 4) [(0, (y4.toNat))] 8 0), (49, .val false [.lit (.int .i64 y4)]), (48, .ref (.slot 4) [] 0 0 1 false), (47, .val false [.lit (.bool (r8 == 4))]), (46, .val false [.lit (.int .i64 r8)]), (45, .val false [.lit (.bool false)]), (44, .val false [.lit (.bool false)]), (43, .val false [.lit (.int .i64 r20)]), (42, .val false [.lit (.int .i64 y4)]), (41, .ref (.slot 4) [] 0 0 1 false), (40, .val false [.lit (.int .i64 r2.1)]), (39, .val false [.lit (.int .i64 r8)]), (36, .val false [.lit (.bool y9)]), (35, .val false [.lit (.int .i64 r8)]), (9, .val false [.lit (.int .i64 r8)]), (34, .val false [.lit (.int .i64 r8)]), (33, .val false [.lit (.int .i64 y4)]), (32, .ref (.slot 4) [] 0 0 1 false), (31, .val false [.lit (.int .i64 r2.1)]), (28, .val false [.lit (.bool true)]), (27, .val false [.lit (.int .i64 (r2.2.length : Int))]), (26, .ref (.slot 4) [] 0 0 1 false), (25, .val false [.lit (.int .i64 y4)]), (8, .val false [.lit (.int .i64 y4)]), (7, .val false [.lit (.int .i64 y10)]), (6, .val false [.lit (.int .i64 r3.2)]), (5, .adr (.box 5) [(0, 0)] 5 0), (4, .val false [.sl true 8 (r2.2.map Pt.row)]), (3, .val false [.lit (.int .i64 r2.1)]), (2, .val false [.lit (.bool false)])], [(5, (Vec.row r3.1))]⟩ (by kernel_rfl) ?_
                cases h15 : ((r8 == 4) == v21.Up)
                · have H := bifF h15 H
                  refine LAt.runU tOk 2 (by kernel_rfl) ?_
                  obtain ⟨r22, er22, H⟩ := bind_some H
                  refine LAt.callU tOk [.rd, .rd] (f := 43) (av := #[.tmp 56, .tmp 57]) (ats := #[3, 54]) (d := (some 58)) (ty := 3) (g := (some (16, false))) (by kernel_rfl) (by kernel_rfl) (by kernel_rfl) [.slot 4] (impl_Sends n r2.1 r2.2 r22 er22) (by kernel_rfl) (.inr (rets_cons (mine_cons mine_lit mine_nil) rets_nil)) ?_
                  refine LAt.runU tOk 1 (by kernel_rfl) ?_
                  obtain ⟨r23, er23, H⟩ := bind_some H
                  refine LAt.callU tOk [.rd, .rd] (f := 42) (av := #[.tmp 58, .tmp 59]) (ats := #[3, 3]) (d := (some 60)) (ty := 4) (g := (some (16, false))) (by kernel_rfl) (by kernel_rfl) (by kernel_rfl) [] (laws_bit n r22 y4 r23 er23) (by kernel_rfl) (.inl rfl) ?_
                  refine LAt.runU tOk 3 (by kernel_rfl) ?_
                  refine LAt.to ⟨155, 0, [(63, .val false [.lit (.bool (r8 == 1))]), (62, .val false [.lit (.bool (r8 == 1))]), (61, .val false [.lit (.int .i64 r8)]), (60, .val false [.lit (.bool r23)]), (59, .val false [.lit (.int .i64 y4)]), (58, .val false [.lit (.int .i64 r22)]), (57, .ref (.slot 4) [] 0 0 1 false), (56, .val false [.lit (.int .i64 r2.1)]), (55, .val false [.lit (.bool false)]), (54, .val false [.lit (.bool false)]), (53, .val false [.lit (.bool false)]), (52, .val false [.lit (.bool v21.Up)]), (51, .adr (.slot 4) [(0, (y4.toNat))] 8 0), (50, .adr (.slot 4) [(0, (y4.toNat))] 8 0), (49, .val false [.lit (.int .i64 y4)]), (48, .ref (.slot 4) [] 0 0 1 false), (47, .val false [.lit (.bool (r8 == 4))]), (46, .val false [.lit (.int .i64 r8)]), (45, .val false [.lit (.bool false)]), (44, .val false [.lit (.bool false)]), (43, .val false [.lit (.int .i64 r20)]), (42, .val false [.lit (.int .i64 y4)]), (41, .ref (.slot 4) [] 0 0 1 false), (40, .val false [.lit (.int .i64 r2.1)]), (39, .val false [.lit (.int .i64 r8)]), (36, .val false [.lit (.bool y9)]), (35, .val false [.lit (.int .i64 r8)]), (9, .val false [.lit (.int .i64 r8)]), (34, .val false [.lit (.int .i64 r8)]), (33, .val false [.lit (.int .i64 y4)]), (32, .ref (.slot 4) [] 0 0 1 false), (31, .val false [.lit (.int .i64 r2.1)]), (28, .val false [.lit (.bool true)]), (27, .val false [.lit (.int .i64 (r2.2.length : Int))]), (26, .ref (.slot 4) [] 0 0 1 false), (25, .val false [.lit (.int .i64 y4)]), (8, .val false [.lit (.int .i64 y4)]), (7, .val false [.lit (.int .i64 y10)]), (6, .val false [.lit (.int .i64 r3.2)]), (5, .adr (.box 5) [(0, 0)] 5 0), (4, .val false [.sl true 8 (r2.2.map Pt.row)]), (3, .val false [.lit (.int .i64 r2.1)]), (2, .val false [.lit (.bool false)])], [(5, (Vec.row r3.1))]⟩ (by kernel_rfl) ?_
                  cases h16 : (r8 == 1)
                  · have H := bifF h16 H
                    refine LAt.runU tOk 5 (by kernel_rfl) ?_
                    refine LAt.doneU [68, 67, 66, 65, 64, 63, 62, 61, 60, 59, 58, 57, 56, 55, 54, 53, 52, 51, 50, 49, 48, 47, 46, 45, 44, 43, 42, 41, 40, 39, 36, 35, 9, 34, 33, 32, 31, 28, 27, 26, 25, 8, 7, 6, 5, 4, 3, 2] [5] (by kernel_rfl) ?_
                    refine Tr.to ⟨155, 0, [(68, .val false [.lit (.bool (!(r23 == (r8 == 2))))]), (67, .val false [.lit (.bool (!(r23 == (r8 == 2))))]), (66, .val false [.lit (.bool (r8 == 2))]), (65, .val false [.lit (.bool (r8 == 2))]), (64, .val false [.lit (.int .i64 r8)]), (63, .val false [.lit (.bool false)]), (62, .val false [.lit (.bool false)]), (61, .val false [.lit (.int .i64 r8)]), (60, .val false [.lit (.bool r23)]), (59, .val false [.lit (.int .i64 y4)]), (58, .val false [.lit (.int .i64 r22)]), (57, .ref (.slot 4) [] 0 0 1 false), (56, .val false [.lit (.int .i64 r2.1)]), (55, .val false [.lit (.bool false)]), (54, .val false [.lit (.bool false)]), (53, .val false [.lit (.bool false)]), (52, .val false [.lit (.bool v21.Up)]), (51, .adr (.slot 4) [(0, (y4.toNat))] 8 0), (50, .adr (.slot 4) [(0, (y4.toNat))] 8 0), (49, .val false [.lit (.int .i64 y4)]), (48, .ref (.slot 4) [] 0 0 1 false), (47, .val false [.lit (.bool (r8 == 4))]), (46, .val false [.lit (.int .i64 r8)]), (45, .val false [.lit (.bool false)]), (44, .val false [.lit (.bool false)]), (43, .val false [.lit (.int .i64 r20)]), (42, .val false [.lit (.int .i64 y4)]), (41, .ref (.slot 4) [] 0 0 1 false), (40, .val false [.lit (.int .i64 r2.1)]), (39, .val false [.lit (.int .i64 r8)]), (36, .val false [.lit (.bool y9)]), (35, .val false [.lit (.int .i64 r8)]), (9, .val false [.lit (.int .i64 r8)]), (34, .val false [.lit (.int .i64 r8)]), (33, .val false [.lit (.int .i64 y4)]), (32, .ref (.slot 4) [] 0 0 1 false), (31, .val false [.lit (.int .i64 r2.1)]), (28, .val false [.lit (.bool true)]), (27, .val false [.lit (.int .i64 (r2.2.length : Int))]), (26, .ref (.slot 4) [] 0 0 1 false), (25, .val false [.lit (.int .i64 y4)]), (8, .val false [.lit (.int .i64 y4)]), (7, .val false [.lit (.int .i64 y10)]), (6, .val false [.lit (.int .i64 r3.2)]), (5, .adr (.box 5) [(0, 0)] 5 0), (4, .val false [.sl true 8 (r2.2.map Pt.row)]), (3, .val false [.lit (.int .i64 r2.1)]), (2, .val false [.lit (.bool false)])], [(5, (Vec.row r3.1))]⟩ (by kernel_rfl) ?_
                    cases h17 : (!(r23 == (r8 == 2)))
                    · have H := bifF h17 H
                      refine Tr.cond (b := false) (by kernel_rfl) (fun h => nomatch h) (fun _ => ?_)
                      refine Tr.skip ?_
                      exact Exists.intro ((r8 == 2), false, false, r23, r22, v21.Up, r20) (And.intro H (St.sub_of [68, 67, 66, 63, 62, 61, 60, 59, 58, 57, 56, 55, 54, 53, 52, 51, 50, 49, 48, 47, 46, 45, 44, 43, 42, 41, 40, 39, 36, 35, 9, 34, 33, 32, 31, 28, 27, 26, 25, 8, 7, 6, 5, 4, 3, 2] [5] (by kernel_rfl)))
                    · have H := bifT h17 H
                      refine Tr.cond (b := true) (by kernel_rfl) (fun _ => ?_) (fun h => nomatch h)
                      refine Tr.rs ?_
                      refine LAt.runU tOk 1 (by kernel_rfl) ?_
                      refine LAt.doneU [2, 68, 67, 66, 65, 64, 63, 62, 61, 60, 59, 58, 57, 56, 55, 54, 53, 52, 51, 50, 49, 48, 47, 46, 45, 44, 43, 42, 41, 40, 39, 36, 35, 9, 34, 33, 32, 31, 28, 27, 26, 25, 8, 7, 6, 5, 4, 3] [5] (by kernel_rfl) ?_
                      refine Tr.ret ?_
                      have H := Option.some.inj H
                      subst H
                      have H := Ho7
                      dsimp only at H
                      have H := Option.some.inj H
                      subst H
                      exact Fin.of _ [(false, [.lit (.bool false)])] (by kernel_rfl) rfl rfl
                  · have H := bifT h16 H
                    refine LAt.runU tOk 5 (by kernel_rfl) ?_
                    refine LAt.doneU [68, 67, 66, 65, 64, 63, 62, 61, 60, 59, 58, 57, 56, 55, 54, 53, 52, 51, 50, 49, 48, 47, 46, 45, 44, 43, 42, 41, 40, 39, 36, 35, 9, 34, 33, 32, 31, 28, 27, 26, 25, 8, 7, 6, 5, 4, 3, 2] [5] (by kernel_rfl) ?_
                    refine Tr.to ⟨155, 0, [(68, .val false [.lit (.bool (!(r23 == true)))]), (67, .val false [.lit (.bool (!(r23 == true)))]), (66, .val false [.lit (.bool true)]), (65, .tup []), (64, .tup []), (63, .val false [.lit (.bool true)]), (62, .val false [.lit (.bool true)]), (61, .val false [.lit (.int .i64 r8)]), (60, .val false [.lit (.bool r23)]), (59, .val false [.lit (.int .i64 y4)]), (58, .val false [.lit (.int .i64 r22)]), (57, .ref (.slot 4) [] 0 0 1 false), (56, .val false [.lit (.int .i64 r2.1)]), (55, .val false [.lit (.bool false)]), (54, .val false [.lit (.bool false)]), (53, .val false [.lit (.bool false)]), (52, .val false [.lit (.bool v21.Up)]), (51, .adr (.slot 4) [(0, (y4.toNat))] 8 0), (50, .adr (.slot 4) [(0, (y4.toNat))] 8 0), (49, .val false [.lit (.int .i64 y4)]), (48, .ref (.slot 4) [] 0 0 1 false), (47, .val false [.lit (.bool (r8 == 4))]), (46, .val false [.lit (.int .i64 r8)]), (45, .val false [.lit (.bool false)]), (44, .val false [.lit (.bool false)]), (43, .val false [.lit (.int .i64 r20)]), (42, .val false [.lit (.int .i64 y4)]), (41, .ref (.slot 4) [] 0 0 1 false), (40, .val false [.lit (.int .i64 r2.1)]), (39, .val false [.lit (.int .i64 r8)]), (36, .val false [.lit (.bool y9)]), (35, .val false [.lit (.int .i64 r8)]), (9, .val false [.lit (.int .i64 r8)]), (34, .val false [.lit (.int .i64 r8)]), (33, .val false [.lit (.int .i64 y4)]), (32, .ref (.slot 4) [] 0 0 1 false), (31, .val false [.lit (.int .i64 r2.1)]), (28, .val false [.lit (.bool true)]), (27, .val false [.lit (.int .i64 (r2.2.length : Int))]), (26, .ref (.slot 4) [] 0 0 1 false), (25, .val false [.lit (.int .i64 y4)]), (8, .val false [.lit (.int .i64 y4)]), (7, .val false [.lit (.int .i64 y10)]), (6, .val false [.lit (.int .i64 r3.2)]), (5, .adr (.box 5) [(0, 0)] 5 0), (4, .val false [.sl true 8 (r2.2.map Pt.row)]), (3, .val false [.lit (.int .i64 r2.1)]), (2, .val false [.lit (.bool false)])], [(5, (Vec.row r3.1))]⟩ (by kernel_rfl) ?_
                    cases h18 : (!(r23 == true))
                    · have H := bifF h18 H
                      refine Tr.cond (b := false) (by kernel_rfl) (fun h => nomatch h) (fun _ => ?_)
                      refine Tr.skip ?_
                      exact Exists.intro (true, true, true, r23, r22, v21.Up, r20) (And.intro H (St.sub_of [68, 67, 66, 63, 62, 61, 60, 59, 58, 57, 56, 55, 54, 53, 52, 51, 50, 49, 48, 47, 46, 45, 44, 43, 42, 41, 40, 39, 36, 35, 9, 34, 33, 32, 31, 28, 27, 26, 25, 8, 7, 6, 5, 4, 3, 2] [5] (by kernel_rfl)))
                    · have H := bifT h18 H
                      refine Tr.cond (b := true) (by kernel_rfl) (fun _ => ?_) (fun h => nomatch h)
                      refine Tr.rs ?_
                      refine LAt.runU tOk 1 (by kernel_rfl) ?_
                      refine LAt.doneU [2, 68, 67, 66, 65, 64, 63, 62, 61, 60, 59, 58, 57, 56, 55, 54, 53, 52, 51, 50, 49, 48, 47, 46, 45, 44, 43, 42, 41, 40, 39, 36, 35, 9, 34, 33, 32, 31, 28, 27, 26, 25, 8, 7, 6, 5, 4, 3] [5] (by kernel_rfl) ?_
                      refine Tr.ret ?_
                      have H := Option.some.inj H
                      subst H
                      have H := Ho7
                      dsimp only at H
                      have H := Option.some.inj H
                      subst H
                      exact Fin.of _ [(false, [.lit (.bool false)])] (by kernel_rfl) rfl rfl
                · have H := bifT h15 H
                  refine LAt.runU tOk 13 (by kernel_rfl) ?_
                  refine LAt.doneU [68, 67, 66, 65, 64, 63, 62, 61, 60, 59, 58, 57, 56, 55, 54, 53, 52, 51, 50, 49, 48, 47, 46, 45, 44, 43, 42, 41, 40, 39, 36, 35, 9, 34, 33, 32, 31, 28, 27, 26, 25, 8, 7, 6, 5, 4, 3, 2] [5] (by kernel_rfl) ?_
                  refine Tr.cond (b := true) (by kernel_rfl) (fun _ => ?_) (fun h => nomatch h)
                  refine Tr.rs ?_
                  refine LAt.runU tOk 1 (by kernel_rfl) ?_
                  refine LAt.doneU [2, 68, 67, 66, 65, 64, 63, 62, 61, 60, 59, 58, 57, 56, 55, 54, 53, 52, 51, 50, 49, 48, 47, 46, 45, 44, 43, 42, 41, 40, 39, 36, 35, 9, 34, 33, 32, 31, 28, 27, 26, 25, 8, 7, 6, 5, 4, 3] [5] (by kernel_rfl) ?_
                  refine Tr.ret ?_
                  have H := Option.some.inj H
                  subst H
                  have H := Ho7
                  dsimp only at H
                  have H := Option.some.inj H
                  subst H
                  exact Fin.of _ [(false, [.lit (.bool false)])] (by kernel_rfl) rfl rfl
              · have H := bifT h14 H
                refine LAt.runU tOk 23 (by kernel_rfl) ?_
                refine LAt.doneU [68, 67, 66, 65, 64, 63, 62, 61, 60, 59, 58, 57, 56, 55, 54, 53, 52, 51, 50, 49, 48, 47, 46, 45, 44, 43, 42, 41, 40, 39, 36, 35, 9, 34, 33, 32, 31, 28, 27, 26, 25, 8, 7, 6, 5, 4, 3, 2] [5] (by kernel_rfl) ?_
                refine Tr.cond (b := true) (by kernel_rfl) (fun _ => ?_) (fun h => nomatch h)
                refine Tr.rs ?_
                refine LAt.runU tOk 1 (by kernel_rfl) ?_
                refine LAt.doneU [2, 68, 67, 66, 65, 64, 63, 62, 61, 60, 59, 58, 57, 56, 55, 54, 53, 52, 51, 50, 49, 48, 47, 46, 45, 44, 43, 42, 41, 40, 39, 36, 35, 9, 34, 33, 32, 31, 28, 27, 26, 25, 8, 7, 6, 5, 4, 3] [5] (by kernel_rfl) ?_
                refine Tr.ret ?_
                have H := Option.some.inj H
                subst H
                have H := Ho7
                dsimp only at H
                have H := Option.some.inj H
                subst H
                exact Fin.of _ [(false, [.lit (.bool false)])] (by kernel_rfl) rfl rfl
            · rintro ⟨y11, y12, y13, y14, y15, y16, y17⟩ H
              have H : (laws_FnRoles_J4 n (fun v => laws_FnRoles_L2 n mo7 r2 r3 v.1 v.2) r2 r3 y10 y4 y11 y12 y13 y14 y15 y16 y17) = some o7 := H
              unfold laws_FnRoles_J4 at H
              show Tr _ _ _ _ _
              obtain ⟨v18, ev18, H⟩ := bind_some H
              obtain ⟨r19, er19, H⟩ := bind_some H
              refine Tr.draws mixed 17 (by kernel_rfl) ⟨155, 0, [(11, .val false [.lit (.bool r19.2)]), (10, .adr (.box 10) [(0, 0)] 5 0), (82, .val false [.lit (.bool r19.2)]), (69, .tup [(true, [.dead, .dead, .dead, .dead, .dead]), (false, [.dead])]), (81, .val true (Vec.row r19.1)), (79, .val false [.lit (.int .i64 v18.Cost)]), (78, .adr (.slot 4) [(0, (y4.toNat))] 8 1), (77, .adr (.slot 4) [(0, (y4.toNat))] 8 0), (76, .val false [.lit (.int .i64 y4)]), (75, .ref (.slot 4) [] 0 0 1 false), (74, .val true ((Pt.row v18).drop 3)), (73, .adr (.slot 4) [(0, (y4.toNat))] 8 3), (72, .adr (.slot 4) [(0, (y4.toNat))] 8 0), (71, .val false [.lit (.int .i64 y4)]), (70, .ref (.slot 4) [] 0 0 1 false), (68, .val false [.lit (.bool false)]), (67, .val false [.lit (.bool false)]), (66, .val false [.lit (.bool y11)]), (63, .val false [.lit (.bool y12)]), (62, .val false [.lit (.bool y13)]), (61, .val false [.lit (.int .i64 r8)]), (60, .val false [.lit (.bool y14)]), (59, .val false [.lit (.int .i64 y4)]), (58, .val false [.lit (.int .i64 y15)]), (57, .ref (.slot 4) [] 0 0 1 false), (56, .val false [.lit (.int .i64 r2.1)]), (55, .val false [.lit (.bool false)]), (54, .val false [.lit (.bool false)]), (53, .val false [.lit (.bool false)]), (52, .val false [.lit (.bool y16)]), (51, .adr (.slot 4) [(0, (y4.toNat))] 8 0), (50, .adr (.slot 4) [(0, (y4.toNat))] 8 0), (49, .val false [.lit (.int .i64 y4)]), (48, .ref (.slot 4) [] 0 0 1 false), (47, .val false [.lit (.bool (r8 == 4))]), (46, .val false [.lit (.int .i64 r8)]), (45, .val false [.lit (.bool false)]), (44, .val false [.lit (.bool false)]), (43, .val false [.lit (.int .i64 y17)]), (42, .val false [.lit (.int .i64 y4)]), (41, .ref (.slot 4) [] 0 0 1 false), (40, .val false [.lit (.int .i64 r2.1)]), (39, .val false [.lit (.int .i64 r8)]), (36, .val false [.lit (.bool y9)]), (35, .val false [.lit (.int .i64 r8)]), (9, .val false [.lit (.int .i64 r8)]), (34, .val false [.lit (.int .i64 r8)]), (33, .val false [.lit (.int .i64 y4)]), (32, .ref (.slot 4) [] 0 0 1 false), (31, .val false [.lit (.int .i64 r2.1)]), (28, .val false [.lit (.bool true)]), (27, .val false [.lit (.int .i64 (r2.2.length : Int))]), (26, .ref (.slot 4) [] 0 0 1 false), (25, .val false [.lit (.int .i64 y4)]), (8, .val false [.lit (.int .i64 y4)]), (7, .val false [.lit (.int .i64 y10)]), (6, .val false [.lit (.int .i64 r3.2)]), (5, .adr (.box 5) [(0, 0)] 5 0), (4, .val false [.sl true 8 (r2.2.map Pt.row)]), (3, .val false [.lit (.int .i64 r2.1)]), (2, .val false [.lit (.bool false)])], [(10, (Vec.row r19.1)), (5, (Vec.row r3.1))]⟩ (fun cx => ?_) ?_
              · refine AT.runU tOk [(0, []), (1, [])] 15 [] [1, 0] rfl (by kernel_rfl) (fun cx => ?_)
                refine AT.indexO tOk 2 (t := 54) (ty := 0) (x := (.tmp 70)) (y := (.tmp 71)) (d := 72) (g := none) ⟨(.slot 4), [], 0, true, 8, (r2.2.map Pt.row)⟩ y4 (y4.toNat) (Pt.row v18) _ (by kernel_rfl) (by kernel_rfl) (by kernel_rfl) (by kernel_rfl) (by kernel_rfl) (by kernel_rfl) rfl (by kernel_rfl) (idx_isE ev18) rfl rfl (fun cx => ?_)
                refine AT.runU tOk [(3, []), (5, []), (6, [])] 11 [] [6, 5, 3, 2, 1, 0] rfl (by kernel_rfl) (fun cx => ?_)
                refine AT.indexO tOk 7 (t := 54) (ty := 0) (x := (.tmp 75)) (y := (.tmp 76)) (d := 77) (g := none) ⟨(.slot 4), [], 0, true, 8, (r2.2.map Pt.row)⟩ y4 (y4.toNat) (Pt.row v18) _ (by kernel_rfl) (by kernel_rfl) (by kernel_rfl) (by kernel_rfl) (by kernel_rfl) (by kernel_rfl) rfl (by kernel_rfl) (idx_isE ev18) rfl rfl (fun cx => ?_)
                refine AT.runU tOk [(8, [])] 9 [] [8, 7, 6, 5, 3, 2, 1, 0] rfl (by kernel_rfl) (fun cx => ?_)
                refine AT.big3 tOk 4 9 14 (by kernel_rfl) (And.intro (by kernel_rfl) ?_) (And.intro (by kernel_rfl) ?_) (And.intro (by kernel_rfl) ?_)
                · refine LAt.loadE tOk (t := 27) (ty := 27) (x := (.tmp 73)) (d := 74) (g := none) ⟨.st [(0, 1, 3), (1, 1, 3), (2, 1, 3), (3, 1, 3), (4, 1, 3)], 5, 40, [.lit (.int .i64 0), .lit (.int .i64 0), .lit (.int .i64 0), .lit (.int .i64 0), .lit (.int .i64 0)]⟩ (.slot 4) [(0, (y4.toNat))] 8 3 [.sl true 8 (r2.2.map Pt.row)] (Pt.row v18) _ (by kernel_rfl) (by kernel_rfl) (by kernel_rfl) (by kernel_rfl) (by kernel_rfl) (getQ_elem rfl (idx_get ev18).2) rfl (by intro h; cases h) (by kernel_rfl) (by kernel_rfl) rfl ?_
                  refine LAt.fin (by kernel_rfl) (And.intro (And.intro (by kernel_rfl) (by kernel_rfl)) ?_)
                  refine AT.big2 tOk 9 14 (by kernel_rfl) (And.intro (by kernel_rfl) ?_) (And.intro (by kernel_rfl) ?_)
                  · refine LAt.loadE tOk (t := 3) (ty := 3) (x := (.tmp 78)) (d := 79) (g := none) ⟨.int .i64, 1, 8, [.lit (.int .i64 0)]⟩ (.slot 4) [(0, (y4.toNat))] 8 1 [.sl true 8 (r2.2.map Pt.row)] (Pt.row v18) _ (by kernel_rfl) (by kernel_rfl) (by kernel_rfl) (by kernel_rfl) (by kernel_rfl) (getQ_elem rfl (idx_get ev18).2) rfl (by intro h; cases h) (by kernel_rfl) (by kernel_rfl) rfl ?_
                    refine LAt.fin (by kernel_rfl) (And.intro (And.intro (by kernel_rfl) (by kernel_rfl)) ?_)
                    refine AT.big2 tOk 10 14 (by kernel_rfl) (And.intro (by kernel_rfl) ?_) (And.intro (by kernel_rfl) ?_)
                    · refine LAt.callU tOk [.rd, .rd] (f := 44) (av := #[.tmp 74, .tmp 79]) (ats := #[27, 3]) (d := (some 80)) (ty := 68) (g := none) (by kernel_rfl) (by kernel_rfl) (by kernel_rfl) [] (impl_StepVec n v18.Heard v18.Cost r19 er19) (by kernel_rfl) (.inl rfl) ?_
                      refine LAt.fin (by kernel_rfl) (And.intro (And.intro (by kernel_rfl) (by kernel_rfl)) ?_)
                      refine AT.movT tOk 11 (ty := 68) (t := 80) (d := 69) (g := none) [(true, (Vec.row r19.1)), (false, [.lit (.bool r19.2)])] _ (by kernel_rfl) (by kernel_rfl) (by kernel_rfl) (.inl rfl) (by kernel_rfl) (by kernel_rfl) (by kernel_rfl) (by kernel_rfl) rfl (fun cx => ?_)
                      refine AT.runU tOk [(12, []), (13, [])] 3 [] [13, 12, 11, 10, 9, 4, 8, 7, 6, 5, 3, 2, 1, 0] rfl (by kernel_rfl) (fun cx => ?_)
                      refine AT.big1 tOk 14 (by kernel_rfl) (by kernel_rfl) ?_
                      refine LAt.runU tOk 1 (by kernel_rfl) ?_
                      refine LAt.fin (by kernel_rfl) (And.intro (And.intro (by kernel_rfl) (by kernel_rfl)) ?_)
                      refine AT.big1 tOk 15 (by kernel_rfl) (by kernel_rfl) ?_
                      refine LAt.runU tOk 1 (by kernel_rfl) ?_
                      refine LAt.fin (by kernel_rfl) (And.intro (And.intro (by kernel_rfl) (by kernel_rfl)) ?_)
                      refine AT.runU tOk [(16, [])] 0 [] [16, 15, 14, 13, 12, 11, 10, 9, 4, 8, 7, 6, 5, 3, 2, 1, 0] rfl (by kernel_rfl) (fun cx => ?_)
                      exact AT.done [11, 10, 82, 69, 81, 79, 78, 77, 76, 75, 74, 73, 72, 71, 70, 68, 67, 66, 63, 62, 61, 60, 59, 58, 57, 56, 55, 54, 53, 52, 51, 50, 49, 48, 47, 46, 45, 44, 43, 42, 41, 40, 39, 36, 35, 9, 34, 33, 32, 31, 28, 27, 26, 25, 8, 7, 6, 5, 4, 3, 2] [10, 5] _ (by kernel_rfl) (by kernel_rfl) rfl
                    · refine LAt.runU tOk 1 (by kernel_rfl) ?_
                      refine LAt.fin (by kernel_rfl) (And.intro (And.intro (by kernel_rfl) (by kernel_rfl)) ?_)
                      refine AT.big1 tOk 10 (by kernel_rfl) (by kernel_rfl) ?_
                      refine LAt.callU tOk [.rd, .rd] (f := 44) (av := #[.tmp 74, .tmp 79]) (ats := #[27, 3]) (d := (some 80)) (ty := 68) (g := none) (by kernel_rfl) (by kernel_rfl) (by kernel_rfl) [] (impl_StepVec n v18.Heard v18.Cost r19 er19) (by kernel_rfl) (.inl rfl) ?_
                      refine LAt.fin (by kernel_rfl) (And.intro (And.intro (by kernel_rfl) (by kernel_rfl)) ?_)
                      refine AT.movT tOk 11 (ty := 68) (t := 80) (d := 69) (g := none) [(true, (Vec.row r19.1)), (false, [.lit (.bool r19.2)])] _ (by kernel_rfl) (by kernel_rfl) (by kernel_rfl) (.inl rfl) (by kernel_rfl) (by kernel_rfl) (by kernel_rfl) (by kernel_rfl) rfl (fun cx => ?_)
                      refine AT.runU tOk [(12, []), (13, [])] 2 [] [13, 12, 11, 10, 14, 9, 4, 8, 7, 6, 5, 3, 2, 1, 0] rfl (by kernel_rfl) (fun cx => ?_)
                      refine AT.big1 tOk 15 (by kernel_rfl) (by kernel_rfl) ?_
                      refine LAt.runU tOk 1 (by kernel_rfl) ?_
                      refine LAt.fin (by kernel_rfl) (And.intro (And.intro (by kernel_rfl) (by kernel_rfl)) ?_)
                      refine AT.runU tOk [(16, [])] 0 [] [16, 15, 13, 12, 11, 10, 14, 9, 4, 8, 7, 6, 5, 3, 2, 1, 0] rfl (by kernel_rfl) (fun cx => ?_)
                      exact AT.done [11, 10, 82, 69, 81, 79, 78, 77, 76, 75, 74, 73, 72, 71, 70, 68, 67, 66, 63, 62, 61, 60, 59, 58, 57, 56, 55, 54, 53, 52, 51, 50, 49, 48, 47, 46, 45, 44, 43, 42, 41, 40, 39, 36, 35, 9, 34, 33, 32, 31, 28, 27, 26, 25, 8, 7, 6, 5, 4, 3, 2] [10, 5] _ (by kernel_rfl) (by kernel_rfl) rfl
                  · refine LAt.runU tOk 1 (by kernel_rfl) ?_
                    refine LAt.fin (by kernel_rfl) (And.intro (And.intro (by kernel_rfl) (by kernel_rfl)) ?_)
                    refine AT.big1 tOk 9 (by kernel_rfl) (by kernel_rfl) ?_
                    refine LAt.loadE tOk (t := 3) (ty := 3) (x := (.tmp 78)) (d := 79) (g := none) ⟨.int .i64, 1, 8, [.lit (.int .i64 0)]⟩ (.slot 4) [(0, (y4.toNat))] 8 1 [.sl true 8 (r2.2.map Pt.row)] (Pt.row v18) _ (by kernel_rfl) (by kernel_rfl) (by kernel_rfl) (by kernel_rfl) (by kernel_rfl) (getQ_elem rfl (idx_get ev18).2) rfl (by intro h; cases h) (by kernel_rfl) (by kernel_rfl) rfl ?_
                    refine LAt.fin (by kernel_rfl) (And.intro (And.intro (by kernel_rfl) (by kernel_rfl)) ?_)
                    refine AT.big1 tOk 10 (by kernel_rfl) (by kernel_rfl) ?_
                    refine LAt.callU tOk [.rd, .rd] (f := 44) (av := #[.tmp 74, .tmp 79]) (ats := #[27, 3]) (d := (some 80)) (ty := 68) (g := none) (by kernel_rfl) (by kernel_rfl) (by kernel_rfl) [] (impl_StepVec n v18.Heard v18.Cost r19 er19) (by kernel_rfl) (.inl rfl) ?_
                    refine LAt.fin (by kernel_rfl) (And.intro (And.intro (by kernel_rfl) (by kernel_rfl)) ?_)
                    refine AT.movT tOk 11 (ty := 68) (t := 80) (d := 69) (g := none) [(true, (Vec.row r19.1)), (false, [.lit (.bool r19.2)])] _ (by kernel_rfl) (by kernel_rfl) (by kernel_rfl) (.inl rfl) (by kernel_rfl) (by kernel_rfl) (by kernel_rfl) (by kernel_rfl) rfl (fun cx => ?_)
                    refine AT.runU tOk [(12, []), (13, [])] 2 [] [13, 12, 11, 10, 9, 14, 4, 8, 7, 6, 5, 3, 2, 1, 0] rfl (by kernel_rfl) (fun cx => ?_)
                    refine AT.big1 tOk 15 (by kernel_rfl) (by kernel_rfl) ?_
                    refine LAt.runU tOk 1 (by kernel_rfl) ?_
                    refine LAt.fin (by kernel_rfl) (And.intro (And.intro (by kernel_rfl) (by kernel_rfl)) ?_)
                    refine AT.runU tOk [(16, [])] 0 [] [16, 15, 13, 12, 11, 10, 9, 14, 4, 8, 7, 6, 5, 3, 2, 1, 0] rfl (by kernel_rfl) (fun cx => ?_)
                    exact AT.done [11, 10, 82, 69, 81, 79, 78, 77, 76, 75, 74, 73, 72, 71, 70, 68, 67, 66, 63, 62, 61, 60, 59, 58, 57, 56, 55, 54, 53, 52, 51, 50, 49, 48, 47, 46, 45, 44, 43, 42, 41, 40, 39, 36, 35, 9, 34, 33, 32, 31, 28, 27, 26, 25, 8, 7, 6, 5, 4, 3, 2] [10, 5] _ (by kernel_rfl) (by kernel_rfl) rfl
                · refine LAt.loadE tOk (t := 3) (ty := 3) (x := (.tmp 78)) (d := 79) (g := none) ⟨.int .i64, 1, 8, [.lit (.int .i64 0)]⟩ (.slot 4) [(0, (y4.toNat))] 8 1 [.sl true 8 (r2.2.map Pt.row)] (Pt.row v18) _ (by kernel_rfl) (by kernel_rfl) (by kernel_rfl) (by kernel_rfl) (by kernel_rfl) (getQ_elem rfl (idx_get ev18).2) rfl (by intro h; cases h) (by kernel_rfl) (by kernel_rfl) rfl ?_
                  refine LAt.fin (by kernel_rfl) (And.intro (And.intro (by kernel_rfl) (by kernel_rfl)) ?_)
                  refine AT.big2 tOk 4 14 (by kernel_rfl) (And.intro (by kernel_rfl) ?_) (And.intro (by kernel_rfl) ?_)
                  · refine LAt.loadE tOk (t := 27) (ty := 27) (x := (.tmp 73)) (d := 74) (g := none) ⟨.st [(0, 1, 3), (1, 1, 3), (2, 1, 3), (3, 1, 3), (4, 1, 3)], 5, 40, [.lit (.int .i64 0), .lit (.int .i64 0), .lit (.int .i64 0), .lit (.int .i64 0), .lit (.int .i64 0)]⟩ (.slot 4) [(0, (y4.toNat))] 8 3 [.sl true 8 (r2.2.map Pt.row)] (Pt.row v18) _ (by kernel_rfl) (by kernel_rfl) (by kernel_rfl) (by kernel_rfl) (by kernel_rfl) (getQ_elem rfl (idx_get ev18).2) rfl (by intro h; cases h) (by kernel_rfl) (by kernel_rfl) rfl ?_
                    refine LAt.fin (by kernel_rfl) (And.intro (And.intro (by kernel_rfl) (by kernel_rfl)) ?_)
                    refine AT.big2 tOk 10 14 (by kernel_rfl) (And.intro (by kernel_rfl) ?_) (And.intro (by kernel_rfl) ?_)
                    · refine LAt.callU tOk [.rd, .rd] (f := 44) (av := #[.tmp 74, .tmp 79]) (ats := #[27, 3]) (d := (some 80)) (ty := 68) (g := none) (by kernel_rfl) (by kernel_rfl) (by kernel_rfl) [] (impl_StepVec n v18.Heard v18.Cost r19 er19) (by kernel_rfl) (.inl rfl) ?_
                      refine LAt.fin (by kernel_rfl) (And.intro (And.intro (by kernel_rfl) (by kernel_rfl)) ?_)
                      refine AT.movT tOk 11 (ty := 68) (t := 80) (d := 69) (g := none) [(true, (Vec.row r19.1)), (false, [.lit (.bool r19.2)])] _ (by kernel_rfl) (by kernel_rfl) (by kernel_rfl) (.inl rfl) (by kernel_rfl) (by kernel_rfl) (by kernel_rfl) (by kernel_rfl) rfl (fun cx => ?_)
                      refine AT.runU tOk [(12, []), (13, [])] 3 [] [13, 12, 11, 10, 4, 9, 8, 7, 6, 5, 3, 2, 1, 0] rfl (by kernel_rfl) (fun cx => ?_)
                      refine AT.big1 tOk 14 (by kernel_rfl) (by kernel_rfl) ?_
                      refine LAt.runU tOk 1 (by kernel_rfl) ?_
                      refine LAt.fin (by kernel_rfl) (And.intro (And.intro (by kernel_rfl) (by kernel_rfl)) ?_)
                      refine AT.big1 tOk 15 (by kernel_rfl) (by kernel_rfl) ?_
                      refine LAt.runU tOk 1 (by kernel_rfl) ?_
                      refine LAt.fin (by kernel_rfl) (And.intro (And.intro (by kernel_rfl) (by kernel_rfl)) ?_)
                      refine AT.runU tOk [(16, [])] 0 [] [16, 15, 14, 13, 12, 11, 10, 4, 9, 8, 7, 6, 5, 3, 2, 1, 0] rfl (by kernel_rfl) (fun cx => ?_)
                      exact AT.done [11, 10, 82, 69, 81, 79, 78, 77, 76, 75, 74, 73, 72, 71, 70, 68, 67, 66, 63, 62, 61, 60, 59, 58, 57, 56, 55, 54, 53, 52, 51, 50, 49, 48, 47, 46, 45, 44, 43, 42, 41, 40, 39, 36, 35, 9, 34, 33, 32, 31, 28, 27, 26, 25, 8, 7, 6, 5, 4, 3, 2] [10, 5] _ (by kernel_rfl) (by kernel_rfl) rfl
                    · refine LAt.runU tOk 1 (by kernel_rfl) ?_
                      refine LAt.fin (by kernel_rfl) (And.intro (And.intro (by kernel_rfl) (by kernel_rfl)) ?_)
                      refine AT.big1 tOk 10 (by kernel_rfl) (by kernel_rfl) ?_
                      refine LAt.callU tOk [.rd, .rd] (f := 44) (av := #[.tmp 74, .tmp 79]) (ats := #[27, 3]) (d := (some 80)) (ty := 68) (g := none) (by kernel_rfl) (by kernel_rfl) (by kernel_rfl) [] (impl_StepVec n v18.Heard v18.Cost r19 er19) (by kernel_rfl) (.inl rfl) ?_
                      refine LAt.fin (by kernel_rfl) (And.intro (And.intro (by kernel_rfl) (by kernel_rfl)) ?_)
                      refine AT.movT tOk 11 (ty := 68) (t := 80) (d := 69) (g := none) [(true, (Vec.row r19.1)), (false, [.lit (.bool r19.2)])] _ (by kernel_rfl) (by kernel_rfl) (by kernel_rfl) (.inl rfl) (by kernel_rfl) (by kernel_rfl) (by kernel_rfl) (by kernel_rfl) rfl (fun cx => ?_)
                      refine AT.runU tOk [(12, []), (13, [])] 2 [] [13, 12, 11, 10, 14, 4, 9, 8, 7, 6, 5, 3, 2, 1, 0] rfl (by kernel_rfl) (fun cx => ?_)
                      refine AT.big1 tOk 15 (by kernel_rfl) (by kernel_rfl) ?_
                      refine LAt.runU tOk 1 (by kernel_rfl) ?_
                      refine LAt.fin (by kernel_rfl) (And.intro (And.intro (by kernel_rfl) (by kernel_rfl)) ?_)
                      refine AT.runU tOk [(16, [])] 0 [] [16, 15, 13, 12, 11, 10, 14, 4, 9, 8, 7, 6, 5, 3, 2, 1, 0] rfl (by kernel_rfl) (fun cx => ?_)
                      exact AT.done [11, 10, 82, 69, 81, 79, 78, 77, 76, 75, 74, 73, 72, 71, 70, 68, 67, 66, 63, 62, 61, 60, 59, 58, 57, 56, 55, 54, 53, 52, 51, 50, 49, 48, 47, 46, 45, 44, 43, 42, 41, 40, 39, 36, 35, 9, 34, 33, 32, 31, 28, 27, 26, 25, 8, 7, 6, 5, 4, 3, 2] [10, 5] _ (by kernel_rfl) (by kernel_rfl) rfl
                  · refine LAt.runU tOk 1 (by kernel_rfl) ?_
                    refine LAt.fin (by kernel_rfl) (And.intro (And.intro (by kernel_rfl) (by kernel_rfl)) ?_)
                    refine AT.big1 tOk 4 (by kernel_rfl) (by kernel_rfl) ?_
                    refine LAt.loadE tOk (t := 27) (ty := 27) (x := (.tmp 73)) (d := 74) (g := none) ⟨.st [(0, 1, 3), (1, 1, 3), (2, 1, 3), (3, 1, 3), (4, 1, 3)], 5, 40, [.lit (.int .i64 0), .lit (.int .i64 0), .lit (.int .i64 0), .lit (.int .i64 0), .lit (.int .i64 0)]⟩ (.slot 4) [(0, (y4.toNat))] 8 3 [.sl true 8 (r2.2.map Pt.row)] (Pt.row v18) _ (by kernel_rfl) (by kernel_rfl) (by kernel_rfl) (by kernel_rfl) (by kernel_rfl) (getQ_elem rfl (idx_get ev18).2) rfl (by intro h; cases h) (by kernel_rfl) (by kernel_rfl) rfl ?_
                    refine LAt.fin (by kernel_rfl) (And.intro (And.intro (by kernel_rfl) (by kernel_rfl)) ?_)
                    refine AT.big1 tOk 10 (by kernel_rfl) (by kernel_rfl) ?_
                    refine LAt.callU tOk [.rd, .rd] (f := 44) (av := #[.tmp 74, .tmp 79]) (ats := #[27, 3]) (d := (some 80)) (ty := 68) (g := none) (by kernel_rfl) (by kernel_rfl) (by kernel_rfl) [] (impl_StepVec n v18.Heard v18.Cost r19 er19) (by kernel_rfl) (.inl rfl) ?_
                    refine LAt.fin (by kernel_rfl) (And.intro (And.intro (by kernel_rfl) (by kernel_rfl)) ?_)
                    refine AT.movT tOk 11 (ty := 68) (t := 80) (d := 69) (g := none) [(true, (Vec.row r19.1)), (false, [.lit (.bool r19.2)])] _ (by kernel_rfl) (by kernel_rfl) (by kernel_rfl) (.inl rfl) (by kernel_rfl) (by kernel_rfl) (by kernel_rfl) (by kernel_rfl) rfl (fun cx => ?_)
                    refine AT.runU tOk [(12, []), (13, [])] 2 [] [13, 12, 11, 10, 4, 14, 9, 8, 7, 6, 5, 3, 2, 1, 0] rfl (by kernel_rfl) (fun cx => ?_)
                    refine AT.big1 tOk 15 (by kernel_rfl) (by kernel_rfl) ?_
                    refine LAt.runU tOk 1 (by kernel_rfl) ?_
                    refine LAt.fin (by kernel_rfl) (And.intro (And.intro (by kernel_rfl) (by kernel_rfl)) ?_)
                    refine AT.runU tOk [(16, [])] 0 [] [16, 15, 13, 12, 11, 10, 4, 14, 9, 8, 7, 6, 5, 3, 2, 1, 0] rfl (by kernel_rfl) (fun cx => ?_)
                    exact AT.done [11, 10, 82, 69, 81, 79, 78, 77, 76, 75, 74, 73, 72, 71, 70, 68, 67, 66, 63, 62, 61, 60, 59, 58, 57, 56, 55, 54, 53, 52, 51, 50, 49, 48, 47, 46, 45, 44, 43, 42, 41, 40, 39, 36, 35, 9, 34, 33, 32, 31, 28, 27, 26, 25, 8, 7, 6, 5, 4, 3, 2] [10, 5] _ (by kernel_rfl) (by kernel_rfl) rfl
                · refine LAt.runU tOk 1 (by kernel_rfl) ?_
                  refine LAt.fin (by kernel_rfl) (And.intro (And.intro (by kernel_rfl) (by kernel_rfl)) ?_)
                  refine AT.big2 tOk 4 9 (by kernel_rfl) (And.intro (by kernel_rfl) ?_) (And.intro (by kernel_rfl) ?_)
                  · refine LAt.loadE tOk (t := 27) (ty := 27) (x := (.tmp 73)) (d := 74) (g := none) ⟨.st [(0, 1, 3), (1, 1, 3), (2, 1, 3), (3, 1, 3), (4, 1, 3)], 5, 40, [.lit (.int .i64 0), .lit (.int .i64 0), .lit (.int .i64 0), .lit (.int .i64 0), .lit (.int .i64 0)]⟩ (.slot 4) [(0, (y4.toNat))] 8 3 [.sl true 8 (r2.2.map Pt.row)] (Pt.row v18) _ (by kernel_rfl) (by kernel_rfl) (by kernel_rfl) (by kernel_rfl) (by kernel_rfl) (getQ_elem rfl (idx_get ev18).2) rfl (by intro h; cases h) (by kernel_rfl) (by kernel_rfl) rfl ?_
                    refine LAt.fin (by kernel_rfl) (And.intro (And.intro (by kernel_rfl) (by kernel_rfl)) ?_)
                    refine AT.big1 tOk 9 (by kernel_rfl) (by kernel_rfl) ?_
                    refine LAt.loadE tOk (t := 3) (ty := 3) (x := (.tmp 78)) (d := 79) (g := none) ⟨.int .i64, 1, 8, [.lit (.int .i64 0)]⟩ (.slot 4) [(0, (y4.toNat))] 8 1 [.sl true 8 (r2.2.map Pt.row)] (Pt.row v18) _ (by kernel_rfl) (by kernel_rfl) (by kernel_rfl) (by kernel_rfl) (by kernel_rfl) (getQ_elem rfl (idx_get ev18).2) rfl (by intro h; cases h) (by kernel_rfl) (by kernel_rfl) rfl ?_
                    refine LAt.fin (by kernel_rfl) (And.intro (And.intro (by kernel_rfl) (by kernel_rfl)) ?_)
                    refine AT.big1 tOk 10 (by kernel_rfl) (by kernel_rfl) ?_
                    refine LAt.callU tOk [.rd, .rd] (f := 44) (av := #[.tmp 74, .tmp 79]) (ats := #[27, 3]) (d := (some 80)) (ty := 68) (g := none) (by kernel_rfl) (by kernel_rfl) (by kernel_rfl) [] (impl_StepVec n v18.Heard v18.Cost r19 er19) (by kernel_rfl) (.inl rfl) ?_
                    refine LAt.fin (by kernel_rfl) (And.intro (And.intro (by kernel_rfl) (by kernel_rfl)) ?_)
                    refine AT.movT tOk 11 (ty := 68) (t := 80) (d := 69) (g := none) [(true, (Vec.row r19.1)), (false, [.lit (.bool r19.2)])] _ (by kernel_rfl) (by kernel_rfl) (by kernel_rfl) (.inl rfl) (by kernel_rfl) (by kernel_rfl) (by kernel_rfl) (by kernel_rfl) rfl (fun cx => ?_)
                    refine AT.runU tOk [(12, []), (13, [])] 2 [] [13, 12, 11, 10, 9, 4, 14, 8, 7, 6, 5, 3, 2, 1, 0] rfl (by kernel_rfl) (fun cx => ?_)
                    refine AT.big1 tOk 15 (by kernel_rfl) (by kernel_rfl) ?_
                    refine LAt.runU tOk 1 (by kernel_rfl) ?_
                    refine LAt.fin (by kernel_rfl) (And.intro (And.intro (by kernel_rfl) (by kernel_rfl)) ?_)
                    refine AT.runU tOk [(16, [])] 0 [] [16, 15, 13, 12, 11, 10, 9, 4, 14, 8, 7, 6, 5, 3, 2, 1, 0] rfl (by kernel_rfl) (fun cx => ?_)
                    exact AT.done [11, 10, 82, 69, 81, 79, 78, 77, 76, 75, 74, 73, 72, 71, 70, 68, 67, 66, 63, 62, 61, 60, 59, 58, 57, 56, 55, 54, 53, 52, 51, 50, 49, 48, 47, 46, 45, 44, 43, 42, 41, 40, 39, 36, 35, 9, 34, 33, 32, 31, 28, 27, 26, 25, 8, 7, 6, 5, 4, 3, 2] [10, 5] _ (by kernel_rfl) (by kernel_rfl) rfl
                  · refine LAt.loadE tOk (t := 3) (ty := 3) (x := (.tmp 78)) (d := 79) (g := none) ⟨.int .i64, 1, 8, [.lit (.int .i64 0)]⟩ (.slot 4) [(0, (y4.toNat))] 8 1 [.sl true 8 (r2.2.map Pt.row)] (Pt.row v18) _ (by kernel_rfl) (by kernel_rfl) (by kernel_rfl) (by kernel_rfl) (by kernel_rfl) (getQ_elem rfl (idx_get ev18).2) rfl (by intro h; cases h) (by kernel_rfl) (by kernel_rfl) rfl ?_
                    refine LAt.fin (by kernel_rfl) (And.intro (And.intro (by kernel_rfl) (by kernel_rfl)) ?_)
                    refine AT.big1 tOk 4 (by kernel_rfl) (by kernel_rfl) ?_
                    refine LAt.loadE tOk (t := 27) (ty := 27) (x := (.tmp 73)) (d := 74) (g := none) ⟨.st [(0, 1, 3), (1, 1, 3), (2, 1, 3), (3, 1, 3), (4, 1, 3)], 5, 40, [.lit (.int .i64 0), .lit (.int .i64 0), .lit (.int .i64 0), .lit (.int .i64 0), .lit (.int .i64 0)]⟩ (.slot 4) [(0, (y4.toNat))] 8 3 [.sl true 8 (r2.2.map Pt.row)] (Pt.row v18) _ (by kernel_rfl) (by kernel_rfl) (by kernel_rfl) (by kernel_rfl) (by kernel_rfl) (getQ_elem rfl (idx_get ev18).2) rfl (by intro h; cases h) (by kernel_rfl) (by kernel_rfl) rfl ?_
                    refine LAt.fin (by kernel_rfl) (And.intro (And.intro (by kernel_rfl) (by kernel_rfl)) ?_)
                    refine AT.big1 tOk 10 (by kernel_rfl) (by kernel_rfl) ?_
                    refine LAt.callU tOk [.rd, .rd] (f := 44) (av := #[.tmp 74, .tmp 79]) (ats := #[27, 3]) (d := (some 80)) (ty := 68) (g := none) (by kernel_rfl) (by kernel_rfl) (by kernel_rfl) [] (impl_StepVec n v18.Heard v18.Cost r19 er19) (by kernel_rfl) (.inl rfl) ?_
                    refine LAt.fin (by kernel_rfl) (And.intro (And.intro (by kernel_rfl) (by kernel_rfl)) ?_)
                    refine AT.movT tOk 11 (ty := 68) (t := 80) (d := 69) (g := none) [(true, (Vec.row r19.1)), (false, [.lit (.bool r19.2)])] _ (by kernel_rfl) (by kernel_rfl) (by kernel_rfl) (.inl rfl) (by kernel_rfl) (by kernel_rfl) (by kernel_rfl) (by kernel_rfl) rfl (fun cx => ?_)
                    refine AT.runU tOk [(12, []), (13, [])] 2 [] [13, 12, 11, 10, 4, 9, 14, 8, 7, 6, 5, 3, 2, 1, 0] rfl (by kernel_rfl) (fun cx => ?_)
                    refine AT.big1 tOk 15 (by kernel_rfl) (by kernel_rfl) ?_
                    refine LAt.runU tOk 1 (by kernel_rfl) ?_
                    refine LAt.fin (by kernel_rfl) (And.intro (And.intro (by kernel_rfl) (by kernel_rfl)) ?_)
                    refine AT.runU tOk [(16, [])] 0 [] [16, 15, 13, 12, 11, 10, 4, 9, 14, 8, 7, 6, 5, 3, 2, 1, 0] rfl (by kernel_rfl) (fun cx => ?_)
                    exact AT.done [11, 10, 82, 69, 81, 79, 78, 77, 76, 75, 74, 73, 72, 71, 70, 68, 67, 66, 63, 62, 61, 60, 59, 58, 57, 56, 55, 54, 53, 52, 51, 50, 49, 48, 47, 46, 45, 44, 43, 42, 41, 40, 39, 36, 35, 9, 34, 33, 32, 31, 28, 27, 26, 25, 8, 7, 6, 5, 4, 3, 2] [10, 5] _ (by kernel_rfl) (by kernel_rfl) rfl
              · refine Tr.rs ?_
                refine LAt.runU tOk 2 (by kernel_rfl) ?_
                refine LAt.indexO tOk (t := 54) (ty := 0) (x := (.tmp 83)) (y := (.tmp 84)) (d := 85) (g := none) ⟨(.slot 4), [], 0, true, 8, (r2.2.map Pt.row)⟩ y4 (y4.toNat) (Pt.row v18) _ (by kernel_rfl) (by kernel_rfl) (by kernel_rfl) (by kernel_rfl) rfl (by kernel_rfl) (idx_isE ev18) rfl rfl ?_
                refine LAt.runU tOk 1 (by kernel_rfl) ?_
                refine LAt.loadE tOk (t := 4) (ty := 4) (x := (.tmp 86)) (d := 87) (g := none) ⟨.bool, 1, 1, [.lit (.bool false)]⟩ (.slot 4) [(0, (y4.toNat))] 8 0 [.sl true 8 (r2.2.map Pt.row)] (Pt.row v18) _ (by kernel_rfl) (by kernel_rfl) (by kernel_rfl) (by kernel_rfl) (by kernel_rfl) (getQ_elem rfl (idx_get ev18).2) rfl (by intro h; cases h) (by kernel_rfl) (by kernel_rfl) rfl ?_
                refine LAt.runU tOk 1 (by kernel_rfl) ?_
                refine LAt.to ⟨155, 0, [(88, .val false [.lit (.bool v18.Up)]), (87, .val false [.lit (.bool v18.Up)]), (86, .adr (.slot 4) [(0, (y4.toNat))] 8 0), (85, .adr (.slot 4) [(0, (y4.toNat))] 8 0), (84, .val false [.lit (.int .i64 y4)]), (83, .ref (.slot 4) [] 0 0 1 false), (11, .val false [.lit (.bool r19.2)]), (10, .adr (.box 10) [(0, 0)] 5 0), (82, .val false [.lit (.bool r19.2)]), (69, .tup [(true, [.dead, .dead, .dead, .dead, .dead]), (false, [.dead])]), (81, .val true (Vec.row r19.1)), (79, .val false [.lit (.int .i64 v18.Cost)]), (78, .adr (.slot 4) [(0, (y4.toNat))] 8 1), (77, .adr (.slot 4) [(0, (y4.toNat))] 8 0), (76, .val false [.lit (.int .i64 y4)]), (75, .ref (.slot 4) [] 0 0 1 false), (74, .val true ((Pt.row v18).drop 3)), (73, .adr (.slot 4) [(0, (y4.toNat))] 8 3), (72, .adr (.slot 4) [(0, (y4.toNat))] 8 0), (71, .val false [.lit (.int .i64 y4)]), (70, .ref (.slot 4) [] 0 0 1 false), (68, .val false [.lit (.bool false)]), (67, .val false [.lit (.bool false)]), (66, .val false [.lit (.bool y11)]), (63, .val false [.lit (.bool y12)]), (62, .val false [.lit (.bool y13)]), (61, .val false [.lit (.int .i64 r8)]), (60, .val false [.lit (.bool y14)]), (59, .val false [.lit (.int .i64 y4)]), (58, .val false [.lit (.int .i64 y15)]), (57, .ref (.slot 4) [] 0 0 1 false), (56, .val false [.lit (.int .i64 r2.1)]), (55, .val false [.lit (.bool false)]), (54, .val false [.lit (.bool false)]), (53, .val false [.lit (.bool false)]), (52, .val false [.lit (.bool y16)]), (51, .adr (.slot 4) [(0, (y4.toNat))] 8 0), (50, .adr (.slot 4) [(0, (y4.toNat))] 8 0), (49, .val false [.lit (.int .i64 y4)]), (48, .ref (.slot 4) [] 0 0 1 false), (47, .val false [.lit (.bool (r8 == 4))]), (46, .val false [.lit (.int .i64 r8)]), (45, .val false [.lit (.bool false)]), (44, .val false [.lit (.bool false)]), (43, .val false [.lit (.int .i64 y17)]), (42, .val false [.lit (.int .i64 y4)]), (41, .ref (.slot 4) [] 0 0 1 false), (40, .val false [.lit (.int .i64 r2.1)]), (39, .val false [.lit (.int .i64 r8)]), (36, .val false [.lit (.bool y9)]), (35, .val false [.lit (.int .i64 r8)]), (9, .val false [.lit (.int .i64 r8)]), (34, .val false [.lit (.int .i64 r8)]), (33, .val false [.lit (.int .i64 y4)]), (32, .ref (.slot 4) [] 0 0 1 false), (31, .val false [.lit (.int .i64 r2.1)]), (28, .val false [.lit (.bool true)]), (27, .val false [.lit (.int .i64 (r2.2.length : Int))]), (26, .ref (.slot 4) [] 0 0 1 false), (25, .val false [.lit (.int .i64 y4)]), (8, .val false [.lit (.int .i64 y4)]), (7, .val false [.lit (.int .i64 y10)]), (6, .val false [.lit (.int .i64 r3.2)]), (5, .adr (.box 5) [(0, 0)] 5 0), (4, .val false [.sl true 8 (r2.2.map Pt.row)]), (3, .val false [.lit (.int .i64 r2.1)]), (2, .val false [.lit (.bool false)])], [(10, (Vec.row r19.1)), (5, (Vec.row r3.1))]⟩ (by kernel_rfl) ?_
                cases h7 : v18.Up
                · have H := bifF h7 H
                  refine LAt.runU tOk 36 (by kernel_rfl) ?_
                  refine LAt.doneU [124, 123, 122, 121, 120, 119, 118, 117, 116, 115, 114, 113, 112, 111, 110, 109, 108, 107, 106, 105, 104, 103, 102, 101, 100, 99, 98, 97, 96, 95, 94, 93, 92, 91, 90, 89, 88, 87, 86, 85, 84, 83, 11, 10, 82, 69, 81, 79, 78, 77, 76, 75, 74, 73, 72, 71, 70, 68, 67, 66, 63, 62, 61, 60, 59, 58, 57, 56, 55, 54, 53, 52, 51, 50, 49, 48, 47, 46, 45, 44, 43, 42, 41, 40, 39, 36, 35, 9, 34, 33, 32, 31, 28, 27, 26, 25, 8, 7, 6, 5, 4, 3, 2] [10, 5] (by kernel_rfl) ?_
                  refine Tr.cond (b := false) (by kernel_rfl) (fun h => nomatch h) (fun _ => ?_)
                  refine Tr.skip ?_
                  show Tr _ _ _ _ _
                  refine Tr.at ?_
                  refine LAt.runU tOk 3 (by kernel_rfl) ?_
                  refine LAt.doneU [8, 30, 29, 124, 123, 122, 121, 120, 119, 118, 117, 116, 115, 114, 113, 112, 111, 110, 109, 108, 107, 106, 105, 104, 103, 102, 101, 100, 99, 98, 97, 96, 95, 94, 93, 92, 91, 90, 89, 88, 87, 86, 85, 84, 83, 11, 10, 82, 69, 81, 79, 78, 77, 76, 75, 74, 73, 72, 71, 70, 68, 67, 66, 63, 62, 61, 60, 59, 58, 57, 56, 55, 54, 53, 52, 51, 50, 49, 48, 47, 46, 45, 44, 43, 42, 41, 40, 39, 36, 35, 9, 34, 33, 32, 31, 28, 27, 26, 25, 7, 6, 5, 4, 3, 2] [10, 5] (by kernel_rfl) ?_
                  exact Exists.intro (mo7, ((IntKind.wrap .i64 (y4 + 1)), y10)) (And.intro H (And.intro (Nat.lt_succ_self mo7) (St.sub_of [8, 7, 6, 5, 4, 3, 2] [5] (by kernel_rfl))))
                · have H := bifT h7 H
                  refine LAt.runU tOk 2 (by kernel_rfl) ?_
                  refine LAt.indexO tOk (t := 54) (ty := 0) (x := (.tmp 89)) (y := (.tmp 90)) (d := 91) (g := (some (5, true))) ⟨(.slot 4), [], 0, true, 8, (r2.2.map Pt.row)⟩ y4 (y4.toNat) (Pt.row v18) _ (by kernel_rfl) (by kernel_rfl) (by kernel_rfl) (by kernel_rfl) rfl (by kernel_rfl) (idx_isE ev18) rfl rfl ?_
                  refine LAt.runU tOk 1 (by kernel_rfl) ?_
                  refine LAt.loadE tOk (t := 4) (ty := 4) (x := (.tmp 92)) (d := 93) (g := (some (5, true))) ⟨.bool, 1, 1, [.lit (.bool false)]⟩ (.slot 4) [(0, (y4.toNat))] 8 2 [.sl true 8 (r2.2.map Pt.row)] (Pt.row v18) _ (by kernel_rfl) (by kernel_rfl) (by kernel_rfl) (by kernel_rfl) (by kernel_rfl) (getQ_elem rfl (idx_get ev18).2) rfl (by intro h; cases h) (by kernel_rfl) (by kernel_rfl) rfl ?_
                  refine LAt.runU tOk 2 (by kernel_rfl) ?_
                  refine LAt.to ⟨155, 0, [(95, .val false [.lit (.bool v18.Has)]), (94, .val false [.lit (.bool v18.Has)]), (93, .val false [.lit (.bool v18.Has)]), (92, .adr (.slot 4) [(0, (y4.toNat))] 8 2), (91, .adr (.slot 4) [(0, (y4.toNat))] 8 0), (90, .val false [.lit (.int .i64 y4)]), (89, .ref (.slot 4) [] 0 0 1 false), (88, .val false [.lit (.bool true)]), (87, .val false [.lit (.bool true)]), (86, .adr (.slot 4) [(0, (y4.toNat))] 8 0), (85, .adr (.slot 4) [(0, (y4.toNat))] 8 0), (84, .val false [.lit (.int .i64 y4)]), (83, .ref (.slot 4) [] 0 0 1 false), (11, .val false [.lit (.bool r19.2)]), (10, .adr (.box 10) [(0, 0)] 5 0), (82, .val false [.lit (.bool r19.2)]), (69, .tup [(true, [.dead, .dead, .dead, .dead, .dead]), (false, [.dead])]), (81, .val true (Vec.row r19.1)), (79, .val false [.lit (.int .i64 v18.Cost)]), (78, .adr (.slot 4) [(0, (y4.toNat))] 8 1), (77, .adr (.slot 4) [(0, (y4.toNat))] 8 0), (76, .val false [.lit (.int .i64 y4)]), (75, .ref (.slot 4) [] 0 0 1 false), (74, .val true ((Pt.row v18).drop 3)), (73, .adr (.slot 4) [(0, (y4.toNat))] 8 3), (72, .adr (.slot 4) [(0, (y4.toNat))] 8 0), (71, .val false [.lit (.int .i64 y4)]), (70, .ref (.slot 4) [] 0 0 1 false), (68, .val false [.lit (.bool false)]), (67, .val false [.lit (.bool false)]), (66, .val false [.lit (.bool y11)]), (63, .val false [.lit (.bool y12)]), (62, .val false [.lit (.bool y13)]), (61, .val false [.lit (.int .i64 r8)]), (60, .val false [.lit (.bool y14)]), (59, .val false [.lit (.int .i64 y4)]), (58, .val false [.lit (.int .i64 y15)]), (57, .ref (.slot 4) [] 0 0 1 false), (56, .val false [.lit (.int .i64 r2.1)]), (55, .val false [.lit (.bool false)]), (54, .val false [.lit (.bool false)]), (53, .val false [.lit (.bool false)]), (52, .val false [.lit (.bool y16)]), (51, .adr (.slot 4) [(0, (y4.toNat))] 8 0), (50, .adr (.slot 4) [(0, (y4.toNat))] 8 0), (49, .val false [.lit (.int .i64 y4)]), (48, .ref (.slot 4) [] 0 0 1 false), (47, .val false [.lit (.bool (r8 == 4))]), (46, .val false [.lit (.int .i64 r8)]), (45, .val false [.lit (.bool false)]), (44, .val false [.lit (.bool false)]), (43, .val false [.lit (.int .i64 y17)]), (42, .val false [.lit (.int .i64 y4)]), (41, .ref (.slot 4) [] 0 0 1 false), (40, .val false [.lit (.int .i64 r2.1)]), (39, .val false [.lit (.int .i64 r8)]), (36, .val false [.lit (.bool y9)]), (35, .val false [.lit (.int .i64 r8)]), (9, .val false [.lit (.int .i64 r8)]), (34, .val false [.lit (.int .i64 r8)]), (33, .val false [.lit (.int .i64 y4)]), (32, .ref (.slot 4) [] 0 0 1 false), (31, .val false [.lit (.int .i64 r2.1)]), (28, .val false [.lit (.bool true)]), (27, .val false [.lit (.int .i64 (r2.2.length : Int))]), (26, .ref (.slot 4) [] 0 0 1 false), (25, .val false [.lit (.int .i64 y4)]), (8, .val false [.lit (.int .i64 y4)]), (7, .val false [.lit (.int .i64 y10)]), (6, .val false [.lit (.int .i64 r3.2)]), (5, .adr (.box 5) [(0, 0)] 5 0), (4, .val false [.sl true 8 (r2.2.map Pt.row)]), (3, .val false [.lit (.int .i64 r2.1)]), (2, .val false [.lit (.bool false)])], [(10, (Vec.row r19.1)), (5, (Vec.row r3.1))]⟩ (by kernel_rfl) ?_
                  cases h8 : v18.Has
                  · have H := bifF h8 H
                    refine LAt.runU tOk 29 (by kernel_rfl) ?_
                    refine LAt.doneU [124, 123, 122, 121, 120, 119, 118, 117, 116, 115, 114, 113, 112, 111, 110, 109, 108, 107, 106, 105, 104, 103, 102, 101, 100, 99, 98, 97, 96, 95, 94, 93, 92, 91, 90, 89, 88, 87, 86, 85, 84, 83, 11, 10, 82, 69, 81, 79, 78, 77, 76, 75, 74, 73, 72, 71, 70, 68, 67, 66, 63, 62, 61, 60, 59, 58, 57, 56, 55, 54, 53, 52, 51, 50, 49, 48, 47, 46, 45, 44, 43, 42, 41, 40, 39, 36, 35, 9, 34, 33, 32, 31, 28, 27, 26, 25, 8, 7, 6, 5, 4, 3, 2] [10, 5] (by kernel_rfl) ?_
                    refine Tr.cond (b := false) (by kernel_rfl) (fun h => nomatch h) (fun _ => ?_)
                    refine Tr.skip ?_
                    show Tr _ _ _ _ _
                    refine Tr.at ?_
                    refine LAt.runU tOk 3 (by kernel_rfl) ?_
                    refine LAt.doneU [8, 30, 29, 124, 123, 122, 121, 120, 119, 118, 117, 116, 115, 114, 113, 112, 111, 110, 109, 108, 107, 106, 105, 104, 103, 102, 101, 100, 99, 98, 97, 96, 95, 94, 93, 92, 91, 90, 89, 88, 87, 86, 85, 84, 83, 11, 10, 82, 69, 81, 79, 78, 77, 76, 75, 74, 73, 72, 71, 70, 68, 67, 66, 63, 62, 61, 60, 59, 58, 57, 56, 55, 54, 53, 52, 51, 50, 49, 48, 47, 46, 45, 44, 43, 42, 41, 40, 39, 36, 35, 9, 34, 33, 32, 31, 28, 27, 26, 25, 7, 6, 5, 4, 3, 2] [10, 5] (by kernel_rfl) ?_
                    exact Exists.intro (mo7, ((IntKind.wrap .i64 (y4 + 1)), y10)) (And.intro H (And.intro (Nat.lt_succ_self mo7) (St.sub_of [8, 7, 6, 5, 4, 3, 2] [5] (by kernel_rfl))))
                  · have H := bifT h8 H
                    refine LAt.runU tOk 3 (by kernel_rfl) ?_
                    refine LAt.to ⟨155, 0, [(98, .val false [.lit (.bool r19.2)]), (97, .val false [.lit (.bool r19.2)]), (96, .val false [.lit (.bool r19.2)]), (95, .val false [.lit (.bool true)]), (94, .val false [.lit (.bool true)]), (93, .val false [.lit (.bool true)]), (92, .adr (.slot 4) [(0, (y4.toNat))] 8 2), (91, .adr (.slot 4) [(0, (y4.toNat))] 8 0), (90, .val false [.lit (.int .i64 y4)]), (89, .ref (.slot 4) [] 0 0 1 false), (88, .val false [.lit (.bool true)]), (87, .val false [.lit (.bool true)]), (86, .adr (.slot 4) [(0, (y4.toNat))] 8 0), (85, .adr (.slot 4) [(0, (y4.toNat))] 8 0), (84, .val false [.lit (.int .i64 y4)]), (83, .ref (.slot 4) [] 0 0 1 false), (11, .val false [.lit (.bool r19.2)]), (10, .adr (.box 10) [(0, 0)] 5 0), (82, .val false [.lit (.bool r19.2)]), (69, .tup [(true, [.dead, .dead, .dead, .dead, .dead]), (false, [.dead])]), (81, .val true (Vec.row r19.1)), (79, .val false [.lit (.int .i64 v18.Cost)]), (78, .adr (.slot 4) [(0, (y4.toNat))] 8 1), (77, .adr (.slot 4) [(0, (y4.toNat))] 8 0), (76, .val false [.lit (.int .i64 y4)]), (75, .ref (.slot 4) [] 0 0 1 false), (74, .val true ((Pt.row v18).drop 3)), (73, .adr (.slot 4) [(0, (y4.toNat))] 8 3), (72, .adr (.slot 4) [(0, (y4.toNat))] 8 0), (71, .val false [.lit (.int .i64 y4)]), (70, .ref (.slot 4) [] 0 0 1 false), (68, .val false [.lit (.bool false)]), (67, .val false [.lit (.bool false)]), (66, .val false [.lit (.bool y11)]), (63, .val false [.lit (.bool y12)]), (62, .val false [.lit (.bool y13)]), (61, .val false [.lit (.int .i64 r8)]), (60, .val false [.lit (.bool y14)]), (59, .val false [.lit (.int .i64 y4)]), (58, .val false [.lit (.int .i64 y15)]), (57, .ref (.slot 4) [] 0 0 1 false), (56, .val false [.lit (.int .i64 r2.1)]), (55, .val false [.lit (.bool false)]), (54, .val false [.lit (.bool false)]), (53, .val false [.lit (.bool false)]), (52, .val false [.lit (.bool y16)]), (51, .adr (.slot 4) [(0, (y4.toNat))] 8 0), (50, .adr (.slot 4) [(0, (y4.toNat))] 8 0), (49, .val false [.lit (.int .i64 y4)]), (48, .ref (.slot 4) [] 0 0 1 false), (47, .val false [.lit (.bool (r8 == 4))]), (46, .val false [.lit (.int .i64 r8)]), (45, .val false [.lit (.bool false)]), (44, .val false [.lit (.bool false)]), (43, .val false [.lit (.int .i64 y17)]), (42, .val false [.lit (.int .i64 y4)]), (41, .ref (.slot 4) [] 0 0 1 false), (40, .val false [.lit (.int .i64 r2.1)]), (39, .val false [.lit (.int .i64 r8)]), (36, .val false [.lit (.bool y9)]), (35, .val false [.lit (.int .i64 r8)]), (9, .val false [.lit (.int .i64 r8)]), (34, .val false [.lit (.int .i64 r8)]), (33, .val false [.lit (.int .i64 y4)]), (32, .ref (.slot 4) [] 0 0 1 false), (31, .val false [.lit (.int .i64 r2.1)]), (28, .val false [.lit (.bool true)]), (27, .val false [.lit (.int .i64 (r2.2.length : Int))]), (26, .ref (.slot 4) [] 0 0 1 false), (25, .val false [.lit (.int .i64 y4)]), (8, .val false [.lit (.int .i64 y4)]), (7, .val false [.lit (.int .i64 y10)]), (6, .val false [.lit (.int .i64 r3.2)]), (5, .adr (.box 5) [(0, 0)] 5 0), (4, .val false [.sl true 8 (r2.2.map Pt.row)]), (3, .val false [.lit (.int .i64 r2.1)]), (2, .val false [.lit (.bool false)])], [(10, (Vec.row r19.1)), (5, (Vec.row r3.1))]⟩ (by kernel_rfl) ?_
                    cases h9 : r19.2
                    · have H := bifF h9 H
                      refine LAt.runU tOk 26 (by kernel_rfl) ?_
                      refine LAt.doneU [124, 123, 122, 121, 120, 119, 118, 117, 116, 115, 114, 113, 112, 111, 110, 109, 108, 107, 106, 105, 104, 103, 102, 101, 100, 99, 98, 97, 96, 95, 94, 93, 92, 91, 90, 89, 88, 87, 86, 85, 84, 83, 11, 10, 82, 69, 81, 79, 78, 77, 76, 75, 74, 73, 72, 71, 70, 68, 67, 66, 63, 62, 61, 60, 59, 58, 57, 56, 55, 54, 53, 52, 51, 50, 49, 48, 47, 46, 45, 44, 43, 42, 41, 40, 39, 36, 35, 9, 34, 33, 32, 31, 28, 27, 26, 25, 8, 7, 6, 5, 4, 3, 2] [10, 5] (by kernel_rfl) ?_
                      refine Tr.cond (b := false) (by kernel_rfl) (fun h => nomatch h) (fun _ => ?_)
                      refine Tr.skip ?_
                      show Tr _ _ _ _ _
                      refine Tr.at ?_
                      refine LAt.runU tOk 3 (by kernel_rfl) ?_
                      refine LAt.doneU [8, 30, 29, 124, 123, 122, 121, 120, 119, 118, 117, 116, 115, 114, 113, 112, 111, 110, 109, 108, 107, 106, 105, 104, 103, 102, 101, 100, 99, 98, 97, 96, 95, 94, 93, 92, 91, 90, 89, 88, 87, 86, 85, 84, 83, 11, 10, 82, 69, 81, 79, 78, 77, 76, 75, 74, 73, 72, 71, 70, 68, 67, 66, 63, 62, 61, 60, 59, 58, 57, 56, 55, 54, 53, 52, 51, 50, 49, 48, 47, 46, 45, 44, 43, 42, 41, 40, 39, 36, 35, 9, 34, 33, 32, 31, 28, 27, 26, 25, 7, 6, 5, 4, 3, 2] [10, 5] (by kernel_rfl) ?_
                      exact Exists.intro (mo7, ((IntKind.wrap .i64 (y4 + 1)), y10)) (And.intro H (And.intro (Nat.lt_succ_self mo7) (St.sub_of [8, 7, 6, 5, 4, 3, 2] [5] (by kernel_rfl))))
                    · have H := bifT h9 H
                      refine LAt.runU tOk 6 (by kernel_rfl) ?_
                      refine LAt.to ⟨155, 0, [(104, .val false [.lit (.bool (decide (r19.1.Root < r3.1.Root)))]), (103, .val false [.lit (.bool (decide (r19.1.Root < r3.1.Root)))]), (102, .val false [.lit (.int .i64 r3.1.Root)]), (101, .adr (.box 5) [(0, 0)] 5 0), (100, .val false [.lit (.int .i64 r19.1.Root)]), (99, .adr (.box 10) [(0, 0)] 5 0), (98, .val false [.lit (.bool true)]), (97, .val false [.lit (.bool true)]), (96, .val false [.lit (.bool true)]), (95, .val false [.lit (.bool true)]), (94, .val false [.lit (.bool true)]), (93, .val false [.lit (.bool true)]), (92, .adr (.slot 4) [(0, (y4.toNat))] 8 2), (91, .adr (.slot 4) [(0, (y4.toNat))] 8 0), (90, .val false [.lit (.int .i64 y4)]), (89, .ref (.slot 4) [] 0 0 1 false), (88, .val false [.lit (.bool true)]), (87, .val false [.lit (.bool true)]), (86, .adr (.slot 4) [(0, (y4.toNat))] 8 0), (85, .adr (.slot 4) [(0, (y4.toNat))] 8 0), (84, .val false [.lit (.int .i64 y4)]), (83, .ref (.slot 4) [] 0 0 1 false), (11, .val false [.lit (.bool true)]), (10, .adr (.box 10) [(0, 0)] 5 0), (82, .val false [.lit (.bool true)]), (69, .tup [(true, [.dead, .dead, .dead, .dead, .dead]), (false, [.dead])]), (81, .val true (Vec.row r19.1)), (79, .val false [.lit (.int .i64 v18.Cost)]), (78, .adr (.slot 4) [(0, (y4.toNat))] 8 1), (77, .adr (.slot 4) [(0, (y4.toNat))] 8 0), (76, .val false [.lit (.int .i64 y4)]), (75, .ref (.slot 4) [] 0 0 1 false), (74, .val true ((Pt.row v18).drop 3)), (73, .adr (.slot 4) [(0, (y4.toNat))] 8 3), (72, .adr (.slot 4) [(0, (y4.toNat))] 8 0), (71, .val false [.lit (.int .i64 y4)]), (70, .ref (.slot 4) [] 0 0 1 false), (68, .val false [.lit (.bool false)]), (67, .val false [.lit (.bool false)]), (66, .val false [.lit (.bool y11)]), (63, .val false [.lit (.bool y12)]), (62, .val false [.lit (.bool y13)]), (61, .val false [.lit (.int .i64 r8)]), (60, .val false [.lit (.bool y14)]), (59, .val false [.lit (.int .i64 y4)]), (58, .val false [.lit (.int .i64 y15)]), (57, .ref (.slot 4) [] 0 0 1 false), (56, .val false [.lit (.int .i64 r2.1)]), (55, .val false [.lit (.bool false)]), (54, .val false [.lit (.bool false)]), (53, .val false [.lit (.bool false)]), (52, .val false [.lit (.bool y16)]), (51, .adr (.slot 4) [(0, (y4.toNat))] 8 0), (50, .adr (.slot 4) [(0, (y4.toNat))] 8 0), (49, .val false [.lit (.int .i64 y4)]), (48, .ref (.slot 4) [] 0 0 1 false), (47, .val false [.lit (.bool (r8 == 4))]), (46, .val false [.lit (.int .i64 r8)]), (45, .val false [.lit (.bool false)]), (44, .val false [.lit (.bool false)]), (43, .val false [.lit (.int .i64 y17)]), (42, .val false [.lit (.int .i64 y4)]), (41, .ref (.slot 4) [] 0 0 1 false), (40, .val false [.lit (.int .i64 r2.1)]), (39, .val false [.lit (.int .i64 r8)]), (36, .val false [.lit (.bool y9)]), (35, .val false [.lit (.int .i64 r8)]), (9, .val false [.lit (.int .i64 r8)]), (34, .val false [.lit (.int .i64 r8)]), (33, .val false [.lit (.int .i64 y4)]), (32, .ref (.slot 4) [] 0 0 1 false), (31, .val false [.lit (.int .i64 r2.1)]), (28, .val false [.lit (.bool true)]), (27, .val false [.lit (.int .i64 (r2.2.length : Int))]), (26, .ref (.slot 4) [] 0 0 1 false), (25, .val false [.lit (.int .i64 y4)]), (8, .val false [.lit (.int .i64 y4)]), (7, .val false [.lit (.int .i64 y10)]), (6, .val false [.lit (.int .i64 r3.2)]), (5, .adr (.box 5) [(0, 0)] 5 0), (4, .val false [.sl true 8 (r2.2.map Pt.row)]), (3, .val false [.lit (.int .i64 r2.1)]), (2, .val false [.lit (.bool false)])], [(10, (Vec.row r19.1)), (5, (Vec.row r3.1))]⟩ (by kernel_rfl) ?_
                      cases h10 : (decide (r19.1.Root < r3.1.Root))
                      · have H := bifF h10 H
                        refine LAt.runU tOk 6 (by kernel_rfl) ?_
                        refine LAt.to ⟨155, 0, [(110, .val false [.lit (.bool (r19.1.Root == r3.1.Root))]), (109, .val false [.lit (.bool (r19.1.Root == r3.1.Root))]), (108, .val false [.lit (.int .i64 r3.1.Root)]), (107, .adr (.box 5) [(0, 0)] 5 0), (106, .val false [.lit (.int .i64 r19.1.Root)]), (105, .adr (.box 10) [(0, 0)] 5 0), (104, .val false [.lit (.bool false)]), (103, .val false [.lit (.bool false)]), (102, .val false [.lit (.int .i64 r3.1.Root)]), (101, .adr (.box 5) [(0, 0)] 5 0), (100, .val false [.lit (.int .i64 r19.1.Root)]), (99, .adr (.box 10) [(0, 0)] 5 0), (98, .val false [.lit (.bool true)]), (97, .val false [.lit (.bool true)]), (96, .val false [.lit (.bool true)]), (95, .val false [.lit (.bool true)]), (94, .val false [.lit (.bool true)]), (93, .val false [.lit (.bool true)]), (92, .adr (.slot 4) [(0, (y4.toNat))] 8 2), (91, .adr (.slot 4) [(0, (y4.toNat))] 8 0), (90, .val false [.lit (.int .i64 y4)]), (89, .ref (.slot 4) [] 0 0 1 false), (88, .val false [.lit (.bool true)]), (87, .val false [.lit (.bool true)]), (86, .adr (.slot 4) [(0, (y4.toNat))] 8 0), (85, .adr (.slot 4) [(0, (y4.toNat))] 8 0), (84, .val false [.lit (.int .i64 y4)]), (83, .ref (.slot 4) [] 0 0 1 false), (11, .val false [.lit (.bool true)]), (10, .adr (.box 10) [(0, 0)] 5 0), (82, .val false [.lit (.bool true)]), (69, .tup [(true, [.dead, .dead, .dead, .dead, .dead]), (false, [.dead])]), (81, .val true (Vec.row r19.1)), (79, .val false [.lit (.int .i64 v18.Cost)]), (78, .adr (.slot 4) [(0, (y4.toNat))] 8 1), (77, .adr (.slot 4) [(0, (y4.toNat))] 8 0), (76, .val false [.lit (.int .i64 y4)]), (75, .ref (.slot 4) [] 0 0 1 false), (74, .val true ((Pt.row v18).drop 3)), (73, .adr (.slot 4) [(0, (y4.toNat))] 8 3), (72, .adr (.slot 4) [(0, (y4.toNat))] 8 0), (71, .val false [.lit (.int .i64 y4)]), (70, .ref (.slot 4) [] 0 0 1 false), (68, .val false [.lit (.bool false)]), (67, .val false [.lit (.bool false)]), (66, .val false [.lit (.bool y11)]), (63, .val false [.lit (.bool y12)]), (62, .val false [.lit (.bool y13)]), (61, .val false [.lit (.int .i64 r8)]), (60, .val false [.lit (.bool y14)]), (59, .val false [.lit (.int .i64 y4)]), (58, .val false [.lit (.int .i64 y15)]), (57, .ref (.slot 4) [] 0 0 1 false), (56, .val false [.lit (.int .i64 r2.1)]), (55, .val false [.lit (.bool false)]), (54, .val false [.lit (.bool false)]), (53, .val false [.lit (.bool false)]), (52, .val false [.lit (.bool y16)]), (51, .adr (.slot 4) [(0, (y4.toNat))] 8 0), (50, .adr (.slot 4) [(0, (y4.toNat))] 8 0), (49, .val false [.lit (.int .i64 y4)]), (48, .ref (.slot 4) [] 0 0 1 false), (47, .val false [.lit (.bool (r8 == 4))]), (46, .val false [.lit (.int .i64 r8)]), (45, .val false [.lit (.bool false)]), (44, .val false [.lit (.bool false)]), (43, .val false [.lit (.int .i64 y17)]), (42, .val false [.lit (.int .i64 y4)]), (41, .ref (.slot 4) [] 0 0 1 false), (40, .val false [.lit (.int .i64 r2.1)]), (39, .val false [.lit (.int .i64 r8)]), (36, .val false [.lit (.bool y9)]), (35, .val false [.lit (.int .i64 r8)]), (9, .val false [.lit (.int .i64 r8)]), (34, .val false [.lit (.int .i64 r8)]), (33, .val false [.lit (.int .i64 y4)]), (32, .ref (.slot 4) [] 0 0 1 false), (31, .val false [.lit (.int .i64 r2.1)]), (28, .val false [.lit (.bool true)]), (27, .val false [.lit (.int .i64 (r2.2.length : Int))]), (26, .ref (.slot 4) [] 0 0 1 false), (25, .val false [.lit (.int .i64 y4)]), (8, .val false [.lit (.int .i64 y4)]), (7, .val false [.lit (.int .i64 y10)]), (6, .val false [.lit (.int .i64 r3.2)]), (5, .adr (.box 5) [(0, 0)] 5 0), (4, .val false [.sl true 8 (r2.2.map Pt.row)]), (3, .val false [.lit (.int .i64 r2.1)]), (2, .val false [.lit (.bool false)])], [(10, (Vec.row r19.1)), (5, (Vec.row r3.1))]⟩ (by kernel_rfl) ?_
                        cases h11 : (r19.1.Root == r3.1.Root)
                        · have H := bifF h11 H
                          refine LAt.runU tOk 14 (by kernel_rfl) ?_
                          refine LAt.doneU [124, 123, 122, 121, 120, 119, 118, 117, 116, 115, 114, 113, 112, 111, 110, 109, 108, 107, 106, 105, 104, 103, 102, 101, 100, 99, 98, 97, 96, 95, 94, 93, 92, 91, 90, 89, 88, 87, 86, 85, 84, 83, 11, 10, 82, 69, 81, 79, 78, 77, 76, 75, 74, 73, 72, 71, 70, 68, 67, 66, 63, 62, 61, 60, 59, 58, 57, 56, 55, 54, 53, 52, 51, 50, 49, 48, 47, 46, 45, 44, 43, 42, 41, 40, 39, 36, 35, 9, 34, 33, 32, 31, 28, 27, 26, 25, 8, 7, 6, 5, 4, 3, 2] [10, 5] (by kernel_rfl) ?_
                          refine Tr.cond (b := false) (by kernel_rfl) (fun h => nomatch h) (fun _ => ?_)
                          refine Tr.skip ?_
                          show Tr _ _ _ _ _
                          refine Tr.at ?_
                          refine LAt.runU tOk 3 (by kernel_rfl) ?_
                          refine LAt.doneU [8, 30, 29, 124, 123, 122, 121, 120, 119, 118, 117, 116, 115, 114, 113, 112, 111, 110, 109, 108, 107, 106, 105, 104, 103, 102, 101, 100, 99, 98, 97, 96, 95, 94, 93, 92, 91, 90, 89, 88, 87, 86, 85, 84, 83, 11, 10, 82, 69, 81, 79, 78, 77, 76, 75, 74, 73, 72, 71, 70, 68, 67, 66, 63, 62, 61, 60, 59, 58, 57, 56, 55, 54, 53, 52, 51, 50, 49, 48, 47, 46, 45, 44, 43, 42, 41, 40, 39, 36, 35, 9, 34, 33, 32, 31, 28, 27, 26, 25, 7, 6, 5, 4, 3, 2] [10, 5] (by kernel_rfl) ?_
                          exact Exists.intro (mo7, ((IntKind.wrap .i64 (y4 + 1)), y10)) (And.intro H (And.intro (Nat.lt_succ_self mo7) (St.sub_of [8, 7, 6, 5, 4, 3, 2] [5] (by kernel_rfl))))
                        · have H := bifT h11 H
                          refine LAt.runU tOk 7 (by kernel_rfl) ?_
                          refine LAt.to ⟨155, 0, [(117, .val false [.lit (.bool (decide (r19.1.Cost < r3.1.Cost)))]), (116, .val false [.lit (.bool (decide (r19.1.Cost < r3.1.Cost)))]), (115, .val false [.lit (.bool (decide (r19.1.Cost < r3.1.Cost)))]), (114, .val false [.lit (.int .i64 r3.1.Cost)]), (113, .adr (.box 5) [(0, 0)] 5 1), (112, .val false [.lit (.int .i64 r19.1.Cost)]), (111, .adr (.box 10) [(0, 0)] 5 1), (110, .val false [.lit (.bool true)]), (109, .val false [.lit (.bool true)]), (108, .val false [.lit (.int .i64 r3.1.Root)]), (107, .adr (.box 5) [(0, 0)] 5 0), (106, .val false [.lit (.int .i64 r19.1.Root)]), (105, .adr (.box 10) [(0, 0)] 5 0), (104, .val false [.lit (.bool false)]), (103, .val false [.lit (.bool false)]), (102, .val false [.lit (.int .i64 r3.1.Root)]), (101, .adr (.box 5) [(0, 0)] 5 0), (100, .val false [.lit (.int .i64 r19.1.Root)]), (99, .adr (.box 10) [(0, 0)] 5 0), (98, .val false [.lit (.bool true)]), (97, .val false [.lit (.bool true)]), (96, .val false [.lit (.bool true)]), (95, .val false [.lit (.bool true)]), (94, .val false [.lit (.bool true)]), (93, .val false [.lit (.bool true)]), (92, .adr (.slot 4) [(0, (y4.toNat))] 8 2), (91, .adr (.slot 4) [(0, (y4.toNat))] 8 0), (90, .val false [.lit (.int .i64 y4)]), (89, .ref (.slot 4) [] 0 0 1 false), (88, .val false [.lit (.bool true)]), (87, .val false [.lit (.bool true)]), (86, .adr (.slot 4) [(0, (y4.toNat))] 8 0), (85, .adr (.slot 4) [(0, (y4.toNat))] 8 0), (84, .val false [.lit (.int .i64 y4)]), (83, .ref (.slot 4) [] 0 0 1 false), (11, .val false [.lit (.bool true)]), (10, .adr (.box 10) [(0, 0)] 5 0), (82, .val false [.lit (.bool true)]), (69, .tup [(true, [.dead, .dead, .dead, .dead, .dead]), (false, [.dead])]), (81, .val true (Vec.row r19.1)), (79, .val false [.lit (.int .i64 v18.Cost)]), (78, .adr (.slot 4) [(0, (y4.toNat))] 8 1), (77, .adr (.slot 4) [(0, (y4.toNat))] 8 0), (76, .val false [.lit (.int .i64 y4)]), (75, .ref (.slot 4) [] 0 0 1 false), (74, .val true ((Pt.row v18).drop 3)), (73, .adr (.slot 4) [(0, (y4.toNat))] 8 3), (72, .adr (.slot 4) [(0, (y4.toNat))] 8 0), (71, .val false [.lit (.int .i64 y4)]), (70, .ref (.slot 4) [] 0 0 1 false), (68, .val false [.lit (.bool false)]), (67, .val false [.lit (.bool false)]), (66, .val false [.lit (.bool y11)]), (63, .val false [.lit (.bool y12)]), (62, .val false [.lit (.bool y13)]), (61, .val false [.lit (.int .i64 r8)]), (60, .val false [.lit (.bool y14)]), (59, .val false [.lit (.int .i64 y4)]), (58, .val false [.lit (.int .i64 y15)]), (57, .ref (.slot 4) [] 0 0 1 false), (56, .val false [.lit (.int .i64 r2.1)]), (55, .val false [.lit (.bool false)]), (54, .val false [.lit (.bool false)]), (53, .val false [.lit (.bool false)]), (52, .val false [.lit (.bool y16)]), (51, .adr (.slot 4) [(0, (y4.toNat))] 8 0), (50, .adr (.slot 4) [(0, (y4.toNat))] 8 0), (49, .val false [.lit (.int .i64 y4)]), (48, .ref (.slot 4) [] 0 0 1 false), (47, .val false [.lit (.bool (r8 == 4))]), (46, .val false [.lit (.int .i64 r8)]), (45, .val false [.lit (.bool false)]), (44, .val false [.lit (.bool false)]), (43, .val false [.lit (.int .i64 y17)]), (42, .val false [.lit (.int .i64 y4)]), (41, .ref (.slot 4) [] 0 0 1 false), (40, .val false [.lit (.int .i64 r2.1)]), (39, .val false [.lit (.int .i64 r8)]), (36, .val false [.lit (.bool y9)]), (35, .val false [.lit (.int .i64 r8)]), (9, .val false [.lit (.int .i64 r8)]), (34, .val false [.lit (.int .i64 r8)]), (33, .val false [.lit (.int .i64 y4)]), (32, .ref (.slot 4) [] 0 0 1 false), (31, .val false [.lit (.int .i64 r2.1)]), (28, .val false [.lit (.bool true)]), (27, .val false [.lit (.int .i64 (r2.2.length : Int))]), (26, .ref (.slot 4) [] 0 0 1 false), (25, .val false [.lit (.int .i64 y4)]), (8, .val false [.lit (.int .i64 y4)]), (7, .val false [.lit (.int .i64 y10)]), (6, .val false [.lit (.int .i64 r3.2)]), (5, .adr (.box 5) [(0, 0)] 5 0), (4, .val false [.sl true 8 (r2.2.map Pt.row)]), (3, .val false [.lit (.int .i64 r2.1)]), (2, .val false [.lit (.bool false)])], [(10, (Vec.row r19.1)), (5, (Vec.row r3.1))]⟩ (by kernel_rfl) ?_
                          cases h12 : (decide (r19.1.Cost < r3.1.Cost))
                          · have H := bifF h12 H
                            refine LAt.runU tOk 7 (by kernel_rfl) ?_
                            refine LAt.doneU [124, 123, 122, 121, 120, 119, 118, 117, 116, 115, 114, 113, 112, 111, 110, 109, 108, 107, 106, 105, 104, 103, 102, 101, 100, 99, 98, 97, 96, 95, 94, 93, 92, 91, 90, 89, 88, 87, 86, 85, 84, 83, 11, 10, 82, 69, 81, 79, 78, 77, 76, 75, 74, 73, 72, 71, 70, 68, 67, 66, 63, 62, 61, 60, 59, 58, 57, 56, 55, 54, 53, 52, 51, 50, 49, 48, 47, 46, 45, 44, 43, 42, 41, 40, 39, 36, 35, 9, 34, 33, 32, 31, 28, 27, 26, 25, 8, 7, 6, 5, 4, 3, 2] [10, 5] (by kernel_rfl) ?_
                            refine Tr.cond (b := false) (by kernel_rfl) (fun h => nomatch h) (fun _ => ?_)
                            refine Tr.skip ?_
                            show Tr _ _ _ _ _
                            refine Tr.at ?_
                            refine LAt.runU tOk 3 (by kernel_rfl) ?_
                            refine LAt.doneU [8, 30, 29, 124, 123, 122, 121, 120, 119, 118, 117, 116, 115, 114, 113, 112, 111, 110, 109, 108, 107, 106, 105, 104, 103, 102, 101, 100, 99, 98, 97, 96, 95, 94, 93, 92, 91, 90, 89, 88, 87, 86, 85, 84, 83, 11, 10, 82, 69, 81, 79, 78, 77, 76, 75, 74, 73, 72, 71, 70, 68, 67, 66, 63, 62, 61, 60, 59, 58, 57, 56, 55, 54, 53, 52, 51, 50, 49, 48, 47, 46, 45, 44, 43, 42, 41, 40, 39, 36, 35, 9, 34, 33, 32, 31, 28, 27, 26, 25, 7, 6, 5, 4, 3, 2] [10, 5] (by kernel_rfl) ?_
                            exact Exists.intro (mo7, ((IntKind.wrap .i64 (y4 + 1)), y10)) (And.intro H (And.intro (Nat.lt_succ_self mo7) (St.sub_of [8, 7, 6, 5, 4, 3, 2] [5] (by kernel_rfl))))
                          · have H := bifT h12 H
                            refine LAt.runU tOk 7 (by kernel_rfl) ?_
                            refine LAt.doneU [124, 123, 122, 121, 120, 119, 118, 117, 116, 115, 114, 113, 112, 111, 110, 109, 108, 107, 106, 105, 104, 103, 102, 101, 100, 99, 98, 97, 96, 95, 94, 93, 92, 91, 90, 89, 88, 87, 86, 85, 84, 83, 11, 10, 82, 69, 81, 79, 78, 77, 76, 75, 74, 73, 72, 71, 70, 68, 67, 66, 63, 62, 61, 60, 59, 58, 57, 56, 55, 54, 53, 52, 51, 50, 49, 48, 47, 46, 45, 44, 43, 42, 41, 40, 39, 36, 35, 9, 34, 33, 32, 31, 28, 27, 26, 25, 8, 7, 6, 5, 4, 3, 2] [10, 5] (by kernel_rfl) ?_
                            refine Tr.to ⟨155, 0, [(124, .val false [.lit (.bool (decide (r19.1.Root < r2.1)))]), (123, .val false [.lit (.bool (decide (r19.1.Root < r2.1)))]), (122, .val false [.lit (.bool (decide (r19.1.Root < r2.1)))]), (121, .val false [.lit (.bool (decide (r19.1.Root < r2.1)))]), (120, .val false [.lit (.int .i64 r2.1)]), (119, .val false [.lit (.int .i64 r19.1.Root)]), (118, .adr (.box 10) [(0, 0)] 5 0), (117, .val false [.lit (.bool true)]), (116, .val false [.lit (.bool true)]), (115, .val false [.lit (.bool true)]), (114, .val false [.lit (.int .i64 r3.1.Cost)]), (113, .adr (.box 5) [(0, 0)] 5 1), (112, .val false [.lit (.int .i64 r19.1.Cost)]), (111, .adr (.box 10) [(0, 0)] 5 1), (110, .val false [.lit (.bool true)]), (109, .val false [.lit (.bool true)]), (108, .val false [.lit (.int .i64 r3.1.Root)]), (107, .adr (.box 5) [(0, 0)] 5 0), (106, .val false [.lit (.int .i64 r19.1.Root)]), (105, .adr (.box 10) [(0, 0)] 5 0), (104, .val false [.lit (.bool false)]), (103, .val false [.lit (.bool false)]), (102, .val false [.lit (.int .i64 r3.1.Root)]), (101, .adr (.box 5) [(0, 0)] 5 0), (100, .val false [.lit (.int .i64 r19.1.Root)]), (99, .adr (.box 10) [(0, 0)] 5 0), (98, .val false [.lit (.bool true)]), (97, .val false [.lit (.bool true)]), (96, .val false [.lit (.bool true)]), (95, .val false [.lit (.bool true)]), (94, .val false [.lit (.bool true)]), (93, .val false [.lit (.bool true)]), (92, .adr (.slot 4) [(0, (y4.toNat))] 8 2), (91, .adr (.slot 4) [(0, (y4.toNat))] 8 0), (90, .val false [.lit (.int .i64 y4)]), (89, .ref (.slot 4) [] 0 0 1 false), (88, .val false [.lit (.bool true)]), (87, .val false [.lit (.bool true)]), (86, .adr (.slot 4) [(0, (y4.toNat))] 8 0), (85, .adr (.slot 4) [(0, (y4.toNat))] 8 0), (84, .val false [.lit (.int .i64 y4)]), (83, .ref (.slot 4) [] 0 0 1 false), (11, .val false [.lit (.bool true)]), (10, .adr (.box 10) [(0, 0)] 5 0), (82, .val false [.lit (.bool true)]), (69, .tup [(true, [.dead, .dead, .dead, .dead, .dead]), (false, [.dead])]), (81, .val true (Vec.row r19.1)), (79, .val false [.lit (.int .i64 v18.Cost)]), (78, .adr (.slot 4) [(0, (y4.toNat))] 8 1), (77, .adr (.slot 4) [(0, (y4.toNat))] 8 0), (76, .val false [.lit (.int .i64 y4)]), (75, .ref (.slot 4) [] 0 0 1 false), (74, .val true ((Pt.row v18).drop 3)), (73, .adr (.slot 4) [(0, (y4.toNat))] 8 3), (72, .adr (.slot 4) [(0, (y4.toNat))] 8 0), (71, .val false [.lit (.int .i64 y4)]), (70, .ref (.slot 4) [] 0 0 1 false), (68, .val false [.lit (.bool false)]), (67, .val false [.lit (.bool false)]), (66, .val false [.lit (.bool y11)]), (63, .val false [.lit (.bool y12)]), (62, .val false [.lit (.bool y13)]), (61, .val false [.lit (.int .i64 r8)]), (60, .val false [.lit (.bool y14)]), (59, .val false [.lit (.int .i64 y4)]), (58, .val false [.lit (.int .i64 y15)]), (57, .ref (.slot 4) [] 0 0 1 false), (56, .val false [.lit (.int .i64 r2.1)]), (55, .val false [.lit (.bool false)]), (54, .val false [.lit (.bool false)]), (53, .val false [.lit (.bool false)]), (52, .val false [.lit (.bool y16)]), (51, .adr (.slot 4) [(0, (y4.toNat))] 8 0), (50, .adr (.slot 4) [(0, (y4.toNat))] 8 0), (49, .val false [.lit (.int .i64 y4)]), (48, .ref (.slot 4) [] 0 0 1 false), (47, .val false [.lit (.bool (r8 == 4))]), (46, .val false [.lit (.int .i64 r8)]), (45, .val false [.lit (.bool false)]), (44, .val false [.lit (.bool false)]), (43, .val false [.lit (.int .i64 y17)]), (42, .val false [.lit (.int .i64 y4)]), (41, .ref (.slot 4) [] 0 0 1 false), (40, .val false [.lit (.int .i64 r2.1)]), (39, .val false [.lit (.int .i64 r8)]), (36, .val false [.lit (.bool y9)]), (35, .val false [.lit (.int .i64 r8)]), (9, .val false [.lit (.int .i64 r8)]), (34, .val false [.lit (.int .i64 r8)]), (33, .val false [.lit (.int .i64 y4)]), (32, .ref (.slot 4) [] 0 0 1 false), (31, .val false [.lit (.int .i64 r2.1)]), (28, .val false [.lit (.bool true)]), (27, .val false [.lit (.int .i64 (r2.2.length : Int))]), (26, .ref (.slot 4) [] 0 0 1 false), (25, .val false [.lit (.int .i64 y4)]), (8, .val false [.lit (.int .i64 y4)]), (7, .val false [.lit (.int .i64 y10)]), (6, .val false [.lit (.int .i64 r3.2)]), (5, .adr (.box 5) [(0, 0)] 5 0), (4, .val false [.sl true 8 (r2.2.map Pt.row)]), (3, .val false [.lit (.int .i64 r2.1)]), (2, .val false [.lit (.bool false)])], [(10, (Vec.row r19.1)), (5, (Vec.row r3.1))]⟩ (by kernel_rfl) ?_
                            cases h13 : (decide (r19.1.Root < r2.1))
                            · have H := bifF h13 H
                              refine Tr.cond (b := false) (by kernel_rfl) (fun h => nomatch h) (fun _ => ?_)
                              refine Tr.skip ?_
                              show Tr _ _ _ _ _
                              refine Tr.at ?_
                              refine LAt.runU tOk 3 (by kernel_rfl) ?_
                              refine LAt.doneU [8, 30, 29, 124, 123, 122, 121, 120, 119, 118, 117, 116, 115, 114, 113, 112, 111, 110, 109, 108, 107, 106, 105, 104, 103, 102, 101, 100, 99, 98, 97, 96, 95, 94, 93, 92, 91, 90, 89, 88, 87, 86, 85, 84, 83, 11, 10, 82, 69, 81, 79, 78, 77, 76, 75, 74, 73, 72, 71, 70, 68, 67, 66, 63, 62, 61, 60, 59, 58, 57, 56, 55, 54, 53, 52, 51, 50, 49, 48, 47, 46, 45, 44, 43, 42, 41, 40, 39, 36, 35, 9, 34, 33, 32, 31, 28, 27, 26, 25, 7, 6, 5, 4, 3, 2] [10, 5] (by kernel_rfl) ?_
                              exact Exists.intro (mo7, ((IntKind.wrap .i64 (y4 + 1)), y10)) (And.intro H (And.intro (Nat.lt_succ_self mo7) (St.sub_of [8, 7, 6, 5, 4, 3, 2] [5] (by kernel_rfl))))
                            · have H := bifT h13 H
                              refine Tr.cond (b := true) (by kernel_rfl) (fun _ => ?_) (fun h => nomatch h)
                              refine Tr.rs ?_
                              refine LAt.runU tOk 1 (by kernel_rfl) ?_
                              refine LAt.doneU [2, 124, 123, 122, 121, 120, 119, 118, 117, 116, 115, 114, 113, 112, 111, 110, 109, 108, 107, 106, 105, 104, 103, 102, 101, 100, 99, 98, 97, 96, 95, 94, 93, 92, 91, 90, 89, 88, 87, 86, 85, 84, 83, 11, 10, 82, 69, 81, 79, 78, 77, 76, 75, 74, 73, 72, 71, 70, 68, 67, 66, 63, 62, 61, 60, 59, 58, 57, 56, 55, 54, 53, 52, 51, 50, 49, 48, 47, 46, 45, 44, 43, 42, 41, 40, 39, 36, 35, 9, 34, 33, 32, 31, 28, 27, 26, 25, 8, 7, 6, 5, 4, 3] [10, 5] (by kernel_rfl) ?_
                              refine Tr.ret ?_
                              have H := Option.some.inj H
                              subst H
                              have H := Ho7
                              dsimp only at H
                              have H := Option.some.inj H
                              subst H
                              exact Fin.of _ [(false, [.lit (.bool false)])] (by kernel_rfl) rfl rfl
                      · have H := bifT h10 H
                        refine LAt.runU tOk 20 (by kernel_rfl) ?_
                        refine LAt.doneU [124, 123, 122, 121, 120, 119, 118, 117, 116, 115, 114, 113, 112, 111, 110, 109, 108, 107, 106, 105, 104, 103, 102, 101, 100, 99, 98, 97, 96, 95, 94, 93, 92, 91, 90, 89, 88, 87, 86, 85, 84, 83, 11, 10, 82, 69, 81, 79, 78, 77, 76, 75, 74, 73, 72, 71, 70, 68, 67, 66, 63, 62, 61, 60, 59, 58, 57, 56, 55, 54, 53, 52, 51, 50, 49, 48, 47, 46, 45, 44, 43, 42, 41, 40, 39, 36, 35, 9, 34, 33, 32, 31, 28, 27, 26, 25, 8, 7, 6, 5, 4, 3, 2] [10, 5] (by kernel_rfl) ?_
                        refine Tr.cond (b := true) (by kernel_rfl) (fun _ => ?_) (fun h => nomatch h)
                        refine Tr.rs ?_
                        refine LAt.runU tOk 1 (by kernel_rfl) ?_
                        refine LAt.doneU [2, 124, 123, 122, 121, 120, 119, 118, 117, 116, 115, 114, 113, 112, 111, 110, 109, 108, 107, 106, 105, 104, 103, 102, 101, 100, 99, 98, 97, 96, 95, 94, 93, 92, 91, 90, 89, 88, 87, 86, 85, 84, 83, 11, 10, 82, 69, 81, 79, 78, 77, 76, 75, 74, 73, 72, 71, 70, 68, 67, 66, 63, 62, 61, 60, 59, 58, 57, 56, 55, 54, 53, 52, 51, 50, 49, 48, 47, 46, 45, 44, 43, 42, 41, 40, 39, 36, 35, 9, 34, 33, 32, 31, 28, 27, 26, 25, 8, 7, 6, 5, 4, 3] [10, 5] (by kernel_rfl) ?_
                        refine Tr.ret ?_
                        have H := Option.some.inj H
                        subst H
                        have H := Ho7
                        dsimp only at H
                        have H := Option.some.inj H
                        subst H
                        exact Fin.of _ [(false, [.lit (.bool false)])] (by kernel_rfl) rfl rfl
    · rintro y6 H
      have H : (laws_FnRoles_J1 n r2 r3 y6) = some r := H
      unfold laws_FnRoles_J1 at H
      show Tr _ _ _ _ _
      refine Tr.rs ?_
      refine LAt.runU tOk 5 (by kernel_rfl) ?_
      refine LAt.to ⟨155, 0, [(129, .val false [.lit (.bool (r3.1.Bridge == r2.1))]), (128, .val false [.lit (.bool (r3.1.Bridge == r2.1))]), (127, .val false [.lit (.int .i64 r2.1)]), (126, .val false [.lit (.int .i64 r3.1.Bridge)]), (125, .adr (.box 5) [(0, 0)] 5 3), (7, .val false [.lit (.int .i64 y6)]), (6, .val false [.lit (.int .i64 r3.2)]), (5, .adr (.box 5) [(0, 0)] 5 0), (3, .val false [.lit (.int .i64 r2.1)]), (2, .val false [.lit (.bool false)])], [(5, (Vec.row r3.1))]⟩ (by kernel_rfl) ?_
      cases h2 : (r3.1.Bridge == r2.1)
      · have H := bifF h2 H
        refine LAt.runU tOk 26 (by kernel_rfl) ?_
        refine LAt.doneU [2] [] (by kernel_rfl) ?_
        refine Tr.ret ?_
        have H := Option.some.inj H
        subst H
        exact Fin.of _ [(false, [.lit (.bool false)])] (by kernel_rfl) rfl rfl
      · have H := bifT h2 H
        refine LAt.runU tOk 6 (by kernel_rfl) ?_
        refine LAt.to ⟨155, 0, [(135, .val false [.lit (.bool (decide (r3.1.Root ≤ r2.1)))]), (134, .val false [.lit (.bool (decide (r3.1.Root ≤ r2.1)))]), (133, .val false [.lit (.bool (decide (r3.1.Root ≤ r2.1)))]), (132, .val false [.lit (.int .i64 r2.1)]), (131, .val false [.lit (.int .i64 r3.1.Root)]), (130, .adr (.box 5) [(0, 0)] 5 0), (129, .val false [.lit (.bool true)]), (128, .val false [.lit (.bool true)]), (127, .val false [.lit (.int .i64 r2.1)]), (126, .val false [.lit (.int .i64 r3.1.Bridge)]), (125, .adr (.box 5) [(0, 0)] 5 3), (7, .val false [.lit (.int .i64 y6)]), (6, .val false [.lit (.int .i64 r3.2)]), (5, .adr (.box 5) [(0, 0)] 5 0), (3, .val false [.lit (.int .i64 r2.1)]), (2, .val false [.lit (.bool false)])], [(5, (Vec.row r3.1))]⟩ (by kernel_rfl) ?_
        cases h3 : (decide (r3.1.Root ≤ r2.1))
        · have H := bifF h3 H
          refine LAt.runU tOk 20 (by kernel_rfl) ?_
          refine LAt.doneU [2] [] (by kernel_rfl) ?_
          refine Tr.ret ?_
          have H := Option.some.inj H
          subst H
          exact Fin.of _ [(false, [.lit (.bool false)])] (by kernel_rfl) rfl rfl
        · have H := bifT h3 H
          refine LAt.runU tOk 9 (by kernel_rfl) ?_
          refine LAt.to ⟨155, 0, [(144, .val false [.lit (.bool ((r3.1.Root == r2.1) == (r3.2 == (-1))))]), (143, .val false [.lit (.bool ((r3.1.Root == r2.1) == (r3.2 == (-1))))]), (142, .val false [.lit (.bool ((r3.1.Root == r2.1) == (r3.2 == (-1))))]), (141, .val false [.lit (.bool (r3.2 == (-1)))]), (140, .val false [.lit (.int .i64 r3.2)]), (139, .val false [.lit (.bool (r3.1.Root == r2.1))]), (138, .val false [.lit (.int .i64 r2.1)]), (137, .val false [.lit (.int .i64 r3.1.Root)]), (136, .adr (.box 5) [(0, 0)] 5 0), (135, .val false [.lit (.bool true)]), (134, .val false [.lit (.bool true)]), (133, .val false [.lit (.bool true)]), (132, .val false [.lit (.int .i64 r2.1)]), (131, .val false [.lit (.int .i64 r3.1.Root)]), (130, .adr (.box 5) [(0, 0)] 5 0), (129, .val false [.lit (.bool true)]), (128, .val false [.lit (.bool true)]), (127, .val false [.lit (.int .i64 r2.1)]), (126, .val false [.lit (.int .i64 r3.1.Bridge)]), (125, .adr (.box 5) [(0, 0)] 5 3), (7, .val false [.lit (.int .i64 y6)]), (6, .val false [.lit (.int .i64 r3.2)]), (5, .adr (.box 5) [(0, 0)] 5 0), (3, .val false [.lit (.int .i64 r2.1)]), (2, .val false [.lit (.bool false)])], [(5, (Vec.row r3.1))]⟩ (by kernel_rfl) ?_
          cases h4 : ((r3.1.Root == r2.1) == (r3.2 == (-1)))
          · have H := bifF h4 H
            refine LAt.runU tOk 11 (by kernel_rfl) ?_
            refine LAt.doneU [2] [] (by kernel_rfl) ?_
            refine Tr.ret ?_
            have H := Option.some.inj H
            subst H
            exact Fin.of _ [(false, [.lit (.bool false)])] (by kernel_rfl) rfl rfl
          · have H := bifT h4 H
            refine LAt.runU tOk 7 (by kernel_rfl) ?_
            refine LAt.to ⟨155, 0, [(151, .val false [.lit (.bool ((y6 == 1) == (decide (r3.2 ≥ 0))))]), (150, .val false [.lit (.bool ((y6 == 1) == (decide (r3.2 ≥ 0))))]), (149, .val false [.lit (.bool ((y6 == 1) == (decide (r3.2 ≥ 0))))]), (148, .val false [.lit (.bool (decide (r3.2 ≥ 0)))]), (147, .val false [.lit (.int .i64 r3.2)]), (146, .val false [.lit (.bool (y6 == 1))]), (145, .val false [.lit (.int .i64 y6)]), (144, .val false [.lit (.bool true)]), (143, .val false [.lit (.bool true)]), (142, .val false [.lit (.bool true)]), (141, .val false [.lit (.bool (r3.2 == (-1)))]), (140, .val false [.lit (.int .i64 r3.2)]), (139, .val false [.lit (.bool (r3.1.Root == r2.1))]), (138, .val false [.lit (.int .i64 r2.1)]), (137, .val false [.lit (.int .i64 r3.1.Root)]), (136, .adr (.box 5) [(0, 0)] 5 0), (135, .val false [.lit (.bool true)]), (134, .val false [.lit (.bool true)]), (133, .val false [.lit (.bool true)]), (132, .val false [.lit (.int .i64 r2.1)]), (131, .val false [.lit (.int .i64 r3.1.Root)]), (130, .adr (.box 5) [(0, 0)] 5 0), (129, .val false [.lit (.bool true)]), (128, .val false [.lit (.bool true)]), (127, .val false [.lit (.int .i64 r2.1)]), (126, .val false [.lit (.int .i64 r3.1.Bridge)]), (125, .adr (.box 5) [(0, 0)] 5 3), (7, .val false [.lit (.int .i64 y6)]), (6, .val false [.lit (.int .i64 r3.2)]), (5, .adr (.box 5) [(0, 0)] 5 0), (3, .val false [.lit (.int .i64 r2.1)]), (2, .val false [.lit (.bool false)])], [(5, (Vec.row r3.1))]⟩ (by kernel_rfl) ?_
            cases h5 : ((y6 == 1) == (decide (r3.2 ≥ 0)))
            · have H := bifF h5 H
              refine LAt.runU tOk 4 (by kernel_rfl) ?_
              refine LAt.doneU [2] [] (by kernel_rfl) ?_
              refine Tr.ret ?_
              have H := Option.some.inj H
              subst H
              exact Fin.of _ [(false, [.lit (.bool false)])] (by kernel_rfl) rfl rfl
            · have H := bifT h5 H
              refine LAt.runU tOk 4 (by kernel_rfl) ?_
              refine LAt.doneU [2] [] (by kernel_rfl) ?_
              refine Tr.ret ?_
              have H := Option.some.inj H
              subst H
              exact Fin.of _ [(false, [.lit (.bool (decide (y6 ≤ 1)))])] (by kernel_rfl) rfl rfl
  · have H := bifT h1 H
    refine Tr.cond (b := true) (by kernel_rfl) (fun _ => ?_) (fun h => nomatch h)
    refine Tr.rs ?_
    refine LAt.runU tOk 1 (by kernel_rfl) ?_
    refine LAt.doneU [2, 0] [] (by kernel_rfl) ?_
    refine Tr.ret ?_
    have H := Option.some.inj H
    subst H
    exact Fin.of _ [(false, [.lit (.bool true)])] (by kernel_rfl) rfl rfl
end Go.Proofs.Ytnhmckiejhbmcaa.Tw
