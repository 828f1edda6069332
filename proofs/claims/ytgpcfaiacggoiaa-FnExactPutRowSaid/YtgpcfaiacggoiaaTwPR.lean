/- Functions of the program, over trees. -/
import Derived.Test.YtgpcfaiacggoiaaProg
import Derived.Test.YtgpcfaiacggoiaaTlRule
import Derived.Test.YtgpcfaiacggoiaaTlU3
import Derived.Test.YtgpcfaiacggoiaaTwPR1
import Derived.WalkKit
set_option linter.unusedVariables false
set_option linter.unusedSimpArgs false
set_option maxRecDepth 100000
set_option maxHeartbeats 1000000
namespace Go.Proofs.Ytgpcfaiacggoiaa.Tw
open Go Go.TL Go.Proofs


def laws_heldVrowS_J1 (n : Nat) (y3 : Int) : Option (Int) :=
  (some y3)
def laws_heldVrowS_L2 (n : Nat) : Nat → (List Vrow) → Int → Int → Option ((Int) ⊕ (Int))
  | 0, _, _, _ => none
  | mo4 + 1, x0, y1, y2 => (bif (decide (y1 < (x0.length : Int))) then ((idx x0 y1).bind fun v5 => (bif (v5.Id != y2) then (some (Sum.inr (-1))) else ((idx x0 y1).bind fun v6 => (bif (v6.Members != (IntKind.wrap .i64 (y2 + 1))) then (some (Sum.inr (-1))) else ((idx x0 y1).bind fun v7 => (bif (v7.Bare != (IntKind.wrap .i64 ((IntKind.wrap .i64 (y2 + 1)) + 1))) then (some (Sum.inr (-1))) else (laws_heldVrowS_L2 n mo4 x0 (IntKind.wrap .i64 (y1 + 1)) (IntKind.wrap .i64 ((IntKind.wrap .i64 ((IntKind.wrap .i64 (y2 + 1)) + 1)) + 1))))))))) else (some (Sum.inl y2)))
def laws_heldVrowSF (n : Nat) (x0 : (List Vrow)) (x1 : Int) : Option (Int) :=
  ((laws_heldVrowS_L2 n n x0 0 x1).bind fun o => match o with | .inl y3 => (laws_heldVrowS_J1 n y3) | .inr r => some r)
/-- loop.example/g00326/laws.heldVrowS -/
theorem laws_heldVrowS (n : Nat) (x0 : (List Vrow)) (x1 : Int) (r : Int) (H : laws_heldVrowSF n x0 x1 = some r) : LCall Try.prog 88 [.val false [.sl false 3 (CV.frzEs (x0.map Vrow.row))], .val false [.lit (.int .i64 x1)]] [.val false [.lit (.int .i64 r)]] [] := by
  refine LCall.of_body tOk Try.func88 rfl (c := (.seq (.region 0 (rg Try.f88 0) false) (.seq (.seq (.region 1 (rg Try.f88 1) false) (.block 0 (.loop (.seq (.seq (.region 2 (rg Try.f88 2) false) (.cond (.tmp 9) .skip (.exit 0))) (.seq (.block 1 (.seq (.seq (.region 4 (rg Try.f88 4) false) (.cond (.tmp 18) (.seq (.region 5 (rg Try.f88 5) false) .ret) .skip)) (.seq (.region 6 (rg Try.f88 6) false) (.seq (.seq (.region 7 (rg Try.f88 7) false) (.cond (.tmp 27) (.seq (.region 8 (rg Try.f88 8) false) .ret) .skip)) (.seq (.region 9 (rg Try.f88 9) false) (.seq (.seq (.region 10 (rg Try.f88 10) false) (.cond (.tmp 36) (.seq (.region 11 (rg Try.f88 11) false) .ret) .skip)) (.region 12 (rg Try.f88 12) false))))))) (.region 3 (rg Try.f88 3) false)))))) (.seq (.region 13 (rg Try.f88 13) false) .ret)))) (by kernel_rfl) (Nat.le_of_ble_eq_true (by kernel_rfl)) 0 (rs := [.tmp 4]) rfl [] .nil [(false, [.lit (.int .i64 r)])] [] [] fun cx => ?_
  show Tr _ _ _ ⟨40, 0, [(0, .val false [.sl false 3 (CV.frzEs (x0.map Vrow.row))]), (1, .val false [.lit (.int .i64 x1)])], []⟩ _
  unfold laws_heldVrowSF at H
  refine Tr.rs ?_
  refine LAt.runU tOk 1 (by kernel_rfl) ?_
  refine LAt.doneU [4, 0, 1] [] (by kernel_rfl) ?_
  refine Tr.seq ?_
  refine Tr.rs ?_
  refine LAt.runU tOk 1 (by kernel_rfl) ?_
  refine LAt.doneU [5, 4, 0, 1] [] (by kernel_rfl) ?_
  obtain ⟨o4, eo4, Ho4⟩ := bind_some H
  clear H
  refine Tr.mid (ι := Int) (fun v => ⟨40, 0, [(4, .val false [.lit (.int .i64 0)]), (1, .val false [.lit (.int .i64 v)])], []⟩) (fun v => laws_heldVrowS_J1 n v = some r) ?_ ?_
  · refine Tr.block ?_
    refine Tr.loop (ι := Nat × (Int × Int)) (fun v => ⟨40, 0, [(5, .val false [.lit (.int .i64 v.2.1)]), (4, .val false [.lit (.int .i64 0)]), (0, .val false [.sl false 3 (CV.frzEs (x0.map Vrow.row))]), (1, .val false [.lit (.int .i64 v.2.2)])], []⟩) (fun v => laws_heldVrowS_L2 n v.1 x0 v.2.1 v.2.2 = some o4) (fun v => v.1) (n, (0, x1)) eo4 (St.sub_of [5, 4, 0, 1] [] (by kernel_rfl)) ?_
    rintro ⟨mo4, y1, y2⟩ H
    have H : laws_heldVrowS_L2 n mo4 x0 y1 y2 = some o4 := H
    obtain _ | mo4 := mo4
    · cases (show (none : Option _) = some o4 from H)
    · rw [laws_heldVrowS_L2] at H
      refine Tr.seq ?_
      refine Tr.rs ?_
      refine LAt.runU tOk 2 (by kernel_rfl) ?_
      refine LAt.lenE tOk (t := 27) (ty := 3) (e := 56) (x := (.tmp 7)) (d := 8) (g := none) ⟨(.slot 7), [], 0, false, 3, (CV.frzEs (x0.map Vrow.row))⟩ (x0).length _ (by kernel_rfl) (by kernel_rfl) (by kernel_rfl) (by kernel_rfl) (by kernel_rfl) (frz_len _ _) rfl ?_
      refine LAt.runU tOk 1 (by kernel_rfl) ?_
      refine LAt.doneU [9, 8, 7, 6, 5, 4, 0, 1] [] (by kernel_rfl) ?_
      refine Tr.to ⟨40, 0, [(9, .val false [.lit (.bool (decide (y1 < (x0.length : Int))))]), (8, .val false [.lit (.int .i64 (x0.length : Int))]), (7, .val false [.sl false 3 (CV.frzEs (x0.map Vrow.row))]), (6, .val false [.lit (.int .i64 y1)]), (5, .val false [.lit (.int .i64 y1)]), (4, .val false [.lit (.int .i64 0)]), (0, .val false [.sl false 3 (CV.frzEs (x0.map Vrow.row))]), (1, .val false [.lit (.int .i64 y2)])], []⟩ (by kernel_rfl) ?_
      cases h1 : (decide (y1 < (x0.length : Int)))
      · have H := bifF h1 H
        refine Tr.cond (b := false) (by kernel_rfl) (fun h => nomatch h) (fun _ => ?_)
        refine Tr.exit ?_
        refine And.intro (fun _ => ?_) (fun h => absurd rfl h)
        have H := Option.some.inj H
        subst H
        have H := Ho4
        dsimp only at H
        exact Exists.intro y2 (And.intro H (St.sub_of [4, 1] [] (by kernel_rfl)))
      · have H := bifT h1 H
        refine Tr.cond (b := true) (by kernel_rfl) (fun _ => ?_) (fun h => nomatch h)
        refine Tr.skip ?_
        show Tr _ _ _ _ _
        refine Tr.seq ?_
        refine Tr.block ?_
        refine Tr.seq ?_
        refine Tr.rs ?_
        refine LAt.runU tOk 2 (by kernel_rfl) ?_
        obtain ⟨v5, ev5, H⟩ := bind_some H
        refine LAt.indexF tOk (t := 27) (ty := 0) (x := (.tmp 12)) (y := (.tmp 13)) (d := 14) (g := none) ⟨(.slot 12), [], 0, false, 3, (CV.frzEs (x0.map Vrow.row))⟩ y1 (Vrow.row v5) _ (by kernel_rfl) (by kernel_rfl) (by kernel_rfl) (by kernel_rfl) rfl (idx_isF ev5) rfl ?_
        refine LAt.runU tOk 4 (by kernel_rfl) ?_
        refine LAt.doneU [18, 17, 16, 15, 14, 13, 12, 9, 8, 7, 6, 5, 4, 0, 1] [] (by kernel_rfl) ?_
        refine Tr.to ⟨40, 0, [(18, .val false [.lit (.bool (v5.Id != y2))]), (17, .val false [.lit (.int .i64 y2)]), (16, .val false [.lit (.int .i64 v5.Id)]), (15, .fad ((Vrow.row v5))), (14, .fad ((Vrow.row v5))), (13, .val false [.lit (.int .i64 y1)]), (12, .val false [.sl false 3 (CV.frzEs (x0.map Vrow.row))]), (9, .val false [.lit (.bool true)]), (8, .val false [.lit (.int .i64 (x0.length : Int))]), (7, .val false [.sl false 3 (CV.frzEs (x0.map Vrow.row))]), (6, .val false [.lit (.int .i64 y1)]), (5, .val false [.lit (.int .i64 y1)]), (4, .val false [.lit (.int .i64 0)]), (0, .val false [.sl false 3 (CV.frzEs (x0.map Vrow.row))]), (1, .val false [.lit (.int .i64 y2)])], []⟩ (by kernel_rfl) ?_
        cases h2 : (v5.Id != y2)
        · have H := bifF h2 H
          refine Tr.cond (b := false) (by kernel_rfl) (fun h => nomatch h) (fun _ => ?_)
          refine Tr.skip ?_
          show Tr _ _ _ _ _
          refine Tr.rs ?_
          refine LAt.runU tOk 3 (by kernel_rfl) ?_
          refine LAt.doneU [1, 20, 19, 18, 17, 16, 15, 14, 13, 12, 9, 8, 7, 6, 5, 4, 0] [] (by kernel_rfl) ?_
          refine Tr.seq ?_
          refine Tr.rs ?_
          refine LAt.runU tOk 2 (by kernel_rfl) ?_
          obtain ⟨v6, ev6, H⟩ := bind_some H
          refine LAt.indexF tOk (t := 27) (ty := 0) (x := (.tmp 21)) (y := (.tmp 22)) (d := 23) (g := none) ⟨(.slot 21), [], 0, false, 3, (CV.frzEs (x0.map Vrow.row))⟩ y1 (Vrow.row v6) _ (by kernel_rfl) (by kernel_rfl) (by kernel_rfl) (by kernel_rfl) rfl (idx_isF ev6) rfl ?_
          refine LAt.runU tOk 4 (by kernel_rfl) ?_
          refine LAt.doneU [27, 26, 25, 24, 23, 22, 21, 1, 20, 19, 18, 17, 16, 15, 14, 13, 12, 9, 8, 7, 6, 5, 4, 0] [] (by kernel_rfl) ?_
          refine Tr.to ⟨40, 0, [(27, .val false [.lit (.bool (v6.Members != (IntKind.wrap .i64 (y2 + 1))))]), (26, .val false [.lit (.int .i64 (IntKind.wrap .i64 (y2 + 1)))]), (25, .val false [.lit (.int .i64 v6.Members)]), (24, .fad (((Vrow.row v6).drop 1))), (23, .fad ((Vrow.row v6))), (22, .val false [.lit (.int .i64 y1)]), (21, .val false [.sl false 3 (CV.frzEs (x0.map Vrow.row))]), (1, .val false [.lit (.int .i64 (IntKind.wrap .i64 (y2 + 1)))]), (20, .val false [.lit (.int .i64 (IntKind.wrap .i64 (y2 + 1)))]), (19, .val false [.lit (.int .i64 y2)]), (18, .val false [.lit (.bool false)]), (17, .val false [.lit (.int .i64 y2)]), (16, .val false [.lit (.int .i64 v5.Id)]), (15, .fad ((Vrow.row v5))), (14, .fad ((Vrow.row v5))), (13, .val false [.lit (.int .i64 y1)]), (12, .val false [.sl false 3 (CV.frzEs (x0.map Vrow.row))]), (9, .val false [.lit (.bool true)]), (8, .val false [.lit (.int .i64 (x0.length : Int))]), (7, .val false [.sl false 3 (CV.frzEs (x0.map Vrow.row))]), (6, .val false [.lit (.int .i64 y1)]), (5, .val false [.lit (.int .i64 y1)]), (4, .val false [.lit (.int .i64 0)]), (0, .val false [.sl false 3 (CV.frzEs (x0.map Vrow.row))])], []⟩ (by kernel_rfl) ?_
          cases h3 : (v6.Members != (IntKind.wrap .i64 (y2 + 1)))
          · have H := bifF h3 H
            refine Tr.cond (b := false) (by kernel_rfl) (fun h => nomatch h) (fun _ => ?_)
            refine Tr.skip ?_
            show Tr _ _ _ _ _
            refine Tr.rs ?_
            refine LAt.runU tOk 3 (by kernel_rfl) ?_
            refine LAt.doneU [1, 29, 28, 27, 26, 25, 24, 23, 22, 21, 20, 19, 18, 17, 16, 15, 14, 13, 12, 9, 8, 7, 6, 5, 4, 0] [] (by kernel_rfl) ?_
            refine Tr.seq ?_
            refine Tr.rs ?_
            refine LAt.runU tOk 2 (by kernel_rfl) ?_
            obtain ⟨v7, ev7, H⟩ := bind_some H
            refine LAt.indexF tOk (t := 27) (ty := 0) (x := (.tmp 30)) (y := (.tmp 31)) (d := 32) (g := none) ⟨(.slot 30), [], 0, false, 3, (CV.frzEs (x0.map Vrow.row))⟩ y1 (Vrow.row v7) _ (by kernel_rfl) (by kernel_rfl) (by kernel_rfl) (by kernel_rfl) rfl (idx_isF ev7) rfl ?_
            refine LAt.runU tOk 4 (by kernel_rfl) ?_
            refine LAt.doneU [36, 35, 34, 33, 32, 31, 30, 1, 29, 28, 27, 26, 25, 24, 23, 22, 21, 20, 19, 18, 17, 16, 15, 14, 13, 12, 9, 8, 7, 6, 5, 4, 0] [] (by kernel_rfl) ?_
            refine Tr.to ⟨40, 0, [(36, .val false [.lit (.bool (v7.Bare != (IntKind.wrap .i64 ((IntKind.wrap .i64 (y2 + 1)) + 1))))]), (35, .val false [.lit (.int .i64 (IntKind.wrap .i64 ((IntKind.wrap .i64 (y2 + 1)) + 1)))]), (34, .val false [.lit (.int .i64 v7.Bare)]), (33, .fad ([.lit (.int .i64 v7.Bare)])), (32, .fad ((Vrow.row v7))), (31, .val false [.lit (.int .i64 y1)]), (30, .val false [.sl false 3 (CV.frzEs (x0.map Vrow.row))]), (1, .val false [.lit (.int .i64 (IntKind.wrap .i64 ((IntKind.wrap .i64 (y2 + 1)) + 1)))]), (29, .val false [.lit (.int .i64 (IntKind.wrap .i64 ((IntKind.wrap .i64 (y2 + 1)) + 1)))]), (28, .val false [.lit (.int .i64 (IntKind.wrap .i64 (y2 + 1)))]), (27, .val false [.lit (.bool false)]), (26, .val false [.lit (.int .i64 (IntKind.wrap .i64 (y2 + 1)))]), (25, .val false [.lit (.int .i64 v6.Members)]), (24, .fad (((Vrow.row v6).drop 1))), (23, .fad ((Vrow.row v6))), (22, .val false [.lit (.int .i64 y1)]), (21, .val false [.sl false 3 (CV.frzEs (x0.map Vrow.row))]), (20, .val false [.lit (.int .i64 (IntKind.wrap .i64 (y2 + 1)))]), (19, .val false [.lit (.int .i64 y2)]), (18, .val false [.lit (.bool false)]), (17, .val false [.lit (.int .i64 y2)]), (16, .val false [.lit (.int .i64 v5.Id)]), (15, .fad ((Vrow.row v5))), (14, .fad ((Vrow.row v5))), (13, .val false [.lit (.int .i64 y1)]), (12, .val false [.sl false 3 (CV.frzEs (x0.map Vrow.row))]), (9, .val false [.lit (.bool true)]), (8, .val false [.lit (.int .i64 (x0.length : Int))]), (7, .val false [.sl false 3 (CV.frzEs (x0.map Vrow.row))]), (6, .val false [.lit (.int .i64 y1)]), (5, .val false [.lit (.int .i64 y1)]), (4, .val false [.lit (.int .i64 0)]), (0, .val false [.sl false 3 (CV.frzEs (x0.map Vrow.row))])], []⟩ (by kernel_rfl) ?_
            cases h4 : (v7.Bare != (IntKind.wrap .i64 ((IntKind.wrap .i64 (y2 + 1)) + 1)))
            · have H := bifF h4 H
              refine Tr.cond (b := false) (by kernel_rfl) (fun h => nomatch h) (fun _ => ?_)
              refine Tr.skip ?_
              show Tr _ _ _ _ _
              refine Tr.at ?_
              refine LAt.runU tOk 3 (by kernel_rfl) ?_
              refine LAt.doneU [1, 38, 37, 36, 35, 34, 33, 32, 31, 30, 29, 28, 27, 26, 25, 24, 23, 22, 21, 20, 19, 18, 17, 16, 15, 14, 13, 12, 9, 8, 7, 6, 5, 4, 0] [] (by kernel_rfl) ?_
              show Tr _ _ _ _ _
              refine Tr.at ?_
              refine LAt.runU tOk 3 (by kernel_rfl) ?_
              refine LAt.doneU [5, 11, 10, 1, 38, 37, 36, 35, 34, 33, 32, 31, 30, 29, 28, 27, 26, 25, 24, 23, 22, 21, 20, 19, 18, 17, 16, 15, 14, 13, 12, 9, 8, 7, 6, 4, 0] [] (by kernel_rfl) ?_
              exact Exists.intro (mo4, ((IntKind.wrap .i64 (y1 + 1)), (IntKind.wrap .i64 ((IntKind.wrap .i64 ((IntKind.wrap .i64 (y2 + 1)) + 1)) + 1)))) (And.intro H (And.intro (Nat.lt_succ_self mo4) (St.sub_of [5, 4, 0, 1] [] (by kernel_rfl))))
            · have H := bifT h4 H
              refine Tr.cond (b := true) (by kernel_rfl) (fun _ => ?_) (fun h => nomatch h)
              refine Tr.rs ?_
              refine LAt.runU tOk 1 (by kernel_rfl) ?_
              refine LAt.doneU [4, 36, 35, 34, 33, 32, 31, 30, 1, 29, 28, 27, 26, 25, 24, 23, 22, 21, 20, 19, 18, 17, 16, 15, 14, 13, 12, 9, 8, 7, 6, 5, 0] [] (by kernel_rfl) ?_
              refine Tr.ret ?_
              have H := Option.some.inj H
              subst H
              have H := Ho4
              dsimp only at H
              have H := Option.some.inj H
              subst H
              exact Fin.of _ [(false, [.lit (.int .i64 (-1))])] (by kernel_rfl) rfl rfl
          · have H := bifT h3 H
            refine Tr.cond (b := true) (by kernel_rfl) (fun _ => ?_) (fun h => nomatch h)
            refine Tr.rs ?_
            refine LAt.runU tOk 1 (by kernel_rfl) ?_
            refine LAt.doneU [4, 27, 26, 25, 24, 23, 22, 21, 1, 20, 19, 18, 17, 16, 15, 14, 13, 12, 9, 8, 7, 6, 5, 0] [] (by kernel_rfl) ?_
            refine Tr.ret ?_
            have H := Option.some.inj H
            subst H
            have H := Ho4
            dsimp only at H
            have H := Option.some.inj H
            subst H
            exact Fin.of _ [(false, [.lit (.int .i64 (-1))])] (by kernel_rfl) rfl rfl
        · have H := bifT h2 H
          refine Tr.cond (b := true) (by kernel_rfl) (fun _ => ?_) (fun h => nomatch h)
          refine Tr.rs ?_
          refine LAt.runU tOk 1 (by kernel_rfl) ?_
          refine LAt.doneU [4, 18, 17, 16, 15, 14, 13, 12, 9, 8, 7, 6, 5, 0, 1] [] (by kernel_rfl) ?_
          refine Tr.ret ?_
          have H := Option.some.inj H
          subst H
          have H := Ho4
          dsimp only at H
          have H := Option.some.inj H
          subst H
          exact Fin.of _ [(false, [.lit (.int .i64 (-1))])] (by kernel_rfl) rfl rfl
  · rintro y3 H
    have H : (laws_heldVrowS_J1 n y3) = some r := H
    unfold laws_heldVrowS_J1 at H
    show Tr _ _ _ _ _
    refine Tr.rs ?_
    refine LAt.runU tOk 2 (by kernel_rfl) ?_
    refine LAt.doneU [4] [] (by kernel_rfl) ?_
    refine Tr.ret ?_
    have H := Option.some.inj H
    subst H
    exact Fin.of _ [(false, [.lit (.int .i64 y3)])] (by kernel_rfl) rfl rfl

def laws_heldIntS_J1 (n : Nat) (y3 : Int) : Option (Int) :=
  (some y3)
def laws_heldIntS_L2 (n : Nat) : Nat → (List Int) → Int → Int → Option ((Int) ⊕ (Int))
  | 0, _, _, _ => none
  | mo4 + 1, x0, y1, y2 => (bif (decide (y1 < (x0.length : Int))) then ((idx x0 y1).bind fun v5 => (bif (v5 != y2) then (some (Sum.inr (-1))) else (laws_heldIntS_L2 n mo4 x0 (IntKind.wrap .i64 (y1 + 1)) (IntKind.wrap .i64 (y2 + 1))))) else (some (Sum.inl y2)))
def laws_heldIntSF (n : Nat) (x0 : (List Int)) (x1 : Int) : Option (Int) :=
  ((laws_heldIntS_L2 n n x0 0 x1).bind fun o => match o with | .inl y3 => (laws_heldIntS_J1 n y3) | .inr r => some r)
/-- loop.example/g00326/laws.heldIntS -/
theorem laws_heldIntS (n : Nat) (x0 : (List Int)) (x1 : Int) (r : Int) (H : laws_heldIntSF n x0 x1 = some r) : LCall Try.prog 89 [.val false [.sl false 1 (CV.frzEs (x0.map intRow))], .val false [.lit (.int .i64 x1)]] [.val false [.lit (.int .i64 r)]] [] := by
  refine LCall.of_body tOk Try.func89 rfl (c := (.seq (.region 0 (rg Try.f89 0) false) (.seq (.seq (.region 1 (rg Try.f89 1) false) (.block 0 (.loop (.seq (.seq (.region 2 (rg Try.f89 2) false) (.cond (.tmp 9) .skip (.exit 0))) (.seq (.block 1 (.seq (.seq (.region 4 (rg Try.f89 4) false) (.cond (.tmp 17) (.seq (.region 5 (rg Try.f89 5) false) .ret) .skip)) (.region 6 (rg Try.f89 6) false))) (.region 3 (rg Try.f89 3) false)))))) (.seq (.region 7 (rg Try.f89 7) false) .ret)))) (by kernel_rfl) (Nat.le_of_ble_eq_true (by kernel_rfl)) 0 (rs := [.tmp 4]) rfl [] .nil [(false, [.lit (.int .i64 r)])] [] [] fun cx => ?_
  show Tr _ _ _ ⟨21, 0, [(0, .val false [.sl false 1 (CV.frzEs (x0.map intRow))]), (1, .val false [.lit (.int .i64 x1)])], []⟩ _
  unfold laws_heldIntSF at H
  refine Tr.rs ?_
  refine LAt.runU tOk 1 (by kernel_rfl) ?_
  refine LAt.doneU [4, 0, 1] [] (by kernel_rfl) ?_
  refine Tr.seq ?_
  refine Tr.rs ?_
  refine LAt.runU tOk 1 (by kernel_rfl) ?_
  refine LAt.doneU [5, 4, 0, 1] [] (by kernel_rfl) ?_
  obtain ⟨o4, eo4, Ho4⟩ := bind_some H
  clear H
  refine Tr.mid (ι := Int) (fun v => ⟨21, 0, [(4, .val false [.lit (.int .i64 0)]), (1, .val false [.lit (.int .i64 v)])], []⟩) (fun v => laws_heldIntS_J1 n v = some r) ?_ ?_
  · refine Tr.block ?_
    refine Tr.loop (ι := Nat × (Int × Int)) (fun v => ⟨21, 0, [(5, .val false [.lit (.int .i64 v.2.1)]), (4, .val false [.lit (.int .i64 0)]), (0, .val false [.sl false 1 (CV.frzEs (x0.map intRow))]), (1, .val false [.lit (.int .i64 v.2.2)])], []⟩) (fun v => laws_heldIntS_L2 n v.1 x0 v.2.1 v.2.2 = some o4) (fun v => v.1) (n, (0, x1)) eo4 (St.sub_of [5, 4, 0, 1] [] (by kernel_rfl)) ?_
    rintro ⟨mo4, y1, y2⟩ H
    have H : laws_heldIntS_L2 n mo4 x0 y1 y2 = some o4 := H
    obtain _ | mo4 := mo4
    · cases (show (none : Option _) = some o4 from H)
    · rw [laws_heldIntS_L2] at H
      refine Tr.seq ?_
      refine Tr.rs ?_
      refine LAt.runU tOk 2 (by kernel_rfl) ?_
      refine LAt.lenE tOk (t := 23) (ty := 3) (e := 3) (x := (.tmp 7)) (d := 8) (g := none) ⟨(.slot 7), [], 0, false, 1, (CV.frzEs (x0.map intRow))⟩ (x0).length _ (by kernel_rfl) (by kernel_rfl) (by kernel_rfl) (by kernel_rfl) (by kernel_rfl) (frz_len _ _) rfl ?_
      refine LAt.runU tOk 1 (by kernel_rfl) ?_
      refine LAt.doneU [9, 8, 7, 6, 5, 4, 0, 1] [] (by kernel_rfl) ?_
      refine Tr.to ⟨21, 0, [(9, .val false [.lit (.bool (decide (y1 < (x0.length : Int))))]), (8, .val false [.lit (.int .i64 (x0.length : Int))]), (7, .val false [.sl false 1 (CV.frzEs (x0.map intRow))]), (6, .val false [.lit (.int .i64 y1)]), (5, .val false [.lit (.int .i64 y1)]), (4, .val false [.lit (.int .i64 0)]), (0, .val false [.sl false 1 (CV.frzEs (x0.map intRow))]), (1, .val false [.lit (.int .i64 y2)])], []⟩ (by kernel_rfl) ?_
      cases h1 : (decide (y1 < (x0.length : Int)))
      · have H := bifF h1 H
        refine Tr.cond (b := false) (by kernel_rfl) (fun h => nomatch h) (fun _ => ?_)
        refine Tr.exit ?_
        refine And.intro (fun _ => ?_) (fun h => absurd rfl h)
        have H := Option.some.inj H
        subst H
        have H := Ho4
        dsimp only at H
        exact Exists.intro y2 (And.intro H (St.sub_of [4, 1] [] (by kernel_rfl)))
      · have H := bifT h1 H
        refine Tr.cond (b := true) (by kernel_rfl) (fun _ => ?_) (fun h => nomatch h)
        refine Tr.skip ?_
        show Tr _ _ _ _ _
        refine Tr.seq ?_
        refine Tr.block ?_
        refine Tr.seq ?_
        refine Tr.rs ?_
        refine LAt.runU tOk 2 (by kernel_rfl) ?_
        obtain ⟨v5, ev5, H⟩ := bind_some H
        refine LAt.indexF tOk (t := 23) (ty := 0) (x := (.tmp 12)) (y := (.tmp 13)) (d := 14) (g := none) ⟨(.slot 12), [], 0, false, 1, (CV.frzEs (x0.map intRow))⟩ y1 [.lit (.int .i64 v5)] _ (by kernel_rfl) (by kernel_rfl) (by kernel_rfl) (by kernel_rfl) rfl (idx_isF ev5) rfl ?_
        refine LAt.runU tOk 3 (by kernel_rfl) ?_
        refine LAt.doneU [17, 16, 15, 14, 13, 12, 9, 8, 7, 6, 5, 4, 0, 1] [] (by kernel_rfl) ?_
        refine Tr.to ⟨21, 0, [(17, .val false [.lit (.bool (v5 != y2))]), (16, .val false [.lit (.int .i64 y2)]), (15, .val false [.lit (.int .i64 v5)]), (14, .fad ([.lit (.int .i64 v5)])), (13, .val false [.lit (.int .i64 y1)]), (12, .val false [.sl false 1 (CV.frzEs (x0.map intRow))]), (9, .val false [.lit (.bool true)]), (8, .val false [.lit (.int .i64 (x0.length : Int))]), (7, .val false [.sl false 1 (CV.frzEs (x0.map intRow))]), (6, .val false [.lit (.int .i64 y1)]), (5, .val false [.lit (.int .i64 y1)]), (4, .val false [.lit (.int .i64 0)]), (0, .val false [.sl false 1 (CV.frzEs (x0.map intRow))]), (1, .val false [.lit (.int .i64 y2)])], []⟩ (by kernel_rfl) ?_
        cases h2 : (v5 != y2)
        · have H := bifF h2 H
          refine Tr.cond (b := false) (by kernel_rfl) (fun h => nomatch h) (fun _ => ?_)
          refine Tr.skip ?_
          show Tr _ _ _ _ _
          refine Tr.at ?_
          refine LAt.runU tOk 3 (by kernel_rfl) ?_
          refine LAt.doneU [1, 19, 18, 17, 16, 15, 14, 13, 12, 9, 8, 7, 6, 5, 4, 0] [] (by kernel_rfl) ?_
          show Tr _ _ _ _ _
          refine Tr.at ?_
          refine LAt.runU tOk 3 (by kernel_rfl) ?_
          refine LAt.doneU [5, 11, 10, 1, 19, 18, 17, 16, 15, 14, 13, 12, 9, 8, 7, 6, 4, 0] [] (by kernel_rfl) ?_
          exact Exists.intro (mo4, ((IntKind.wrap .i64 (y1 + 1)), (IntKind.wrap .i64 (y2 + 1)))) (And.intro H (And.intro (Nat.lt_succ_self mo4) (St.sub_of [5, 4, 0, 1] [] (by kernel_rfl))))
        · have H := bifT h2 H
          refine Tr.cond (b := true) (by kernel_rfl) (fun _ => ?_) (fun h => nomatch h)
          refine Tr.rs ?_
          refine LAt.runU tOk 1 (by kernel_rfl) ?_
          refine LAt.doneU [4, 17, 16, 15, 14, 13, 12, 9, 8, 7, 6, 5, 0, 1] [] (by kernel_rfl) ?_
          refine Tr.ret ?_
          have H := Option.some.inj H
          subst H
          have H := Ho4
          dsimp only at H
          have H := Option.some.inj H
          subst H
          exact Fin.of _ [(false, [.lit (.int .i64 (-1))])] (by kernel_rfl) rfl rfl
  · rintro y3 H
    have H : (laws_heldIntS_J1 n y3) = some r := H
    unfold laws_heldIntS_J1 at H
    show Tr _ _ _ _ _
    refine Tr.rs ?_
    refine LAt.runU tOk 2 (by kernel_rfl) ?_
    refine LAt.doneU [4] [] (by kernel_rfl) ?_
    refine Tr.ret ?_
    have H := Option.some.inj H
    subst H
    exact Fin.of _ [(false, [.lit (.int .i64 y3)])] (by kernel_rfl) rfl rfl

def laws_heldVtabF (n : Nat) (x0 : Vtab) (x1 : Int) : Option (Int) :=
  ((laws_heldVrowSF n x0.Rows x1).bind fun r1 => (bif (decide (r1 < 0)) then (some (-1)) else ((laws_heldIntSF n x0.Pvid r1).bind fun r2 => (bif (decide (r2 < 0)) then (some (-1)) else (some r2)))))
/-- loop.example/g00326/laws.heldVtab -/
theorem laws_heldVtab (n : Nat) (x0 : Vtab) (x1 : Int) (r : Int) (H : laws_heldVtabF n x0 x1 = some r) : LCall Try.prog 21 [.val true (CV.frzRow (Vtab.row x0)), .val false [.lit (.int .i64 x1)]] [.val false [.lit (.int .i64 r)]] [] := by
  refine LCall.of_body tOk Try.func21 rfl (c := (.seq (.region 0 (rg Try.f21 0) false) (.seq (.region 1 (rg Try.f21 1) false) (.seq (.seq (.region 2 (rg Try.f21 2) false) (.cond (.tmp 10) (.seq (.region 3 (rg Try.f21 3) false) .ret) .skip)) (.seq (.region 4 (rg Try.f21 4) false) (.seq (.seq (.region 5 (rg Try.f21 5) false) (.cond (.tmp 16) (.seq (.region 6 (rg Try.f21 6) false) .ret) .skip)) (.seq (.region 7 (rg Try.f21 7) false) .ret))))))) (by kernel_rfl) (Nat.le_of_ble_eq_true (by kernel_rfl)) 0 (rs := [.tmp 4]) rfl [] .nil [(false, [.lit (.int .i64 r)])] [] [] fun cx => ?_
  show Tr _ _ _ ⟨18, 0, [(0, .val true (CV.frzRow (Vtab.row x0))), (1, .val false [.lit (.int .i64 x1)])], []⟩ _
  unfold laws_heldVtabF at H
  refine Tr.rs ?_
  refine LAt.runU tOk 2 (by kernel_rfl) ?_
  refine LAt.doneU [4, 2, 1] [2] (by kernel_rfl) ?_
  refine Tr.rs ?_
  refine LAt.runU tOk 3 (by kernel_rfl) ?_
  obtain ⟨r1, er1, H⟩ := bind_some H
  refine LAt.callU tOk [.rd, .rd] (f := 88) (av := #[.tmp 6, .tmp 7]) (ats := #[27, 3]) (d := (some 8)) (ty := 3) (g := none) (by kernel_rfl) (by kernel_rfl) (by kernel_rfl) [] (laws_heldVrowS n x0.Rows x1 r1 er1) (by kernel_rfl) (.inl rfl) ?_
  refine LAt.runU tOk 1 (by kernel_rfl) ?_
  refine LAt.doneU [1, 4, 2] [2] (by kernel_rfl) ?_
  refine Tr.seq ?_
  refine Tr.rs ?_
  refine LAt.runU tOk 2 (by kernel_rfl) ?_
  refine LAt.doneU [10, 1, 4, 2] [2] (by kernel_rfl) ?_
  refine Tr.to ⟨18, 0, [(10, .val false [.lit (.bool (decide (r1 < 0)))]), (1, .val false [.lit (.int .i64 r1)]), (4, .val false [.lit (.int .i64 0)]), (2, .adr (.box 2) [(0, 0)] 2 0)], [(2, (CV.frzRow (Vtab.row x0)))]⟩ (by kernel_rfl) ?_
  cases h1 : (decide (r1 < 0))
  · have H := bifF h1 H
    refine Tr.cond (b := false) (by kernel_rfl) (fun h => nomatch h) (fun _ => ?_)
    refine Tr.skip ?_
    show Tr _ _ _ _ _
    refine Tr.rs ?_
    refine LAt.runU tOk 3 (by kernel_rfl) ?_
    obtain ⟨r2, er2, H⟩ := bind_some H
    refine LAt.callU tOk [.rd, .rd] (f := 89) (av := #[.tmp 12, .tmp 13]) (ats := #[23, 3]) (d := (some 14)) (ty := 3) (g := none) (by kernel_rfl) (by kernel_rfl) (by kernel_rfl) [] (laws_heldIntS n x0.Pvid r1 r2 er2) (by kernel_rfl) (.inl rfl) ?_
    refine LAt.runU tOk 1 (by kernel_rfl) ?_
    refine LAt.doneU [1, 4] [] (by kernel_rfl) ?_
    refine Tr.seq ?_
    refine Tr.rs ?_
    refine LAt.runU tOk 2 (by kernel_rfl) ?_
    refine LAt.doneU [16, 1, 4] [] (by kernel_rfl) ?_
    refine Tr.to ⟨18, 0, [(16, .val false [.lit (.bool (decide (r2 < 0)))]), (1, .val false [.lit (.int .i64 r2)]), (4, .val false [.lit (.int .i64 0)])], []⟩ (by kernel_rfl) ?_
    cases h2 : (decide (r2 < 0))
    · have H := bifF h2 H
      refine Tr.cond (b := false) (by kernel_rfl) (fun h => nomatch h) (fun _ => ?_)
      refine Tr.skip ?_
      show Tr _ _ _ _ _
      refine Tr.rs ?_
      refine LAt.runU tOk 2 (by kernel_rfl) ?_
      refine LAt.doneU [4] [] (by kernel_rfl) ?_
      refine Tr.ret ?_
      have H := Option.some.inj H
      subst H
      exact Fin.of _ [(false, [.lit (.int .i64 r2)])] (by kernel_rfl) rfl rfl
    · have H := bifT h2 H
      refine Tr.cond (b := true) (by kernel_rfl) (fun _ => ?_) (fun h => nomatch h)
      refine Tr.rs ?_
      refine LAt.runU tOk 1 (by kernel_rfl) ?_
      refine LAt.doneU [4, 1] [] (by kernel_rfl) ?_
      refine Tr.ret ?_
      have H := Option.some.inj H
      subst H
      exact Fin.of _ [(false, [.lit (.int .i64 (-1))])] (by kernel_rfl) rfl rfl
  · have H := bifT h1 H
    refine Tr.cond (b := true) (by kernel_rfl) (fun _ => ?_) (fun h => nomatch h)
    refine Tr.rs ?_
    refine LAt.runU tOk 1 (by kernel_rfl) ?_
    refine LAt.doneU [4, 1, 2] [2] (by kernel_rfl) ?_
    refine Tr.ret ?_
    have H := Option.some.inj H
    subst H
    exact Fin.of _ [(false, [.lit (.int .i64 (-1))])] (by kernel_rfl) rfl rfl

def laws_FnExactPutRowF (n : Nat) (x0 : Vtab) (x1 : Vrow) : Option (Bool) :=
  ((laws_szVtabF n x0 1048576).bind fun r1 => (bif (decide (r1 < 0)) then (some true) else ((laws_toVtabF n x0).bind fun r2 => ((laws_toVrowF n x1).bind fun r3 => ((spec_PutRowF n r2 r3).bind fun r4 => ((laws_toVtabF n x0).bind fun r5 => ((laws_toVrowF n x1).bind fun r6 => ((impl_PutRowF n r5 r6).bind fun r7 => ((laws_eqVtabF n r7.1 r4.1).bind fun r8 => (bif (!r8) then (some false) else (bif (!(r7.2 == r4.2)) then (some false) else ((laws_toVtabF n x0).bind fun r9 => ((laws_eqVtabF n r5 r9).bind fun r10 => (bif (!r10) then (some false) else ((laws_markVtabF n r5 1).bind fun r11 => (bif (decide (r11.1 < 0)) then (some false) else ((laws_eqVtabF n r7.1 r4.1).bind fun r12 => (bif (!r12) then (some false) else ((laws_markVtabF n r7.1 1).bind fun r13 => ((laws_heldVtabF n r13.2 1).bind fun r14 => (bif (decide (r14 < 0)) then (some false) else (bif (r14 != r13.1) then (some false) else ((laws_toVtabF n x0).bind fun r15 => ((laws_toVrowF n x1).bind fun r16 => ((impl_PutRowF n r15 r16).bind fun r17 => ((laws_eqVtabF n r17.1 r4.1).bind fun r18 => (bif (!r18) then (some false) else (bif (!(r17.2 == r4.2)) then (some false) else ((laws_heldVtabF n r13.2 1).bind fun r19 => (bif (decide (r19 < 0)) then (some false) else (bif (r19 != r13.1) then (some false) else (some true))))))))))))))))))))))))))))))))
/-- loop.example/g00326/laws.FnExactPutRow -/
theorem laws_FnExactPutRow (n : Nat) (x0 : Vtab) (x1 : Vrow) (r : Bool) (H : laws_FnExactPutRowF n x0 x1 = some r) : LCall Try.prog 7 [.val true (CV.frzRow (Vtab.row x0)), .val true (CV.frzRow (Vrow.row x1))] [.val false [.lit (.bool r)]] [] := by
  refine LCall.of_body tOk Try.func7 rfl (c := (.seq (.region 0 (rg Try.f7 0) false) (.seq (.region 1 (rg Try.f7 1) false) (.seq (.region 2 (rg Try.f7 2) false) (.seq (.seq (.region 3 (rg Try.f7 3) false) (.cond (.tmp 20) (.seq (.region 4 (rg Try.f7 4) false) .ret) .skip)) (.seq (.region 5 (rg Try.f7 5) true) (.seq (.region 6 (rg Try.f7 6) false) (.seq (.region 7 (rg Try.f7 7) true) (.seq (.seq (.region 8 (rg Try.f7 8) false) (.cond (.tmp 46) (.seq (.region 9 (rg Try.f7 9) false) .ret) .skip)) (.seq (.seq (.region 10 (rg Try.f7 10) true) (.cond (.tmp 51) (.seq (.region 11 (rg Try.f7 11) false) .ret) .skip)) (.seq (.region 12 (rg Try.f7 12) false) (.seq (.region 13 (rg Try.f7 13) false) (.seq (.seq (.region 14 (rg Try.f7 14) false) (.cond (.tmp 67) (.seq (.region 15 (rg Try.f7 15) false) .ret) .skip)) (.seq (.region 16 (rg Try.f7 16) false) (.seq (.region 17 (rg Try.f7 17) false) (.seq (.region 18 (rg Try.f7 18) false) (.seq (.region 19 (rg Try.f7 19) false) (.seq (.seq (.region 20 (rg Try.f7 20) false) (.cond (.tmp 75) (.seq (.region 21 (rg Try.f7 21) false) .ret) .skip)) (.seq (.seq (.region 22 (rg Try.f7 22) false) (.cond (.tmp 78) (.seq (.region 23 (rg Try.f7 23) false) .ret) .skip)) (.seq (.region 24 (rg Try.f7 24) true) (.seq (.seq (.region 25 (rg Try.f7 25) false) (.cond (.tmp 95) (.seq (.region 26 (rg Try.f7 26) false) .ret) .skip)) (.seq (.region 27 (rg Try.f7 27) false) (.seq (.region 28 (rg Try.f7 28) false) (.seq (.seq (.region 29 (rg Try.f7 29) false) (.cond (.tmp 100) (.seq (.region 30 (rg Try.f7 30) false) .ret) .skip)) (.seq (.seq (.region 31 (rg Try.f7 31) false) (.cond (.tmp 103) (.seq (.region 32 (rg Try.f7 32) false) .ret) .skip)) (.seq (.region 33 (rg Try.f7 33) false) .ret)))))))))))))))))))))))))) (by kernel_rfl) (Nat.le_of_ble_eq_true (by kernel_rfl)) 0 (rs := [.tmp 4]) rfl [] .nil [(false, [.lit (.bool r)])] [] [] fun cx => ?_
  show Tr _ _ _ ⟨104, 0, [(0, .val true (CV.frzRow (Vtab.row x0))), (1, .val true (Vrow.row x1))], []⟩ _
  unfold laws_FnExactPutRowF at H
  refine Tr.rs ?_
  refine LAt.runU tOk 3 (by kernel_rfl) ?_
  refine LAt.doneU [4, 3, 2] [3, 2] (by kernel_rfl) ?_
  refine Tr.rs ?_
  refine LAt.runU tOk 1 (by kernel_rfl) ?_
  refine LAt.doneU [5, 4, 3, 2] [3, 2] (by kernel_rfl) ?_
  refine Tr.rs ?_
  refine LAt.runU tOk 2 (by kernel_rfl) ?_
  obtain ⟨r1, er1, H⟩ := bind_some H
  refine LAt.callU tOk [.rd, .rd] (f := 15) (av := #[.tmp 16, .tmp 17]) (ats := #[25, 3]) (d := (some 18)) (ty := 3) (g := none) (by kernel_rfl) (by kernel_rfl) (by kernel_rfl) [] (laws_szVtab n x0 1048576 r1 er1) (by kernel_rfl) (.inl rfl) ?_
  refine LAt.runU tOk 1 (by kernel_rfl) ?_
  refine LAt.doneU [5, 4, 3, 2] [3, 2] (by kernel_rfl) ?_
  refine Tr.seq ?_
  refine Tr.rs ?_
  refine LAt.runU tOk 2 (by kernel_rfl) ?_
  refine LAt.doneU [20, 4, 3, 2] [3, 2] (by kernel_rfl) ?_
  refine Tr.to ⟨104, 0, [(20, .val false [.lit (.bool (decide (r1 < 0)))]), (4, .val false [.lit (.bool false)]), (3, .adr (.box 3) [(0, 0)] 3 0), (2, .adr (.box 2) [(0, 0)] 2 0)], [(3, (Vrow.row x1)), (2, (CV.frzRow (Vtab.row x0)))]⟩ (by kernel_rfl) ?_
  cases h1 : (decide (r1 < 0))
  · have H := bifF h1 H
    refine Tr.cond (b := false) (by kernel_rfl) (fun h => nomatch h) (fun _ => ?_)
    refine Tr.skip ?_
    show Tr _ _ _ _ _
    obtain ⟨r2, er2, H⟩ := bind_some H
    obtain ⟨r3, er3, H⟩ := bind_some H
    obtain ⟨r4, er4, H⟩ := bind_some H
    refine Tr.draws mixed 11 (by kernel_rfl) ⟨104, 0, [(7, .val false [.lit (.bool r4.2)]), (6, .adr (.box 6) [(0, 0)] 2 0), (4, .val false [.lit (.bool false)]), (3, .adr (.box 3) [(0, 0)] 3 0), (2, .adr (.box 2) [(0, 0)] 2 0)], [(6, (Vtab.row r4.1)), (3, (Vrow.row x1)), (2, (CV.frzRow (Vtab.row x0)))]⟩ (fun cx => ?_) ?_
    · refine AT.runU tOk [(0, [1, 3, 4, 9]), (2, [3, 4, 9])] 9 [⟨[3, 4, 9], 62, 3, 24⟩, ⟨[1, 3, 4, 9], 25, 2, 22⟩] [2, 0] rfl (by kernel_rfl) (fun cx => ?_)
      refine AT.big2 tOk 1 8 (by kernel_rfl) (And.intro (by kernel_rfl) ?_) (And.intro (by kernel_rfl) ?_)
      · refine LAt.callU tOk [.rd] (f := 17) (av := #[.tmp 22]) (ats := #[25]) (d := (some 23)) (ty := 29) (g := none) (by kernel_rfl) (by kernel_rfl) (by kernel_rfl) [] (laws_toVtab n x0 r2 er2) (by kernel_rfl) (.inl rfl) ?_
        refine LAt.fin (by kernel_rfl) (And.intro (And.intro (by kernel_rfl) (by kernel_rfl)) ?_)
        refine AT.big2 tOk 3 8 (by kernel_rfl) (And.intro (by kernel_rfl) ?_) (And.intro (by kernel_rfl) ?_)
        · refine LAt.callU tOk [.rd] (f := 43) (av := #[.tmp 24]) (ats := #[62]) (d := (some 25)) (ty := 56) (g := none) (by kernel_rfl) (by kernel_rfl) (by kernel_rfl) [] (laws_toVrow n x1 r3 er3) (by kernel_rfl) (.inl rfl) ?_
          refine LAt.fin (by kernel_rfl) (And.intro (And.intro (by kernel_rfl) (by kernel_rfl)) ?_)
          refine AT.big2 tOk 4 8 (by kernel_rfl) (And.intro (by kernel_rfl) ?_) (And.intro (by kernel_rfl) ?_)
          · refine LAt.callU tOk [.rd, .rd] (f := 38) (av := #[.tmp 23, .tmp 25]) (ats := #[29, 56]) (d := (some 26)) (ty := 30) (g := none) (by kernel_rfl) (by kernel_rfl) (by kernel_rfl) [] (spec_PutRow n r2 r3 r4 er4) (by kernel_rfl) (.inl rfl) ?_
            refine LAt.fin (by kernel_rfl) (And.intro (And.intro (by kernel_rfl) (by kernel_rfl)) ?_)
            refine AT.movT tOk 5 (ty := 30) (t := 26) (d := 21) (g := none) [(true, (Vtab.row r4.1)), (false, [.lit (.bool r4.2)])] _ (by kernel_rfl) (by kernel_rfl) (by kernel_rfl) (.inl rfl) (by kernel_rfl) (by kernel_rfl) (by kernel_rfl) (by kernel_rfl) rfl (fun cx => ?_)
            refine AT.runU tOk [(6, []), (7, [])] 3 [⟨[3, 4, 9], 62, 3, 24⟩, ⟨[1, 3, 4, 9], 25, 2, 22⟩] [7, 6, 5, 4, 3, 1, 2, 0] rfl (by kernel_rfl) (fun cx => ?_)
            refine AT.big1 tOk 8 (by kernel_rfl) (by kernel_rfl) ?_
            refine LAt.runU tOk 1 (by kernel_rfl) ?_
            refine LAt.fin (by kernel_rfl) (And.intro (And.intro (by kernel_rfl) (by kernel_rfl)) ?_)
            refine AT.big1 tOk 9 (by kernel_rfl) (by kernel_rfl) ?_
            refine LAt.runU tOk 1 (by kernel_rfl) ?_
            refine LAt.fin (by kernel_rfl) (And.intro (And.intro (by kernel_rfl) (by kernel_rfl)) ?_)
            refine AT.runU tOk [(10, [])] 0 [⟨[3, 4, 9], 62, 3, 24⟩, ⟨[1, 3, 4, 9], 25, 2, 22⟩] [10, 9, 8, 7, 6, 5, 4, 3, 1, 2, 0] rfl (by kernel_rfl) (fun cx => ?_)
            exact AT.done [7, 6, 4, 3, 2] [6, 3, 2] _ (by kernel_rfl) (by kernel_rfl) rfl
          · refine LAt.runU tOk 1 (by kernel_rfl) ?_
            refine LAt.fin (by kernel_rfl) (And.intro (And.intro (by kernel_rfl) (by kernel_rfl)) ?_)
            refine AT.big1 tOk 4 (by kernel_rfl) (by kernel_rfl) ?_
            refine LAt.callU tOk [.rd, .rd] (f := 38) (av := #[.tmp 23, .tmp 25]) (ats := #[29, 56]) (d := (some 26)) (ty := 30) (g := none) (by kernel_rfl) (by kernel_rfl) (by kernel_rfl) [] (spec_PutRow n r2 r3 r4 er4) (by kernel_rfl) (.inl rfl) ?_
            refine LAt.fin (by kernel_rfl) (And.intro (And.intro (by kernel_rfl) (by kernel_rfl)) ?_)
            refine AT.movT tOk 5 (ty := 30) (t := 26) (d := 21) (g := none) [(true, (Vtab.row r4.1)), (false, [.lit (.bool r4.2)])] _ (by kernel_rfl) (by kernel_rfl) (by kernel_rfl) (.inl rfl) (by kernel_rfl) (by kernel_rfl) (by kernel_rfl) (by kernel_rfl) rfl (fun cx => ?_)
            refine AT.runU tOk [(6, []), (7, [])] 2 [⟨[3, 4, 9], 62, 3, 24⟩, ⟨[1, 3, 4, 9], 25, 2, 22⟩] [7, 6, 5, 4, 8, 3, 1, 2, 0] rfl (by kernel_rfl) (fun cx => ?_)
            refine AT.big1 tOk 9 (by kernel_rfl) (by kernel_rfl) ?_
            refine LAt.runU tOk 1 (by kernel_rfl) ?_
            refine LAt.fin (by kernel_rfl) (And.intro (And.intro (by kernel_rfl) (by kernel_rfl)) ?_)
            refine AT.runU tOk [(10, [])] 0 [⟨[3, 4, 9], 62, 3, 24⟩, ⟨[1, 3, 4, 9], 25, 2, 22⟩] [10, 9, 7, 6, 5, 4, 8, 3, 1, 2, 0] rfl (by kernel_rfl) (fun cx => ?_)
            exact AT.done [7, 6, 4, 3, 2] [6, 3, 2] _ (by kernel_rfl) (by kernel_rfl) rfl
        · refine LAt.runU tOk 1 (by kernel_rfl) ?_
          refine LAt.fin (by kernel_rfl) (And.intro (And.intro (by kernel_rfl) (by kernel_rfl)) ?_)
          refine AT.big1 tOk 3 (by kernel_rfl) (by kernel_rfl) ?_
          refine LAt.callU tOk [.rd] (f := 43) (av := #[.tmp 24]) (ats := #[62]) (d := (some 25)) (ty := 56) (g := none) (by kernel_rfl) (by kernel_rfl) (by kernel_rfl) [] (laws_toVrow n x1 r3 er3) (by kernel_rfl) (.inl rfl) ?_
          refine LAt.fin (by kernel_rfl) (And.intro (And.intro (by kernel_rfl) (by kernel_rfl)) ?_)
          refine AT.big1 tOk 4 (by kernel_rfl) (by kernel_rfl) ?_
          refine LAt.callU tOk [.rd, .rd] (f := 38) (av := #[.tmp 23, .tmp 25]) (ats := #[29, 56]) (d := (some 26)) (ty := 30) (g := none) (by kernel_rfl) (by kernel_rfl) (by kernel_rfl) [] (spec_PutRow n r2 r3 r4 er4) (by kernel_rfl) (.inl rfl) ?_
          refine LAt.fin (by kernel_rfl) (And.intro (And.intro (by kernel_rfl) (by kernel_rfl)) ?_)
          refine AT.movT tOk 5 (ty := 30) (t := 26) (d := 21) (g := none) [(true, (Vtab.row r4.1)), (false, [.lit (.bool r4.2)])] _ (by kernel_rfl) (by kernel_rfl) (by kernel_rfl) (.inl rfl) (by kernel_rfl) (by kernel_rfl) (by kernel_rfl) (by kernel_rfl) rfl (fun cx => ?_)
          refine AT.runU tOk [(6, []), (7, [])] 2 [⟨[3, 4, 9], 62, 3, 24⟩, ⟨[1, 3, 4, 9], 25, 2, 22⟩] [7, 6, 5, 4, 3, 8, 1, 2, 0] rfl (by kernel_rfl) (fun cx => ?_)
          refine AT.big1 tOk 9 (by kernel_rfl) (by kernel_rfl) ?_
          refine LAt.runU tOk 1 (by kernel_rfl) ?_
          refine LAt.fin (by kernel_rfl) (And.intro (And.intro (by kernel_rfl) (by kernel_rfl)) ?_)
          refine AT.runU tOk [(10, [])] 0 [⟨[3, 4, 9], 62, 3, 24⟩, ⟨[1, 3, 4, 9], 25, 2, 22⟩] [10, 9, 7, 6, 5, 4, 3, 8, 1, 2, 0] rfl (by kernel_rfl) (fun cx => ?_)
          exact AT.done [7, 6, 4, 3, 2] [6, 3, 2] _ (by kernel_rfl) (by kernel_rfl) rfl
      · refine LAt.runU tOk 1 (by kernel_rfl) ?_
        refine LAt.fin (by kernel_rfl) (And.intro (And.intro (by kernel_rfl) (by kernel_rfl)) ?_)
        refine AT.big1 tOk 1 (by kernel_rfl) (by kernel_rfl) ?_
        refine LAt.callU tOk [.rd] (f := 17) (av := #[.tmp 22]) (ats := #[25]) (d := (some 23)) (ty := 29) (g := none) (by kernel_rfl) (by kernel_rfl) (by kernel_rfl) [] (laws_toVtab n x0 r2 er2) (by kernel_rfl) (.inl rfl) ?_
        refine LAt.fin (by kernel_rfl) (And.intro (And.intro (by kernel_rfl) (by kernel_rfl)) ?_)
        refine AT.big1 tOk 3 (by kernel_rfl) (by kernel_rfl) ?_
        refine LAt.callU tOk [.rd] (f := 43) (av := #[.tmp 24]) (ats := #[62]) (d := (some 25)) (ty := 56) (g := none) (by kernel_rfl) (by kernel_rfl) (by kernel_rfl) [] (laws_toVrow n x1 r3 er3) (by kernel_rfl) (.inl rfl) ?_
        refine LAt.fin (by kernel_rfl) (And.intro (And.intro (by kernel_rfl) (by kernel_rfl)) ?_)
        refine AT.big1 tOk 4 (by kernel_rfl) (by kernel_rfl) ?_
        refine LAt.callU tOk [.rd, .rd] (f := 38) (av := #[.tmp 23, .tmp 25]) (ats := #[29, 56]) (d := (some 26)) (ty := 30) (g := none) (by kernel_rfl) (by kernel_rfl) (by kernel_rfl) [] (spec_PutRow n r2 r3 r4 er4) (by kernel_rfl) (.inl rfl) ?_
        refine LAt.fin (by kernel_rfl) (And.intro (And.intro (by kernel_rfl) (by kernel_rfl)) ?_)
        refine AT.movT tOk 5 (ty := 30) (t := 26) (d := 21) (g := none) [(true, (Vtab.row r4.1)), (false, [.lit (.bool r4.2)])] _ (by kernel_rfl) (by kernel_rfl) (by kernel_rfl) (.inl rfl) (by kernel_rfl) (by kernel_rfl) (by kernel_rfl) (by kernel_rfl) rfl (fun cx => ?_)
        refine AT.runU tOk [(6, []), (7, [])] 2 [⟨[3, 4, 9], 62, 3, 24⟩, ⟨[1, 3, 4, 9], 25, 2, 22⟩] [7, 6, 5, 4, 3, 1, 8, 2, 0] rfl (by kernel_rfl) (fun cx => ?_)
        refine AT.big1 tOk 9 (by kernel_rfl) (by kernel_rfl) ?_
        refine LAt.runU tOk 1 (by kernel_rfl) ?_
        refine LAt.fin (by kernel_rfl) (And.intro (And.intro (by kernel_rfl) (by kernel_rfl)) ?_)
        refine AT.runU tOk [(10, [])] 0 [⟨[3, 4, 9], 62, 3, 24⟩, ⟨[1, 3, 4, 9], 25, 2, 22⟩] [10, 9, 7, 6, 5, 4, 3, 1, 8, 2, 0] rfl (by kernel_rfl) (fun cx => ?_)
        exact AT.done [7, 6, 4, 3, 2] [6, 3, 2] _ (by kernel_rfl) (by kernel_rfl) rfl
    · refine Tr.rs ?_
      refine LAt.runU tOk 1 (by kernel_rfl) ?_
      obtain ⟨r5, er5, H⟩ := bind_some H
      refine LAt.callU tOk [.rd] (f := 17) (av := #[.tmp 29]) (ats := #[25]) (d := (some 30)) (ty := 29) (g := none) (by kernel_rfl) (by kernel_rfl) (by kernel_rfl) [] (laws_toVtab n x0 r5 er5) (by kernel_rfl) (.inl rfl) ?_
      refine LAt.runU tOk 2 (by kernel_rfl) ?_
      refine LAt.doneU [8, 7, 6, 4, 3, 2] [8, 6, 3, 2] (by kernel_rfl) ?_
      obtain ⟨r6, er6, H⟩ := bind_some H
      obtain ⟨r7, er7, H⟩ := bind_some H
      refine Tr.draws mixed 10 (by kernel_rfl) ⟨104, 0, [(10, .val false [.lit (.bool r7.2)]), (9, .adr (.box 9) [(0, 0)] 2 0), (8, .adr (.box 8) [(0, 0)] 2 0), (7, .val false [.lit (.bool r4.2)]), (6, .adr (.box 6) [(0, 0)] 2 0), (4, .val false [.lit (.bool false)]), (3, .adr (.box 3) [(0, 0)] 3 0), (2, .adr (.box 2) [(0, 0)] 2 0)], [(9, (Vtab.row r7.1)), (8, (Vtab.row r5)), (6, (Vtab.row r4.1)), (3, (Vrow.row x1)), (2, (CV.frzRow (Vtab.row x0)))]⟩ (fun cx => ?_) ?_
      · refine AT.runU tOk [(0, [3, 8]), (1, [2, 3, 8])] 8 [⟨[2, 3, 8], 62, 3, 33⟩, ⟨[3, 8], 29, 8, 32⟩] [1, 0] rfl (by kernel_rfl) (fun cx => ?_)
        refine AT.big2 tOk 2 7 (by kernel_rfl) (And.intro (by kernel_rfl) ?_) (And.intro (by kernel_rfl) ?_)
        · refine LAt.callU tOk [.rd] (f := 43) (av := #[.tmp 33]) (ats := #[62]) (d := (some 34)) (ty := 56) (g := none) (by kernel_rfl) (by kernel_rfl) (by kernel_rfl) [] (laws_toVrow n x1 r6 er6) (by kernel_rfl) (.inl rfl) ?_
          refine LAt.fin (by kernel_rfl) (And.intro (And.intro (by kernel_rfl) (by kernel_rfl)) ?_)
          refine AT.big2 tOk 3 7 (by kernel_rfl) (And.intro (by kernel_rfl) ?_) (And.intro (by kernel_rfl) ?_)
          · refine LAt.callU tOk [.rd, .rd] (f := 37) (av := #[.tmp 32, .tmp 34]) (ats := #[29, 56]) (d := (some 35)) (ty := 30) (g := none) (by kernel_rfl) (by kernel_rfl) (by kernel_rfl) [.box 8] (impl_PutRow n r5 r6 r7 er7) (by kernel_rfl) (.inr (rets_cons (Vtab.row_mine _) (rets_cons (mine_cons mine_lit mine_nil) rets_nil))) ?_
            refine LAt.fin (by kernel_rfl) (And.intro (And.intro (by kernel_rfl) (by kernel_rfl)) ?_)
            refine AT.movT tOk 4 (ty := 30) (t := 35) (d := 31) (g := none) [(true, (Vtab.row r7.1)), (false, [.lit (.bool r7.2)])] _ (by kernel_rfl) (by kernel_rfl) (by kernel_rfl) (.inl rfl) (by kernel_rfl) (by kernel_rfl) (by kernel_rfl) (by kernel_rfl) rfl (fun cx => ?_)
            refine AT.runU tOk [(5, []), (6, [])] 3 [⟨[2, 3, 8], 62, 3, 33⟩, ⟨[3, 8], 29, 8, 32⟩] [6, 5, 4, 3, 2, 1, 0] rfl (by kernel_rfl) (fun cx => ?_)
            refine AT.big1 tOk 7 (by kernel_rfl) (by kernel_rfl) ?_
            refine LAt.runU tOk 1 (by kernel_rfl) ?_
            refine LAt.fin (by kernel_rfl) (And.intro (And.intro (by kernel_rfl) (by kernel_rfl)) ?_)
            refine AT.big1 tOk 8 (by kernel_rfl) (by kernel_rfl) ?_
            refine LAt.runU tOk 1 (by kernel_rfl) ?_
            refine LAt.fin (by kernel_rfl) (And.intro (And.intro (by kernel_rfl) (by kernel_rfl)) ?_)
            refine AT.runU tOk [(9, [])] 0 [⟨[2, 3, 8], 62, 3, 33⟩, ⟨[3, 8], 29, 8, 32⟩] [9, 8, 7, 6, 5, 4, 3, 2, 1, 0] rfl (by kernel_rfl) (fun cx => ?_)
            exact AT.done [10, 9, 8, 7, 6, 4, 3, 2] [9, 8, 6, 3, 2] _ (by kernel_rfl) (by kernel_rfl) rfl
          · refine LAt.runU tOk 1 (by kernel_rfl) ?_
            refine LAt.fin (by kernel_rfl) (And.intro (And.intro (by kernel_rfl) (by kernel_rfl)) ?_)
            refine AT.big1 tOk 3 (by kernel_rfl) (by kernel_rfl) ?_
            refine LAt.callU tOk [.rd, .rd] (f := 37) (av := #[.tmp 32, .tmp 34]) (ats := #[29, 56]) (d := (some 35)) (ty := 30) (g := none) (by kernel_rfl) (by kernel_rfl) (by kernel_rfl) [.box 8] (impl_PutRow n r5 r6 r7 er7) (by kernel_rfl) (.inr (rets_cons (Vtab.row_mine _) (rets_cons (mine_cons mine_lit mine_nil) rets_nil))) ?_
            refine LAt.fin (by kernel_rfl) (And.intro (And.intro (by kernel_rfl) (by kernel_rfl)) ?_)
            refine AT.movT tOk 4 (ty := 30) (t := 35) (d := 31) (g := none) [(true, (Vtab.row r7.1)), (false, [.lit (.bool r7.2)])] _ (by kernel_rfl) (by kernel_rfl) (by kernel_rfl) (.inl rfl) (by kernel_rfl) (by kernel_rfl) (by kernel_rfl) (by kernel_rfl) rfl (fun cx => ?_)
            refine AT.runU tOk [(5, []), (6, [])] 2 [⟨[2, 3, 8], 62, 3, 33⟩, ⟨[3, 8], 29, 8, 32⟩] [6, 5, 4, 3, 7, 2, 1, 0] rfl (by kernel_rfl) (fun cx => ?_)
            refine AT.big1 tOk 8 (by kernel_rfl) (by kernel_rfl) ?_
            refine LAt.runU tOk 1 (by kernel_rfl) ?_
            refine LAt.fin (by kernel_rfl) (And.intro (And.intro (by kernel_rfl) (by kernel_rfl)) ?_)
            refine AT.runU tOk [(9, [])] 0 [⟨[2, 3, 8], 62, 3, 33⟩, ⟨[3, 8], 29, 8, 32⟩] [9, 8, 6, 5, 4, 3, 7, 2, 1, 0] rfl (by kernel_rfl) (fun cx => ?_)
            exact AT.done [10, 9, 8, 7, 6, 4, 3, 2] [9, 8, 6, 3, 2] _ (by kernel_rfl) (by kernel_rfl) rfl
        · refine LAt.runU tOk 1 (by kernel_rfl) ?_
          refine LAt.fin (by kernel_rfl) (And.intro (And.intro (by kernel_rfl) (by kernel_rfl)) ?_)
          refine AT.big1 tOk 2 (by kernel_rfl) (by kernel_rfl) ?_
          refine LAt.callU tOk [.rd] (f := 43) (av := #[.tmp 33]) (ats := #[62]) (d := (some 34)) (ty := 56) (g := none) (by kernel_rfl) (by kernel_rfl) (by kernel_rfl) [] (laws_toVrow n x1 r6 er6) (by kernel_rfl) (.inl rfl) ?_
          refine LAt.fin (by kernel_rfl) (And.intro (And.intro (by kernel_rfl) (by kernel_rfl)) ?_)
          refine AT.big1 tOk 3 (by kernel_rfl) (by kernel_rfl) ?_
          refine LAt.callU tOk [.rd, .rd] (f := 37) (av := #[.tmp 32, .tmp 34]) (ats := #[29, 56]) (d := (some 35)) (ty := 30) (g := none) (by kernel_rfl) (by kernel_rfl) (by kernel_rfl) [.box 8] (impl_PutRow n r5 r6 r7 er7) (by kernel_rfl) (.inr (rets_cons (Vtab.row_mine _) (rets_cons (mine_cons mine_lit mine_nil) rets_nil))) ?_
          refine LAt.fin (by kernel_rfl) (And.intro (And.intro (by kernel_rfl) (by kernel_rfl)) ?_)
          refine AT.movT tOk 4 (ty := 30) (t := 35) (d := 31) (g := none) [(true, (Vtab.row r7.1)), (false, [.lit (.bool r7.2)])] _ (by kernel_rfl) (by kernel_rfl) (by kernel_rfl) (.inl rfl) (by kernel_rfl) (by kernel_rfl) (by kernel_rfl) (by kernel_rfl) rfl (fun cx => ?_)
          refine AT.runU tOk [(5, []), (6, [])] 2 [⟨[2, 3, 8], 62, 3, 33⟩, ⟨[3, 8], 29, 8, 32⟩] [6, 5, 4, 3, 2, 7, 1, 0] rfl (by kernel_rfl) (fun cx => ?_)
          refine AT.big1 tOk 8 (by kernel_rfl) (by kernel_rfl) ?_
          refine LAt.runU tOk 1 (by kernel_rfl) ?_
          refine LAt.fin (by kernel_rfl) (And.intro (And.intro (by kernel_rfl) (by kernel_rfl)) ?_)
          refine AT.runU tOk [(9, [])] 0 [⟨[2, 3, 8], 62, 3, 33⟩, ⟨[3, 8], 29, 8, 32⟩] [9, 8, 6, 5, 4, 3, 2, 7, 1, 0] rfl (by kernel_rfl) (fun cx => ?_)
          exact AT.done [10, 9, 8, 7, 6, 4, 3, 2] [9, 8, 6, 3, 2] _ (by kernel_rfl) (by kernel_rfl) rfl
      · refine Tr.seq ?_
        refine Tr.rs ?_
        refine LAt.runU tOk 2 (by kernel_rfl) ?_
        obtain ⟨r8, er8, H⟩ := bind_some H
        refine LAt.callU tOk [.rd, .rd] (f := 19) (av := #[.tmp 38, .tmp 39]) (ats := #[29, 29]) (d := (some 40)) (ty := 4) (g := none) (by kernel_rfl) (by kernel_rfl) (by kernel_rfl) [.box 9, .box 6] (laws_eqVtab n r7.1 r4.1 r8 er8) (by kernel_rfl) (.inr (rets_cons (mine_cons mine_lit mine_nil) rets_nil)) ?_
        refine LAt.runU tOk 2 (by kernel_rfl) ?_
        refine LAt.to ⟨104, 0, [(42, .val false [.lit (.bool (!r8))]), (41, .val false [.lit (.bool (!r8))]), (40, .val false [.lit (.bool r8)]), (39, .ref (.box 6) [(0, 0)] 2 0 2 true), (38, .ref (.box 9) [(0, 0)] 2 0 2 true), (10, .val false [.lit (.bool r7.2)]), (9, .adr (.box 9) [(0, 0)] 2 0), (8, .adr (.box 8) [(0, 0)] 2 0), (7, .val false [.lit (.bool r4.2)]), (6, .adr (.box 6) [(0, 0)] 2 0), (4, .val false [.lit (.bool false)]), (3, .adr (.box 3) [(0, 0)] 3 0), (2, .adr (.box 2) [(0, 0)] 2 0)], [(9, (Vtab.row r7.1)), (8, (Vtab.row r5)), (6, (Vtab.row r4.1)), (3, (Vrow.row x1)), (2, (CV.frzRow (Vtab.row x0)))]⟩ (by kernel_rfl) ?_
        cases h2 : (!r8)
        · have H := bifF h2 H
          refine LAt.runU tOk 4 (by kernel_rfl) ?_
          refine LAt.doneU [46, 10, 9, 8, 7, 6, 4, 3, 2] [9, 8, 6, 3, 2] (by kernel_rfl) ?_
          refine Tr.to ⟨104, 0, [(46, .val false [.lit (.bool (!(r7.2 == r4.2)))]), (10, .val false [.lit (.bool r7.2)]), (9, .adr (.box 9) [(0, 0)] 2 0), (8, .adr (.box 8) [(0, 0)] 2 0), (7, .val false [.lit (.bool r4.2)]), (6, .adr (.box 6) [(0, 0)] 2 0), (4, .val false [.lit (.bool false)]), (3, .adr (.box 3) [(0, 0)] 3 0), (2, .adr (.box 2) [(0, 0)] 2 0)], [(9, (Vtab.row r7.1)), (8, (Vtab.row r5)), (6, (Vtab.row r4.1)), (3, (Vrow.row x1)), (2, (CV.frzRow (Vtab.row x0)))]⟩ (by kernel_rfl) ?_
          cases h3 : (!(r7.2 == r4.2))
          · have H := bifF h3 H
            refine Tr.cond (b := false) (by kernel_rfl) (fun h => nomatch h) (fun _ => ?_)
            refine Tr.skip ?_
            show Tr _ _ _ _ _
            refine Tr.seq ?_
            obtain ⟨r9, er9, H⟩ := bind_some H
            obtain ⟨r10, er10, H⟩ := bind_some H
            refine Tr.draws mixed 5 (by kernel_rfl) ⟨104, 0, [(51, .val false [.lit (.bool (!r10))]), (10, .val false [.lit (.bool r7.2)]), (9, .adr (.box 9) [(0, 0)] 2 0), (8, .adr (.box 8) [(0, 0)] 2 0), (7, .val false [.lit (.bool r4.2)]), (6, .adr (.box 6) [(0, 0)] 2 0), (4, .val false [.lit (.bool false)]), (3, .adr (.box 3) [(0, 0)] 3 0), (2, .adr (.box 2) [(0, 0)] 2 0)], [(9, (Vtab.row r7.1)), (8, (Vtab.row r5)), (6, (Vtab.row r4.1)), (3, (Vrow.row x1)), (2, (CV.frzRow (Vtab.row x0)))]⟩ (fun cx => ?_) ?_
            · refine AT.runU tOk [(0, [3]), (1, [2, 3])] 3 [⟨[2, 3], 25, 2, 48⟩, ⟨[3], 29, 8, 47⟩] [1, 0] rfl (by kernel_rfl) (fun cx => ?_)
              refine AT.big1 tOk 2 (by kernel_rfl) (by kernel_rfl) ?_
              refine LAt.callU tOk [.rd] (f := 17) (av := #[.tmp 48]) (ats := #[25]) (d := (some 49)) (ty := 29) (g := none) (by kernel_rfl) (by kernel_rfl) (by kernel_rfl) [] (laws_toVtab n x0 r9 er9) (by kernel_rfl) (.inl rfl) ?_
              refine LAt.fin (by kernel_rfl) (And.intro (And.intro (by kernel_rfl) (by kernel_rfl)) ?_)
              refine AT.big1 tOk 3 (by kernel_rfl) (by kernel_rfl) ?_
              refine LAt.callU tOk [.rd, .rd] (f := 19) (av := #[.tmp 47, .tmp 49]) (ats := #[29, 29]) (d := (some 50)) (ty := 4) (g := none) (by kernel_rfl) (by kernel_rfl) (by kernel_rfl) [.box 8] (laws_eqVtab n r5 r9 r10 er10) (by kernel_rfl) (.inr (rets_cons (mine_cons mine_lit mine_nil) rets_nil)) ?_
              refine LAt.fin (by kernel_rfl) (And.intro (And.intro (by kernel_rfl) (by kernel_rfl)) ?_)
              refine AT.runU tOk [(4, [])] 0 [⟨[2, 3], 25, 2, 48⟩, ⟨[3], 29, 8, 47⟩] [4, 3, 2, 1, 0] rfl (by kernel_rfl) (fun cx => ?_)
              exact AT.done [51, 10, 9, 8, 7, 6, 4, 3, 2] [9, 8, 6, 3, 2] _ (by kernel_rfl) (by kernel_rfl) rfl
            · refine Tr.to ⟨104, 0, [(51, .val false [.lit (.bool (!r10))]), (10, .val false [.lit (.bool r7.2)]), (9, .adr (.box 9) [(0, 0)] 2 0), (8, .adr (.box 8) [(0, 0)] 2 0), (7, .val false [.lit (.bool r4.2)]), (6, .adr (.box 6) [(0, 0)] 2 0), (4, .val false [.lit (.bool false)]), (3, .adr (.box 3) [(0, 0)] 3 0), (2, .adr (.box 2) [(0, 0)] 2 0)], [(9, (Vtab.row r7.1)), (8, (Vtab.row r5)), (6, (Vtab.row r4.1)), (3, (Vrow.row x1)), (2, (CV.frzRow (Vtab.row x0)))]⟩ (by kernel_rfl) ?_
              cases h4 : (!r10)
              · have H := bifF h4 H
                refine Tr.cond (b := false) (by kernel_rfl) (fun h => nomatch h) (fun _ => ?_)
                refine Tr.skip ?_
                show Tr _ _ _ _ _
                refine Tr.rs ?_
                refine LAt.runU tOk 1 (by kernel_rfl) ?_
                refine LAt.doneU [11, 10, 9, 8, 7, 6, 4, 3, 2] [9, 8, 6, 3, 2] (by kernel_rfl) ?_
                refine Tr.rs ?_
                refine LAt.runU tOk 2 (by kernel_rfl) ?_
                obtain ⟨r11, er11, H⟩ := bind_some H
                refine LAt.callL tOk [.lend, .rd] (f := 20) (av := #[.tmp 52, .tmp 53]) (ats := #[29, 3]) (d := (some 54)) (ty := 3) (g := none) (by kernel_rfl) (by kernel_rfl) (by kernel_rfl) [] (laws_markVtab n r5 1 r11 er11) (by kernel_rfl) (.inl rfl) ?_
                refine LAt.runU tOk 1 (by kernel_rfl) ?_
                refine LAt.doneU [11, 10, 9, 7, 6, 4, 3, 2] [9, 6, 3, 2] (by kernel_rfl) ?_
                refine Tr.seq ?_
                refine Tr.rs ?_
                refine LAt.runU tOk 3 (by kernel_rfl) ?_
                refine LAt.to ⟨104, 0, [(57, .val false [.lit (.bool (decide (r11.1 < 0)))]), (56, .val false [.lit (.bool (decide (r11.1 < 0)))]), (55, .val false [.lit (.int .i64 r11.1)]), (11, .val false [.lit (.int .i64 r11.1)]), (10, .val false [.lit (.bool r7.2)]), (9, .adr (.box 9) [(0, 0)] 2 0), (7, .val false [.lit (.bool r4.2)]), (6, .adr (.box 6) [(0, 0)] 2 0), (4, .val false [.lit (.bool false)]), (3, .adr (.box 3) [(0, 0)] 3 0), (2, .adr (.box 2) [(0, 0)] 2 0)], [(9, (Vtab.row r7.1)), (6, (Vtab.row r4.1)), (3, (Vrow.row x1)), (2, (CV.frzRow (Vtab.row x0)))]⟩ (by kernel_rfl) ?_
                cases h5 : (decide (r11.1 < 0))
                · have H := bifF h5 H
                  refine LAt.runU tOk 2 (by kernel_rfl) ?_
                  obtain ⟨r12, er12, H⟩ := bind_some H
                  refine LAt.callU tOk [.rd, .rd] (f := 19) (av := #[.tmp 58, .tmp 59]) (ats := #[29, 29]) (d := (some 60)) (ty := 4) (g := (some (2, false))) (by kernel_rfl) (by kernel_rfl) (by kernel_rfl) [.box 9, .box 6] (laws_eqVtab n r7.1 r4.1 r12 er12) (by kernel_rfl) (.inr (rets_cons (mine_cons mine_lit mine_nil) rets_nil)) ?_
                  refine LAt.runU tOk 3 (by kernel_rfl) ?_
                  refine LAt.to ⟨104, 0, [(63, .val false [.lit (.bool (!r12))]), (62, .val false [.lit (.bool (!r12))]), (61, .val false [.lit (.bool (!r12))]), (60, .val false [.lit (.bool r12)]), (59, .ref (.box 6) [(0, 0)] 2 0 2 true), (58, .ref (.box 9) [(0, 0)] 2 0 2 true), (57, .val false [.lit (.bool false)]), (56, .val false [.lit (.bool false)]), (55, .val false [.lit (.int .i64 r11.1)]), (11, .val false [.lit (.int .i64 r11.1)]), (10, .val false [.lit (.bool r7.2)]), (9, .adr (.box 9) [(0, 0)] 2 0), (7, .val false [.lit (.bool r4.2)]), (6, .adr (.box 6) [(0, 0)] 2 0), (4, .val false [.lit (.bool false)]), (3, .adr (.box 3) [(0, 0)] 3 0), (2, .adr (.box 2) [(0, 0)] 2 0)], [(9, (Vtab.row r7.1)), (6, (Vtab.row r4.1)), (3, (Vrow.row x1)), (2, (CV.frzRow (Vtab.row x0)))]⟩ (by kernel_rfl) ?_
                  cases h6 : (!r12)
                  · have H := bifF h6 H
                    refine LAt.runU tOk 4 (by kernel_rfl) ?_
                    refine LAt.doneU [67, 9, 7, 6, 4, 3, 2] [9, 6, 3, 2] (by kernel_rfl) ?_
                    refine Tr.to ⟨104, 0, [(67, .val false [.lit (.bool (!(r7.2 == r4.2)))]), (9, .adr (.box 9) [(0, 0)] 2 0), (7, .val false [.lit (.bool r4.2)]), (6, .adr (.box 6) [(0, 0)] 2 0), (4, .val false [.lit (.bool false)]), (3, .adr (.box 3) [(0, 0)] 3 0), (2, .adr (.box 2) [(0, 0)] 2 0)], [(9, (Vtab.row r7.1)), (6, (Vtab.row r4.1)), (3, (Vrow.row x1)), (2, (CV.frzRow (Vtab.row x0)))]⟩ (by kernel_rfl) ?_
                    rw [h3]
                    refine Tr.cond (b := false) (by kernel_rfl) (fun h => nomatch h) (fun _ => ?_)
                    refine Tr.skip ?_
                    show Tr _ _ _ _ _
                    refine Tr.rs ?_
                    refine LAt.runU tOk 1 (by kernel_rfl) ?_
                    refine LAt.doneU [12, 9, 7, 6, 4, 3, 2] [9, 6, 3, 2] (by kernel_rfl) ?_
                    refine Tr.rs ?_
                    refine LAt.runU tOk 2 (by kernel_rfl) ?_
                    obtain ⟨r13, er13, H⟩ := bind_some H
                    refine LAt.callL tOk [.lend, .rd] (f := 20) (av := #[.tmp 68, .tmp 69]) (ats := #[29, 3]) (d := (some 70)) (ty := 3) (g := none) (by kernel_rfl) (by kernel_rfl) (by kernel_rfl) [] (laws_markVtab n r7.1 1 r13 er13) (by kernel_rfl) (.inl rfl) ?_
                    refine LAt.runU tOk 1 (by kernel_rfl) ?_
                    refine LAt.doneU [12, 9, 7, 6, 4, 3, 2] [9, 6, 3, 2] (by kernel_rfl) ?_
                    refine Tr.rs ?_
                    refine LAt.runU tOk 1 (by kernel_rfl) ?_
                    refine LAt.doneU [13, 12, 9, 7, 6, 4, 3, 2] [9, 6, 3, 2] (by kernel_rfl) ?_
                    refine Tr.rs ?_
                    refine LAt.runU tOk 2 (by kernel_rfl) ?_
                    obtain ⟨r14, er14, H⟩ := bind_some H
                    refine LAt.callU tOk [.rd, .rd] (f := 21) (av := #[.tmp 71, .tmp 72]) (ats := #[29, 3]) (d := (some 73)) (ty := 3) (g := none) (by kernel_rfl) (by kernel_rfl) (by kernel_rfl) [.box 9] (laws_heldVtab n r13.2 1 r14 er14) (by kernel_rfl) (.inr (rets_cons (mine_cons mine_lit mine_nil) rets_nil)) ?_
                    refine LAt.runU tOk 1 (by kernel_rfl) ?_
                    refine LAt.doneU [13, 12, 9, 7, 6, 4, 3, 2] [9, 6, 3, 2] (by kernel_rfl) ?_
                    refine Tr.seq ?_
                    refine Tr.rs ?_
                    refine LAt.runU tOk 2 (by kernel_rfl) ?_
                    refine LAt.doneU [75, 13, 12, 9, 7, 6, 4, 3, 2] [9, 6, 3, 2] (by kernel_rfl) ?_
                    refine Tr.to ⟨104, 0, [(75, .val false [.lit (.bool (decide (r14 < 0)))]), (13, .val false [.lit (.int .i64 r14)]), (12, .val false [.lit (.int .i64 r13.1)]), (9, .adr (.box 9) [(0, 0)] 2 0), (7, .val false [.lit (.bool r4.2)]), (6, .adr (.box 6) [(0, 0)] 2 0), (4, .val false [.lit (.bool false)]), (3, .adr (.box 3) [(0, 0)] 3 0), (2, .adr (.box 2) [(0, 0)] 2 0)], [(9, (Vtab.row r13.2)), (6, (Vtab.row r4.1)), (3, (Vrow.row x1)), (2, (CV.frzRow (Vtab.row x0)))]⟩ (by kernel_rfl) ?_
                    cases h7 : (decide (r14 < 0))
                    · have H := bifF h7 H
                      refine Tr.cond (b := false) (by kernel_rfl) (fun h => nomatch h) (fun _ => ?_)
                      refine Tr.skip ?_
                      show Tr _ _ _ _ _
                      refine Tr.seq ?_
                      refine Tr.rs ?_
                      refine LAt.runU tOk 3 (by kernel_rfl) ?_
                      refine LAt.doneU [78, 13, 12, 9, 7, 6, 4, 3, 2] [9, 6, 3, 2] (by kernel_rfl) ?_
                      refine Tr.to ⟨104, 0, [(78, .val false [.lit (.bool (r14 != r13.1))]), (13, .val false [.lit (.int .i64 r14)]), (12, .val false [.lit (.int .i64 r13.1)]), (9, .adr (.box 9) [(0, 0)] 2 0), (7, .val false [.lit (.bool r4.2)]), (6, .adr (.box 6) [(0, 0)] 2 0), (4, .val false [.lit (.bool false)]), (3, .adr (.box 3) [(0, 0)] 3 0), (2, .adr (.box 2) [(0, 0)] 2 0)], [(9, (Vtab.row r13.2)), (6, (Vtab.row r4.1)), (3, (Vrow.row x1)), (2, (CV.frzRow (Vtab.row x0)))]⟩ (by kernel_rfl) ?_
                      cases h8 : (r14 != r13.1)
                      · have H := bifF h8 H
                        refine Tr.cond (b := false) (by kernel_rfl) (fun h => nomatch h) (fun _ => ?_)
                        refine Tr.skip ?_
                        show Tr _ _ _ _ _
                        obtain ⟨r15, er15, H⟩ := bind_some H
                        obtain ⟨r16, er16, H⟩ := bind_some H
                        obtain ⟨r17, er17, H⟩ := bind_some H
                        refine Tr.draws mixed 11 (by kernel_rfl) ⟨104, 0, [(15, .val false [.lit (.bool r17.2)]), (14, .adr (.box 14) [(0, 0)] 2 0), (13, .val false [.lit (.int .i64 r14)]), (12, .val false [.lit (.int .i64 r13.1)]), (9, .adr (.box 9) [(0, 0)] 2 0), (7, .val false [.lit (.bool r4.2)]), (6, .adr (.box 6) [(0, 0)] 2 0), (4, .val false [.lit (.bool false)])], [(14, (Vtab.row r17.1)), (9, (Vtab.row r13.2)), (6, (Vtab.row r4.1))]⟩ (fun cx => ?_) ?_
                        · refine AT.runU tOk [(0, [1, 3, 4, 9]), (2, [3, 4, 9])] 9 [⟨[3, 4, 9], 62, 3, 82⟩, ⟨[1, 3, 4, 9], 25, 2, 80⟩] [2, 0] rfl (by kernel_rfl) (fun cx => ?_)
                          refine AT.big2 tOk 1 8 (by kernel_rfl) (And.intro (by kernel_rfl) ?_) (And.intro (by kernel_rfl) ?_)
                          · refine LAt.callU tOk [.rd] (f := 17) (av := #[.tmp 80]) (ats := #[25]) (d := (some 81)) (ty := 29) (g := none) (by kernel_rfl) (by kernel_rfl) (by kernel_rfl) [] (laws_toVtab n x0 r15 er15) (by kernel_rfl) (.inl rfl) ?_
                            refine LAt.fin (by kernel_rfl) (And.intro (And.intro (by kernel_rfl) (by kernel_rfl)) ?_)
                            refine AT.big2 tOk 3 8 (by kernel_rfl) (And.intro (by kernel_rfl) ?_) (And.intro (by kernel_rfl) ?_)
                            · refine LAt.callU tOk [.rd] (f := 43) (av := #[.tmp 82]) (ats := #[62]) (d := (some 83)) (ty := 56) (g := none) (by kernel_rfl) (by kernel_rfl) (by kernel_rfl) [] (laws_toVrow n x1 r16 er16) (by kernel_rfl) (.inl rfl) ?_
                              refine LAt.fin (by kernel_rfl) (And.intro (And.intro (by kernel_rfl) (by kernel_rfl)) ?_)
                              refine AT.big2 tOk 4 8 (by kernel_rfl) (And.intro (by kernel_rfl) ?_) (And.intro (by kernel_rfl) ?_)
                              · refine LAt.callU tOk [.rd, .rd] (f := 37) (av := #[.tmp 81, .tmp 83]) (ats := #[29, 56]) (d := (some 84)) (ty := 30) (g := none) (by kernel_rfl) (by kernel_rfl) (by kernel_rfl) [] (impl_PutRow n r15 r16 r17 er17) (by kernel_rfl) (.inl rfl) ?_
                                refine LAt.fin (by kernel_rfl) (And.intro (And.intro (by kernel_rfl) (by kernel_rfl)) ?_)
                                refine AT.movT tOk 5 (ty := 30) (t := 84) (d := 79) (g := none) [(true, (Vtab.row r17.1)), (false, [.lit (.bool r17.2)])] _ (by kernel_rfl) (by kernel_rfl) (by kernel_rfl) (.inl rfl) (by kernel_rfl) (by kernel_rfl) (by kernel_rfl) (by kernel_rfl) rfl (fun cx => ?_)
                                refine AT.runU tOk [(6, []), (7, [])] 3 [⟨[3, 4, 9], 62, 3, 82⟩, ⟨[1, 3, 4, 9], 25, 2, 80⟩] [7, 6, 5, 4, 3, 1, 2, 0] rfl (by kernel_rfl) (fun cx => ?_)
                                refine AT.big1 tOk 8 (by kernel_rfl) (by kernel_rfl) ?_
                                refine LAt.runU tOk 1 (by kernel_rfl) ?_
                                refine LAt.fin (by kernel_rfl) (And.intro (And.intro (by kernel_rfl) (by kernel_rfl)) ?_)
                                refine AT.big1 tOk 9 (by kernel_rfl) (by kernel_rfl) ?_
                                refine LAt.runU tOk 1 (by kernel_rfl) ?_
                                refine LAt.fin (by kernel_rfl) (And.intro (And.intro (by kernel_rfl) (by kernel_rfl)) ?_)
                                refine AT.runU tOk [(10, [])] 0 [⟨[3, 4, 9], 62, 3, 82⟩, ⟨[1, 3, 4, 9], 25, 2, 80⟩] [10, 9, 8, 7, 6, 5, 4, 3, 1, 2, 0] rfl (by kernel_rfl) (fun cx => ?_)
                                exact AT.done [15, 14, 13, 12, 9, 7, 6, 4] [14, 9, 6] _ (by kernel_rfl) (by kernel_rfl) rfl
                              · refine LAt.runU tOk 1 (by kernel_rfl) ?_
                                refine LAt.fin (by kernel_rfl) (And.intro (And.intro (by kernel_rfl) (by kernel_rfl)) ?_)
                                refine AT.big1 tOk 4 (by kernel_rfl) (by kernel_rfl) ?_
                                refine LAt.callU tOk [.rd, .rd] (f := 37) (av := #[.tmp 81, .tmp 83]) (ats := #[29, 56]) (d := (some 84)) (ty := 30) (g := none) (by kernel_rfl) (by kernel_rfl) (by kernel_rfl) [] (impl_PutRow n r15 r16 r17 er17) (by kernel_rfl) (.inl rfl) ?_
                                refine LAt.fin (by kernel_rfl) (And.intro (And.intro (by kernel_rfl) (by kernel_rfl)) ?_)
                                refine AT.movT tOk 5 (ty := 30) (t := 84) (d := 79) (g := none) [(true, (Vtab.row r17.1)), (false, [.lit (.bool r17.2)])] _ (by kernel_rfl) (by kernel_rfl) (by kernel_rfl) (.inl rfl) (by kernel_rfl) (by kernel_rfl) (by kernel_rfl) (by kernel_rfl) rfl (fun cx => ?_)
                                refine AT.runU tOk [(6, []), (7, [])] 2 [⟨[3, 4, 9], 62, 3, 82⟩, ⟨[1, 3, 4, 9], 25, 2, 80⟩] [7, 6, 5, 4, 8, 3, 1, 2, 0] rfl (by kernel_rfl) (fun cx => ?_)
                                refine AT.big1 tOk 9 (by kernel_rfl) (by kernel_rfl) ?_
                                refine LAt.runU tOk 1 (by kernel_rfl) ?_
                                refine LAt.fin (by kernel_rfl) (And.intro (And.intro (by kernel_rfl) (by kernel_rfl)) ?_)
                                refine AT.runU tOk [(10, [])] 0 [⟨[3, 4, 9], 62, 3, 82⟩, ⟨[1, 3, 4, 9], 25, 2, 80⟩] [10, 9, 7, 6, 5, 4, 8, 3, 1, 2, 0] rfl (by kernel_rfl) (fun cx => ?_)
                                exact AT.done [15, 14, 13, 12, 9, 7, 6, 4] [14, 9, 6] _ (by kernel_rfl) (by kernel_rfl) rfl
                            · refine LAt.runU tOk 1 (by kernel_rfl) ?_
                              refine LAt.fin (by kernel_rfl) (And.intro (And.intro (by kernel_rfl) (by kernel_rfl)) ?_)
                              refine AT.big1 tOk 3 (by kernel_rfl) (by kernel_rfl) ?_
                              refine LAt.callU tOk [.rd] (f := 43) (av := #[.tmp 82]) (ats := #[62]) (d := (some 83)) (ty := 56) (g := none) (by kernel_rfl) (by kernel_rfl) (by kernel_rfl) [] (laws_toVrow n x1 r16 er16) (by kernel_rfl) (.inl rfl) ?_
                              refine LAt.fin (by kernel_rfl) (And.intro (And.intro (by kernel_rfl) (by kernel_rfl)) ?_)
                              refine AT.big1 tOk 4 (by kernel_rfl) (by kernel_rfl) ?_
                              refine LAt.callU tOk [.rd, .rd] (f := 37) (av := #[.tmp 81, .tmp 83]) (ats := #[29, 56]) (d := (some 84)) (ty := 30) (g := none) (by kernel_rfl) (by kernel_rfl) (by kernel_rfl) [] (impl_PutRow n r15 r16 r17 er17) (by kernel_rfl) (.inl rfl) ?_
                              refine LAt.fin (by kernel_rfl) (And.intro (And.intro (by kernel_rfl) (by kernel_rfl)) ?_)
                              refine AT.movT tOk 5 (ty := 30) (t := 84) (d := 79) (g := none) [(true, (Vtab.row r17.1)), (false, [.lit (.bool r17.2)])] _ (by kernel_rfl) (by kernel_rfl) (by kernel_rfl) (.inl rfl) (by kernel_rfl) (by kernel_rfl) (by kernel_rfl) (by kernel_rfl) rfl (fun cx => ?_)
                              refine AT.runU tOk [(6, []), (7, [])] 2 [⟨[3, 4, 9], 62, 3, 82⟩, ⟨[1, 3, 4, 9], 25, 2, 80⟩] [7, 6, 5, 4, 3, 8, 1, 2, 0] rfl (by kernel_rfl) (fun cx => ?_)
                              refine AT.big1 tOk 9 (by kernel_rfl) (by kernel_rfl) ?_
                              refine LAt.runU tOk 1 (by kernel_rfl) ?_
                              refine LAt.fin (by kernel_rfl) (And.intro (And.intro (by kernel_rfl) (by kernel_rfl)) ?_)
                              refine AT.runU tOk [(10, [])] 0 [⟨[3, 4, 9], 62, 3, 82⟩, ⟨[1, 3, 4, 9], 25, 2, 80⟩] [10, 9, 7, 6, 5, 4, 3, 8, 1, 2, 0] rfl (by kernel_rfl) (fun cx => ?_)
                              exact AT.done [15, 14, 13, 12, 9, 7, 6, 4] [14, 9, 6] _ (by kernel_rfl) (by kernel_rfl) rfl
                          · refine LAt.runU tOk 1 (by kernel_rfl) ?_
                            refine LAt.fin (by kernel_rfl) (And.intro (And.intro (by kernel_rfl) (by kernel_rfl)) ?_)
                            refine AT.big1 tOk 1 (by kernel_rfl) (by kernel_rfl) ?_
                            refine LAt.callU tOk [.rd] (f := 17) (av := #[.tmp 80]) (ats := #[25]) (d := (some 81)) (ty := 29) (g := none) (by kernel_rfl) (by kernel_rfl) (by kernel_rfl) [] (laws_toVtab n x0 r15 er15) (by kernel_rfl) (.inl rfl) ?_
                            refine LAt.fin (by kernel_rfl) (And.intro (And.intro (by kernel_rfl) (by kernel_rfl)) ?_)
                            refine AT.big1 tOk 3 (by kernel_rfl) (by kernel_rfl) ?_
                            refine LAt.callU tOk [.rd] (f := 43) (av := #[.tmp 82]) (ats := #[62]) (d := (some 83)) (ty := 56) (g := none) (by kernel_rfl) (by kernel_rfl) (by kernel_rfl) [] (laws_toVrow n x1 r16 er16) (by kernel_rfl) (.inl rfl) ?_
                            refine LAt.fin (by kernel_rfl) (And.intro (And.intro (by kernel_rfl) (by kernel_rfl)) ?_)
                            refine AT.big1 tOk 4 (by kernel_rfl) (by kernel_rfl) ?_
                            refine LAt.callU tOk [.rd, .rd] (f := 37) (av := #[.tmp 81, .tmp 83]) (ats := #[29, 56]) (d := (some 84)) (ty := 30) (g := none) (by kernel_rfl) (by kernel_rfl) (by kernel_rfl) [] (impl_PutRow n r15 r16 r17 er17) (by kernel_rfl) (.inl rfl) ?_
                            refine LAt.fin (by kernel_rfl) (And.intro (And.intro (by kernel_rfl) (by kernel_rfl)) ?_)
                            refine AT.movT tOk 5 (ty := 30) (t := 84) (d := 79) (g := none) [(true, (Vtab.row r17.1)), (false, [.lit (.bool r17.2)])] _ (by kernel_rfl) (by kernel_rfl) (by kernel_rfl) (.inl rfl) (by kernel_rfl) (by kernel_rfl) (by kernel_rfl) (by kernel_rfl) rfl (fun cx => ?_)
                            refine AT.runU tOk [(6, []), (7, [])] 2 [⟨[3, 4, 9], 62, 3, 82⟩, ⟨[1, 3, 4, 9], 25, 2, 80⟩] [7, 6, 5, 4, 3, 1, 8, 2, 0] rfl (by kernel_rfl) (fun cx => ?_)
                            refine AT.big1 tOk 9 (by kernel_rfl) (by kernel_rfl) ?_
                            refine LAt.runU tOk 1 (by kernel_rfl) ?_
                            refine LAt.fin (by kernel_rfl) (And.intro (And.intro (by kernel_rfl) (by kernel_rfl)) ?_)
                            refine AT.runU tOk [(10, [])] 0 [⟨[3, 4, 9], 62, 3, 82⟩, ⟨[1, 3, 4, 9], 25, 2, 80⟩] [10, 9, 7, 6, 5, 4, 3, 1, 8, 2, 0] rfl (by kernel_rfl) (fun cx => ?_)
                            exact AT.done [15, 14, 13, 12, 9, 7, 6, 4] [14, 9, 6] _ (by kernel_rfl) (by kernel_rfl) rfl
                        · refine Tr.seq ?_
                          refine Tr.rs ?_
                          refine LAt.runU tOk 2 (by kernel_rfl) ?_
                          obtain ⟨r18, er18, H⟩ := bind_some H
                          refine LAt.callU tOk [.rd, .rd] (f := 19) (av := #[.tmp 87, .tmp 88]) (ats := #[29, 29]) (d := (some 89)) (ty := 4) (g := none) (by kernel_rfl) (by kernel_rfl) (by kernel_rfl) [.box 14, .box 6] (laws_eqVtab n r17.1 r4.1 r18 er18) (by kernel_rfl) (.inr (rets_cons (mine_cons mine_lit mine_nil) rets_nil)) ?_
                          refine LAt.runU tOk 2 (by kernel_rfl) ?_
                          refine LAt.to ⟨104, 0, [(91, .val false [.lit (.bool (!r18))]), (90, .val false [.lit (.bool (!r18))]), (89, .val false [.lit (.bool r18)]), (88, .ref (.box 6) [(0, 0)] 2 0 2 true), (87, .ref (.box 14) [(0, 0)] 2 0 2 true), (15, .val false [.lit (.bool r17.2)]), (14, .adr (.box 14) [(0, 0)] 2 0), (13, .val false [.lit (.int .i64 r14)]), (12, .val false [.lit (.int .i64 r13.1)]), (9, .adr (.box 9) [(0, 0)] 2 0), (7, .val false [.lit (.bool r4.2)]), (6, .adr (.box 6) [(0, 0)] 2 0), (4, .val false [.lit (.bool false)])], [(14, (Vtab.row r17.1)), (9, (Vtab.row r13.2)), (6, (Vtab.row r4.1))]⟩ (by kernel_rfl) ?_
                          cases h9 : (!r18)
                          · have H := bifF h9 H
                            refine LAt.runU tOk 4 (by kernel_rfl) ?_
                            refine LAt.doneU [95, 13, 12, 9, 4] [9] (by kernel_rfl) ?_
                            refine Tr.to ⟨104, 0, [(95, .val false [.lit (.bool (!(r17.2 == r4.2)))]), (13, .val false [.lit (.int .i64 r14)]), (12, .val false [.lit (.int .i64 r13.1)]), (9, .adr (.box 9) [(0, 0)] 2 0), (4, .val false [.lit (.bool false)])], [(9, (Vtab.row r13.2))]⟩ (by kernel_rfl) ?_
                            cases h10 : (!(r17.2 == r4.2))
                            · have H := bifF h10 H
                              refine Tr.cond (b := false) (by kernel_rfl) (fun h => nomatch h) (fun _ => ?_)
                              refine Tr.skip ?_
                              show Tr _ _ _ _ _
                              refine Tr.rs ?_
                              refine LAt.runU tOk 1 (by kernel_rfl) ?_
                              refine LAt.doneU [13, 12, 9, 4] [9] (by kernel_rfl) ?_
                              refine Tr.rs ?_
                              refine LAt.runU tOk 2 (by kernel_rfl) ?_
                              obtain ⟨r19, er19, H⟩ := bind_some H
                              refine LAt.callU tOk [.rd, .rd] (f := 21) (av := #[.tmp 96, .tmp 97]) (ats := #[29, 3]) (d := (some 98)) (ty := 3) (g := none) (by kernel_rfl) (by kernel_rfl) (by kernel_rfl) [.box 9] (laws_heldVtab n r13.2 1 r19 er19) (by kernel_rfl) (.inr (rets_cons (mine_cons mine_lit mine_nil) rets_nil)) ?_
                              refine LAt.runU tOk 1 (by kernel_rfl) ?_
                              refine LAt.doneU [13, 12, 4] [] (by kernel_rfl) ?_
                              refine Tr.seq ?_
                              refine Tr.rs ?_
                              refine LAt.runU tOk 2 (by kernel_rfl) ?_
                              refine LAt.doneU [100, 13, 12, 4] [] (by kernel_rfl) ?_
                              refine Tr.to ⟨104, 0, [(100, .val false [.lit (.bool (decide (r19 < 0)))]), (13, .val false [.lit (.int .i64 r19)]), (12, .val false [.lit (.int .i64 r13.1)]), (4, .val false [.lit (.bool false)])], []⟩ (by kernel_rfl) ?_
                              cases h11 : (decide (r19 < 0))
                              · have H := bifF h11 H
                                refine Tr.cond (b := false) (by kernel_rfl) (fun h => nomatch h) (fun _ => ?_)
                                refine Tr.skip ?_
                                show Tr _ _ _ _ _
                                refine Tr.seq ?_
                                refine Tr.rs ?_
                                refine LAt.runU tOk 3 (by kernel_rfl) ?_
                                refine LAt.doneU [103, 4] [] (by kernel_rfl) ?_
                                refine Tr.to ⟨104, 0, [(103, .val false [.lit (.bool (r19 != r13.1))]), (4, .val false [.lit (.bool false)])], []⟩ (by kernel_rfl) ?_
                                cases h12 : (r19 != r13.1)
                                · have H := bifF h12 H
                                  refine Tr.cond (b := false) (by kernel_rfl) (fun h => nomatch h) (fun _ => ?_)
                                  refine Tr.skip ?_
                                  show Tr _ _ _ _ _
                                  refine Tr.rs ?_
                                  refine LAt.runU tOk 1 (by kernel_rfl) ?_
                                  refine LAt.doneU [4] [] (by kernel_rfl) ?_
                                  refine Tr.ret ?_
                                  have H := Option.some.inj H
                                  subst H
                                  exact Fin.of _ [(false, [.lit (.bool true)])] (by kernel_rfl) rfl rfl
                                · have H := bifT h12 H
                                  refine Tr.cond (b := true) (by kernel_rfl) (fun _ => ?_) (fun h => nomatch h)
                                  refine Tr.rs ?_
                                  refine LAt.runU tOk 1 (by kernel_rfl) ?_
                                  refine LAt.doneU [4] [] (by kernel_rfl) ?_
                                  refine Tr.ret ?_
                                  have H := Option.some.inj H
                                  subst H
                                  exact Fin.of _ [(false, [.lit (.bool false)])] (by kernel_rfl) rfl rfl
                              · have H := bifT h11 H
                                refine Tr.cond (b := true) (by kernel_rfl) (fun _ => ?_) (fun h => nomatch h)
                                refine Tr.rs ?_
                                refine LAt.runU tOk 1 (by kernel_rfl) ?_
                                refine LAt.doneU [4, 13, 12] [] (by kernel_rfl) ?_
                                refine Tr.ret ?_
                                have H := Option.some.inj H
                                subst H
                                exact Fin.of _ [(false, [.lit (.bool false)])] (by kernel_rfl) rfl rfl
                            · have H := bifT h10 H
                              refine Tr.cond (b := true) (by kernel_rfl) (fun _ => ?_) (fun h => nomatch h)
                              refine Tr.rs ?_
                              refine LAt.runU tOk 1 (by kernel_rfl) ?_
                              refine LAt.doneU [4, 13, 12, 9] [9] (by kernel_rfl) ?_
                              refine Tr.ret ?_
                              have H := Option.some.inj H
                              subst H
                              exact Fin.of _ [(false, [.lit (.bool false)])] (by kernel_rfl) rfl rfl
                          · have H := bifT h9 H
                            refine LAt.runU tOk 4 (by kernel_rfl) ?_
                            refine LAt.doneU [95, 13, 12, 9, 4] [9] (by kernel_rfl) ?_
                            refine Tr.cond (b := true) (by kernel_rfl) (fun _ => ?_) (fun h => nomatch h)
                            refine Tr.rs ?_
                            refine LAt.runU tOk 1 (by kernel_rfl) ?_
                            refine LAt.doneU [4, 13, 12, 9] [9] (by kernel_rfl) ?_
                            refine Tr.ret ?_
                            have H := Option.some.inj H
                            subst H
                            exact Fin.of _ [(false, [.lit (.bool false)])] (by kernel_rfl) rfl rfl
                      · have H := bifT h8 H
                        refine Tr.cond (b := true) (by kernel_rfl) (fun _ => ?_) (fun h => nomatch h)
                        refine Tr.rs ?_
                        refine LAt.runU tOk 1 (by kernel_rfl) ?_
                        refine LAt.doneU [4, 13, 12, 9, 7, 6, 3, 2] [9, 6, 3, 2] (by kernel_rfl) ?_
                        refine Tr.ret ?_
                        have H := Option.some.inj H
                        subst H
                        exact Fin.of _ [(false, [.lit (.bool false)])] (by kernel_rfl) rfl rfl
                    · have H := bifT h7 H
                      refine Tr.cond (b := true) (by kernel_rfl) (fun _ => ?_) (fun h => nomatch h)
                      refine Tr.rs ?_
                      refine LAt.runU tOk 1 (by kernel_rfl) ?_
                      refine LAt.doneU [4, 13, 12, 9, 7, 6, 3, 2] [9, 6, 3, 2] (by kernel_rfl) ?_
                      refine Tr.ret ?_
                      have H := Option.some.inj H
                      subst H
                      exact Fin.of _ [(false, [.lit (.bool false)])] (by kernel_rfl) rfl rfl
                  · have H := bifT h6 H
                    refine LAt.runU tOk 4 (by kernel_rfl) ?_
                    refine LAt.doneU [67, 9, 7, 6, 4, 3, 2] [9, 6, 3, 2] (by kernel_rfl) ?_
                    refine Tr.cond (b := true) (by kernel_rfl) (fun _ => ?_) (fun h => nomatch h)
                    refine Tr.rs ?_
                    refine LAt.runU tOk 1 (by kernel_rfl) ?_
                    refine LAt.doneU [4, 9, 7, 6, 3, 2] [9, 6, 3, 2] (by kernel_rfl) ?_
                    refine Tr.ret ?_
                    have H := Option.some.inj H
                    subst H
                    exact Fin.of _ [(false, [.lit (.bool false)])] (by kernel_rfl) rfl rfl
                · have H := bifT h5 H
                  refine LAt.runU tOk 10 (by kernel_rfl) ?_
                  refine LAt.doneU [67, 9, 7, 6, 4, 3, 2] [9, 6, 3, 2] (by kernel_rfl) ?_
                  refine Tr.cond (b := true) (by kernel_rfl) (fun _ => ?_) (fun h => nomatch h)
                  refine Tr.rs ?_
                  refine LAt.runU tOk 1 (by kernel_rfl) ?_
                  refine LAt.doneU [4, 9, 7, 6, 3, 2] [9, 6, 3, 2] (by kernel_rfl) ?_
                  refine Tr.ret ?_
                  have H := Option.some.inj H
                  subst H
                  exact Fin.of _ [(false, [.lit (.bool false)])] (by kernel_rfl) rfl rfl
              · have H := bifT h4 H
                refine Tr.cond (b := true) (by kernel_rfl) (fun _ => ?_) (fun h => nomatch h)
                refine Tr.rs ?_
                refine LAt.runU tOk 1 (by kernel_rfl) ?_
                refine LAt.doneU [4, 10, 9, 8, 7, 6, 3, 2] [9, 8, 6, 3, 2] (by kernel_rfl) ?_
                refine Tr.ret ?_
                have H := Option.some.inj H
                subst H
                exact Fin.of _ [(false, [.lit (.bool false)])] (by kernel_rfl) rfl rfl
          · have H := bifT h3 H
            refine Tr.cond (b := true) (by kernel_rfl) (fun _ => ?_) (fun h => nomatch h)
            refine Tr.rs ?_
            refine LAt.runU tOk 1 (by kernel_rfl) ?_
            refine LAt.doneU [4, 10, 9, 8, 7, 6, 3, 2] [9, 8, 6, 3, 2] (by kernel_rfl) ?_
            refine Tr.ret ?_
            have H := Option.some.inj H
            subst H
            exact Fin.of _ [(false, [.lit (.bool false)])] (by kernel_rfl) rfl rfl
        · have H := bifT h2 H
          refine LAt.runU tOk 4 (by kernel_rfl) ?_
          refine LAt.doneU [46, 10, 9, 8, 7, 6, 4, 3, 2] [9, 8, 6, 3, 2] (by kernel_rfl) ?_
          refine Tr.cond (b := true) (by kernel_rfl) (fun _ => ?_) (fun h => nomatch h)
          refine Tr.rs ?_
          refine LAt.runU tOk 1 (by kernel_rfl) ?_
          refine LAt.doneU [4, 10, 9, 8, 7, 6, 3, 2] [9, 8, 6, 3, 2] (by kernel_rfl) ?_
          refine Tr.ret ?_
          have H := Option.some.inj H
          subst H
          exact Fin.of _ [(false, [.lit (.bool false)])] (by kernel_rfl) rfl rfl
  · have H := bifT h1 H
    refine Tr.cond (b := true) (by kernel_rfl) (fun _ => ?_) (fun h => nomatch h)
    refine Tr.rs ?_
    refine LAt.runU tOk 1 (by kernel_rfl) ?_
    refine LAt.doneU [4, 3, 2] [3, 2] (by kernel_rfl) ?_
    refine Tr.ret ?_
    have H := Option.some.inj H
    subst H
    exact Fin.of _ [(false, [.lit (.bool true)])] (by kernel_rfl) rfl rfl
end Go.Proofs.Ytgpcfaiacggoiaa.Tw
