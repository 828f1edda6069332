/- Functions of the program, over trees. -/
import Derived.Test.YtjdedhklbdkeoaaProg
import Derived.Test.YtjdedhklbdkeoaaTlRule
import Derived.Test.YtjdedhklbdkeoaaTlU5
import Derived.Test.YtjdedhklbdkeoaaTwHV2
import Derived.WalkKit
set_option linter.unusedVariables false
set_option linter.unusedSimpArgs false
set_option maxRecDepth 100000
set_option maxHeartbeats 1000000
namespace Go.Proofs.Ytjdedhklbdkeoaa.Tw
open Go Go.TL Go.Proofs


def laws_heldPtS_J1 (n : Nat) (y3 : Int) : Option (Int) :=
  (some y3)
def laws_heldPtS_L2 (n : Nat) : Nat → (List Pt) → Int → Int → Option ((Int) ⊕ (Int))
  | 0, _, _, _ => none
  | mo4 + 1, x0, y1, y2 => (bif (decide (y1 < (x0.length : Int))) then ((idx x0 y1).bind fun v5 => (bif (decide ((3 : Int) ≠ 0)) then (bif (!(v5.Up == ((Int.tmod y2 3) == 0))) then (some (Sum.inr (-1))) else ((idx x0 y1).bind fun v7 => (bif (v7.Cost != (IntKind.wrap .i64 (y2 + 1))) then (some (Sum.inr (-1))) else ((idx x0 y1).bind fun v8 => (bif (decide ((3 : Int) ≠ 0)) then (bif (!(v8.Has == ((Int.tmod (IntKind.wrap .i64 ((IntKind.wrap .i64 (y2 + 1)) + 1)) 3) == 0))) then (some (Sum.inr (-1))) else ((idx x0 y1).bind fun v10 => (bif (v10.Heard.Root != (IntKind.wrap .i64 ((IntKind.wrap .i64 ((IntKind.wrap .i64 (y2 + 1)) + 1)) + 1))) then (some (Sum.inr (-1))) else ((idx x0 y1).bind fun v11 => (bif (v11.Heard.Cost != (IntKind.wrap .i64 ((IntKind.wrap .i64 ((IntKind.wrap .i64 ((IntKind.wrap .i64 (y2 + 1)) + 1)) + 1)) + 1))) then (some (Sum.inr (-1))) else ((idx x0 y1).bind fun v12 => (bif (v12.Heard.Hops != (IntKind.wrap .i64 ((IntKind.wrap .i64 ((IntKind.wrap .i64 ((IntKind.wrap .i64 ((IntKind.wrap .i64 (y2 + 1)) + 1)) + 1)) + 1)) + 1))) then (some (Sum.inr (-1))) else ((idx x0 y1).bind fun v13 => (bif (v13.Heard.Bridge != (IntKind.wrap .i64 ((IntKind.wrap .i64 ((IntKind.wrap .i64 ((IntKind.wrap .i64 ((IntKind.wrap .i64 ((IntKind.wrap .i64 (y2 + 1)) + 1)) + 1)) + 1)) + 1)) + 1))) then (some (Sum.inr (-1))) else ((idx x0 y1).bind fun v14 => (bif (v14.Heard.Port != (IntKind.wrap .i64 ((IntKind.wrap .i64 ((IntKind.wrap .i64 ((IntKind.wrap .i64 ((IntKind.wrap .i64 ((IntKind.wrap .i64 ((IntKind.wrap .i64 (y2 + 1)) + 1)) + 1)) + 1)) + 1)) + 1)) + 1))) then (some (Sum.inr (-1))) else (laws_heldPtS_L2 n mo4 x0 (IntKind.wrap .i64 (y1 + 1)) (IntKind.wrap .i64 ((IntKind.wrap .i64 ((IntKind.wrap .i64 ((IntKind.wrap .i64 ((IntKind.wrap .i64 ((IntKind.wrap .i64 ((IntKind.wrap .i64 ((IntKind.wrap .i64 (y2 + 1)) + 1)) + 1)) + 1)) + 1)) + 1)) + 1)) + 1)))))))))))))) else none))))) else none)) else (some (Sum.inl y2)))
def laws_heldPtSF (n : Nat) (x0 : (List Pt)) (x1 : Int) : Option (Int) :=
  ((laws_heldPtS_L2 n n x0 0 x1).bind fun o => match o with | .inl y3 => (laws_heldPtS_J1 n y3) | .inr r => some r)
/-- loop.example/g00326/laws.heldPtS -/
theorem laws_heldPtS (n : Nat) (x0 : (List Pt)) (x1 : Int) (r : Int) (H : laws_heldPtSF n x0 x1 = some r) : LCall Try.prog 112 [.val false [.sl false 8 (CV.frzEs (x0.map Pt.row))], .val false [.lit (.int .i64 x1)]] [.val false [.lit (.int .i64 r)]] [] := by
  refine LCall.of_body tOk Try.func112 rfl (c := (.seq (.region 0 (rg Try.f112 0) false) (.seq (.seq (.region 1 (rg Try.f112 1) false) (.block 0 (.loop (.seq (.seq (.region 2 (rg Try.f112 2) false) (.cond (.tmp 9) .skip (.exit 0))) (.seq (.block 1 (.seq (.seq (.region 4 (rg Try.f112 4) false) (.cond (.tmp 20) (.seq (.region 5 (rg Try.f112 5) false) .ret) .skip)) (.seq (.region 6 (rg Try.f112 6) false) (.seq (.seq (.region 7 (rg Try.f112 7) false) (.cond (.tmp 29) (.seq (.region 8 (rg Try.f112 8) false) .ret) .skip)) (.seq (.region 9 (rg Try.f112 9) false) (.seq (.seq (.region 10 (rg Try.f112 10) false) (.cond (.tmp 40) (.seq (.region 11 (rg Try.f112 11) false) .ret) .skip)) (.seq (.region 12 (rg Try.f112 12) false) (.seq (.seq (.region 13 (rg Try.f112 13) false) (.cond (.tmp 50) (.seq (.region 14 (rg Try.f112 14) false) .ret) .skip)) (.seq (.region 15 (rg Try.f112 15) false) (.seq (.seq (.region 16 (rg Try.f112 16) false) (.cond (.tmp 60) (.seq (.region 17 (rg Try.f112 17) false) .ret) .skip)) (.seq (.region 18 (rg Try.f112 18) false) (.seq (.seq (.region 19 (rg Try.f112 19) false) (.cond (.tmp 70) (.seq (.region 20 (rg Try.f112 20) false) .ret) .skip)) (.seq (.region 21 (rg Try.f112 21) false) (.seq (.seq (.region 22 (rg Try.f112 22) false) (.cond (.tmp 80) (.seq (.region 23 (rg Try.f112 23) false) .ret) .skip)) (.seq (.region 24 (rg Try.f112 24) false) (.seq (.seq (.region 25 (rg Try.f112 25) false) (.cond (.tmp 90) (.seq (.region 26 (rg Try.f112 26) false) .ret) .skip)) (.region 27 (rg Try.f112 27) false))))))))))))))))) (.region 3 (rg Try.f112 3) false)))))) (.seq (.region 28 (rg Try.f112 28) false) .ret)))) kr (Nat.le_of_ble_eq_true kr) 0 (rs := [.tmp 4]) rfl [] .nil [(false, [.lit (.int .i64 r)])] [] [] fun cx => ?_
  show Tr _ _ _ ⟨94, 0, [sC 0 (cF 8 x0 Pt.row), sI 1 x1], []⟩ _
  unfold laws_heldPtSF at H
  refine Tr.rs ?_
  refine LAt.runU tOk 1 kr ?_
  refine LAt.doneM 19 0 kr ?_
  refine Tr.seq ?_
  refine Tr.rs ?_
  refine LAt.runU tOk 1 kr ?_
  refine LAt.doneM 51 0 kr ?_
  obtain ⟨o4, eo4, Ho4⟩ := bind_some H
  clear H
  refine Tr.mid (ι := Int) (fun v => ⟨94, 0, [sI 4 0, sI 1 v], []⟩) (fun v => laws_heldPtS_J1 n v = some r) ?_ ?_
  · refine Tr.block ?_
    refine Tr.loop (ι := Nat × (Int × Int)) (fun v => ⟨94, 0, [sI 5 v.2.1, sI 4 0, sC 0 (cF 8 x0 Pt.row), sI 1 v.2.2], []⟩) (fun v => laws_heldPtS_L2 n v.1 x0 v.2.1 v.2.2 = some o4) (fun v => v.1) (n, (0, x1)) eo4 (St.sub_of [5, 4, 0, 1] [] kr) ?_
    rintro ⟨mo4, y1, y2⟩ H
    have H : laws_heldPtS_L2 n mo4 x0 y1 y2 = some o4 := H
    obtain _ | mo4 := mo4
    · cases (show (none : Option _) = some o4 from H)
    · rw [laws_heldPtS_L2] at H
      refine Tr.seq ?_
      refine Tr.rs ?_
      refine LAt.runU tOk 2 kr ?_
      refine LAt.lenE tOk (t := 55) (ty := 3) (e := 114) (x := (.tmp 7)) (d := 8) (g := none) ⟨(.slot 7), [], 0, false, 8, (CV.frzEs (x0.map Pt.row))⟩ (x0).length _ kr kr kr kr kr (frz_len _ _) rfl ?_
      refine LAt.runU tOk 1 kr ?_
      refine LAt.doneM 1011 0 kr ?_
      refine Tr.to ⟨94, 0, [sB 9 (decide (y1 < (x0.length : Int))), sI 8 (x0.length : Int), sC 7 (cF 8 x0 Pt.row), sI 6 y1, sI 5 y1, sI 4 0, sC 0 (cF 8 x0 Pt.row), sI 1 y2], []⟩ kr ?_
      cases h1 : (decide (y1 < (x0.length : Int)))
      · have H := bifF h1 H
        refine Tr.cond (b := false) kr (fun h => nomatch h) (fun _ => ?_)
        refine Tr.exit ?_
        refine And.intro (fun _ => ?_) (fun h => absurd rfl h)
        have H := Option.some.inj H
        subst H
        have H := Ho4
        dsimp only at H
        exact Exists.intro y2 (And.intro H (St.sub_of [4, 1] [] kr))
      · have H := bifT h1 H
        refine Tr.cond (b := true) kr (fun _ => ?_) (fun h => nomatch h)
        refine Tr.skip ?_
        show Tr _ _ _ _ _
        refine Tr.seq ?_
        refine Tr.block ?_
        refine Tr.seq ?_
        refine Tr.rs ?_
        refine LAt.runU tOk 2 kr ?_
        obtain ⟨v5, ev5, H⟩ := bind_some H
        refine LAt.indexF tOk (t := 55) (ty := 0) (x := (.tmp 12)) (y := (.tmp 13)) (d := 14) (g := none) ⟨(.slot 12), [], 0, false, 8, (CV.frzEs (x0.map Pt.row))⟩ y1 (Pt.row v5) _ kr kr kr kr rfl (idx_isF ev5) rfl ?_
        refine LAt.runU tOk 3 kr ?_
        obtain ⟨hg6, H⟩ := guard_some H
        refine LAt.binC tOk (op := .rem) (t := 3) (ty := 3) (ty' := 3) (x := (.tmp 17)) (y := (.const (.int .i64 3))) (d := 18) (g := none) (.int .i64 y2) (.int .i64 3) (.int .i64 (Int.tmod y2 3)) _ kr kr kr kr kr (φ := (IntKind.i64 = IntKind.i64 ∧ (3 : Int) ≠ 0)) kr (⟨rfl, of_decide_eq_true hg6⟩) rfl ?_
        refine LAt.runU tOk 2 kr ?_
        refine LAt.doneM 2094067 0 kr ?_
        refine Tr.to ⟨94, 0, [sB 20 (!(v5.Up == ((Int.tmod y2 3) == 0))), sB 19 ((Int.tmod y2 3) == 0), sI 18 (Int.tmod y2 3), sI 17 y2, sB 16 v5.Up, (15, .fad ((Pt.row v5))), (14, .fad ((Pt.row v5))), sI 13 y1, sC 12 (cF 8 x0 Pt.row), sB 9 true, sI 8 (x0.length : Int), sC 7 (cF 8 x0 Pt.row), sI 6 y1, sI 5 y1, sI 4 0, sC 0 (cF 8 x0 Pt.row), sI 1 y2], []⟩ kr ?_
        cases h2 : (!(v5.Up == ((Int.tmod y2 3) == 0)))
        · have H := bifF h2 H
          refine Tr.cond (b := false) kr (fun h => nomatch h) (fun _ => ?_)
          refine Tr.skip ?_
          show Tr _ _ _ _ _
          refine Tr.rs ?_
          refine LAt.runU tOk 3 kr ?_
          refine LAt.doneM 8385523 0 kr ?_
          refine Tr.seq ?_
          refine Tr.rs ?_
          refine LAt.runU tOk 2 kr ?_
          obtain ⟨v7, ev7, H⟩ := bind_some H
          refine LAt.indexF tOk (t := 55) (ty := 0) (x := (.tmp 23)) (y := (.tmp 24)) (d := 25) (g := none) ⟨(.slot 23), [], 0, false, 8, (CV.frzEs (x0.map Pt.row))⟩ y1 (Pt.row v7) _ kr kr kr kr rfl (idx_isF ev7) rfl ?_
          refine LAt.runU tOk 4 kr ?_
          refine LAt.doneM 1073738739 0 kr ?_
          refine Tr.to ⟨94, 0, [sB 29 (v7.Cost != (IntKind.wrap .i64 (y2 + 1))), sI 28 (IntKind.wrap .i64 (y2 + 1)), sI 27 v7.Cost, (26, .fad (((Pt.row v7).drop 1))), (25, .fad ((Pt.row v7))), sI 24 y1, sC 23 (cF 8 x0 Pt.row), sI 1 (IntKind.wrap .i64 (y2 + 1)), sI 22 (IntKind.wrap .i64 (y2 + 1)), sI 21 y2, sB 20 false, sB 19 ((Int.tmod y2 3) == 0), sI 18 (Int.tmod y2 3), sI 17 y2, sB 16 v5.Up, (15, .fad ((Pt.row v5))), (14, .fad ((Pt.row v5))), sI 13 y1, sC 12 (cF 8 x0 Pt.row), sB 9 true, sI 8 (x0.length : Int), sC 7 (cF 8 x0 Pt.row), sI 6 y1, sI 5 y1, sI 4 0, sC 0 (cF 8 x0 Pt.row)], []⟩ kr ?_
          cases h3 : (v7.Cost != (IntKind.wrap .i64 (y2 + 1)))
          · have H := bifF h3 H
            refine Tr.cond (b := false) kr (fun h => nomatch h) (fun _ => ?_)
            refine Tr.skip ?_
            show Tr _ _ _ _ _
            refine Tr.rs ?_
            refine LAt.runU tOk 3 kr ?_
            refine LAt.doneM 4294964211 0 kr ?_
            refine Tr.seq ?_
            refine Tr.rs ?_
            refine LAt.runU tOk 2 kr ?_
            obtain ⟨v8, ev8, H⟩ := bind_some H
            refine LAt.indexF tOk (t := 55) (ty := 0) (x := (.tmp 32)) (y := (.tmp 33)) (d := 34) (g := none) ⟨(.slot 32), [], 0, false, 8, (CV.frzEs (x0.map Pt.row))⟩ y1 (Pt.row v8) _ kr kr kr kr rfl (idx_isF ev8) rfl ?_
            refine LAt.runU tOk 3 kr ?_
            obtain ⟨hg9, H⟩ := guard_some H
            refine LAt.binC tOk (op := .rem) (t := 3) (ty := 3) (ty' := 3) (x := (.tmp 37)) (y := (.const (.int .i64 3))) (d := 38) (g := none) (.int .i64 (IntKind.wrap .i64 ((IntKind.wrap .i64 (y2 + 1)) + 1))) (.int .i64 3) (.int .i64 (Int.tmod (IntKind.wrap .i64 ((IntKind.wrap .i64 (y2 + 1)) + 1)) 3)) _ kr kr kr kr kr (φ := (IntKind.i64 = IntKind.i64 ∧ (3 : Int) ≠ 0)) kr (⟨rfl, of_decide_eq_true hg9⟩) rfl ?_
            refine LAt.runU tOk 2 kr ?_
            refine LAt.doneM 2199023252467 0 kr ?_
            refine Tr.to ⟨94, 0, [sB 40 (!(v8.Has == ((Int.tmod (IntKind.wrap .i64 ((IntKind.wrap .i64 (y2 + 1)) + 1)) 3) == 0))), sB 39 ((Int.tmod (IntKind.wrap .i64 ((IntKind.wrap .i64 (y2 + 1)) + 1)) 3) == 0), sI 38 (Int.tmod (IntKind.wrap .i64 ((IntKind.wrap .i64 (y2 + 1)) + 1)) 3), sI 37 (IntKind.wrap .i64 ((IntKind.wrap .i64 (y2 + 1)) + 1)), sB 36 v8.Has, (35, .fad (((Pt.row v8).drop 2))), (34, .fad ((Pt.row v8))), sI 33 y1, sC 32 (cF 8 x0 Pt.row), sI 1 (IntKind.wrap .i64 ((IntKind.wrap .i64 (y2 + 1)) + 1)), sI 31 (IntKind.wrap .i64 ((IntKind.wrap .i64 (y2 + 1)) + 1)), sI 30 (IntKind.wrap .i64 (y2 + 1)), sB 29 false, sI 28 (IntKind.wrap .i64 (y2 + 1)), sI 27 v7.Cost, (26, .fad (((Pt.row v7).drop 1))), (25, .fad ((Pt.row v7))), sI 24 y1, sC 23 (cF 8 x0 Pt.row), sI 22 (IntKind.wrap .i64 (y2 + 1)), sI 21 y2, sB 20 false, sB 19 ((Int.tmod y2 3) == 0), sI 18 (Int.tmod y2 3), sI 17 y2, sB 16 v5.Up, (15, .fad ((Pt.row v5))), (14, .fad ((Pt.row v5))), sI 13 y1, sC 12 (cF 8 x0 Pt.row), sB 9 true, sI 8 (x0.length : Int), sC 7 (cF 8 x0 Pt.row), sI 6 y1, sI 5 y1, sI 4 0, sC 0 (cF 8 x0 Pt.row)], []⟩ kr ?_
            cases h4 : (!(v8.Has == ((Int.tmod (IntKind.wrap .i64 ((IntKind.wrap .i64 (y2 + 1)) + 1)) 3) == 0)))
            · have H := bifF h4 H
              refine Tr.cond (b := false) kr (fun h => nomatch h) (fun _ => ?_)
              refine Tr.skip ?_
              show Tr _ _ _ _ _
              refine Tr.rs ?_
              refine LAt.runU tOk 3 kr ?_
              refine LAt.doneM 8796093019123 0 kr ?_
              refine Tr.seq ?_
              refine Tr.rs ?_
              refine LAt.runU tOk 2 kr ?_
              obtain ⟨v10, ev10, H⟩ := bind_some H
              refine LAt.indexF tOk (t := 55) (ty := 0) (x := (.tmp 43)) (y := (.tmp 44)) (d := 45) (g := none) ⟨(.slot 43), [], 0, false, 8, (CV.frzEs (x0.map Pt.row))⟩ y1 (Pt.row v10) _ kr kr kr kr rfl (idx_isF ev10) rfl ?_
              refine LAt.runU tOk 5 kr ?_
              refine LAt.doneM 2251799813682163 0 kr ?_
              refine Tr.to ⟨94, 0, [sB 50 (v10.Heard.Root != (IntKind.wrap .i64 ((IntKind.wrap .i64 ((IntKind.wrap .i64 (y2 + 1)) + 1)) + 1))), sI 49 (IntKind.wrap .i64 ((IntKind.wrap .i64 ((IntKind.wrap .i64 (y2 + 1)) + 1)) + 1)), sI 48 v10.Heard.Root, (47, .fad (((Pt.row v10).drop 3))), (46, .fad (((Pt.row v10).drop 3))), (45, .fad ((Pt.row v10))), sI 44 y1, sC 43 (cF 8 x0 Pt.row), sI 1 (IntKind.wrap .i64 ((IntKind.wrap .i64 ((IntKind.wrap .i64 (y2 + 1)) + 1)) + 1)), sI 42 (IntKind.wrap .i64 ((IntKind.wrap .i64 ((IntKind.wrap .i64 (y2 + 1)) + 1)) + 1)), sI 41 (IntKind.wrap .i64 ((IntKind.wrap .i64 (y2 + 1)) + 1)), sB 40 false, sB 39 ((Int.tmod (IntKind.wrap .i64 ((IntKind.wrap .i64 (y2 + 1)) + 1)) 3) == 0), sI 38 (Int.tmod (IntKind.wrap .i64 ((IntKind.wrap .i64 (y2 + 1)) + 1)) 3), sI 37 (IntKind.wrap .i64 ((IntKind.wrap .i64 (y2 + 1)) + 1)), sB 36 v8.Has, (35, .fad (((Pt.row v8).drop 2))), (34, .fad ((Pt.row v8))), sI 33 y1, sC 32 (cF 8 x0 Pt.row), sI 31 (IntKind.wrap .i64 ((IntKind.wrap .i64 (y2 + 1)) + 1)), sI 30 (IntKind.wrap .i64 (y2 + 1)), sB 29 false, sI 28 (IntKind.wrap .i64 (y2 + 1)), sI 27 v7.Cost, (26, .fad (((Pt.row v7).drop 1))), (25, .fad ((Pt.row v7))), sI 24 y1, sC 23 (cF 8 x0 Pt.row), sI 22 (IntKind.wrap .i64 (y2 + 1)), sI 21 y2, sB 20 false, sB 19 ((Int.tmod y2 3) == 0), sI 18 (Int.tmod y2 3), sI 17 y2, sB 16 v5.Up, (15, .fad ((Pt.row v5))), (14, .fad ((Pt.row v5))), sI 13 y1, sC 12 (cF 8 x0 Pt.row), sB 9 true, sI 8 (x0.length : Int), sC 7 (cF 8 x0 Pt.row), sI 6 y1, sI 5 y1, sI 4 0, sC 0 (cF 8 x0 Pt.row)], []⟩ kr ?_
              cases h5 : (v10.Heard.Root != (IntKind.wrap .i64 ((IntKind.wrap .i64 ((IntKind.wrap .i64 (y2 + 1)) + 1)) + 1)))
              · have H := bifF h5 H
                refine Tr.cond (b := false) kr (fun h => nomatch h) (fun _ => ?_)
                refine Tr.skip ?_
                show Tr _ _ _ _ _
                refine Tr.rs ?_
                refine LAt.runU tOk 3 kr ?_
                refine LAt.doneM 9007199254737907 0 kr ?_
                refine Tr.seq ?_
                refine Tr.rs ?_
                refine LAt.runU tOk 2 kr ?_
                obtain ⟨v11, ev11, H⟩ := bind_some H
                refine LAt.indexF tOk (t := 55) (ty := 0) (x := (.tmp 53)) (y := (.tmp 54)) (d := 55) (g := none) ⟨(.slot 53), [], 0, false, 8, (CV.frzEs (x0.map Pt.row))⟩ y1 (Pt.row v11) _ kr kr kr kr rfl (idx_isF ev11) rfl ?_
                refine LAt.runU tOk 5 kr ?_
                refine LAt.doneM 2305843009213690867 0 kr ?_
                refine Tr.to ⟨94, 0, [sB 60 (v11.Heard.Cost != (IntKind.wrap .i64 ((IntKind.wrap .i64 ((IntKind.wrap .i64 ((IntKind.wrap .i64 (y2 + 1)) + 1)) + 1)) + 1))), sI 59 (IntKind.wrap .i64 ((IntKind.wrap .i64 ((IntKind.wrap .i64 ((IntKind.wrap .i64 (y2 + 1)) + 1)) + 1)) + 1)), sI 58 v11.Heard.Cost, (57, .fad (((Pt.row v11).drop 4))), (56, .fad (((Pt.row v11).drop 3))), (55, .fad ((Pt.row v11))), sI 54 y1, sC 53 (cF 8 x0 Pt.row), sI 1 (IntKind.wrap .i64 ((IntKind.wrap .i64 ((IntKind.wrap .i64 ((IntKind.wrap .i64 (y2 + 1)) + 1)) + 1)) + 1)), sI 52 (IntKind.wrap .i64 ((IntKind.wrap .i64 ((IntKind.wrap .i64 ((IntKind.wrap .i64 (y2 + 1)) + 1)) + 1)) + 1)), sI 51 (IntKind.wrap .i64 ((IntKind.wrap .i64 ((IntKind.wrap .i64 (y2 + 1)) + 1)) + 1)), sB 50 false, sI 49 (IntKind.wrap .i64 ((IntKind.wrap .i64 ((IntKind.wrap .i64 (y2 + 1)) + 1)) + 1)), sI 48 v10.Heard.Root, (47, .fad (((Pt.row v10).drop 3))), (46, .fad (((Pt.row v10).drop 3))), (45, .fad ((Pt.row v10))), sI 44 y1, sC 43 (cF 8 x0 Pt.row), sI 42 (IntKind.wrap .i64 ((IntKind.wrap .i64 ((IntKind.wrap .i64 (y2 + 1)) + 1)) + 1)), sI 41 (IntKind.wrap .i64 ((IntKind.wrap .i64 (y2 + 1)) + 1)), sB 40 false, sB 39 ((Int.tmod (IntKind.wrap .i64 ((IntKind.wrap .i64 (y2 + 1)) + 1)) 3) == 0), sI 38 (Int.tmod (IntKind.wrap .i64 ((IntKind.wrap .i64 (y2 + 1)) + 1)) 3), sI 37 (IntKind.wrap .i64 ((IntKind.wrap .i64 (y2 + 1)) + 1)), sB 36 v8.Has, (35, .fad (((Pt.row v8).drop 2))), (34, .fad ((Pt.row v8))), sI 33 y1, sC 32 (cF 8 x0 Pt.row), sI 31 (IntKind.wrap .i64 ((IntKind.wrap .i64 (y2 + 1)) + 1)), sI 30 (IntKind.wrap .i64 (y2 + 1)), sB 29 false, sI 28 (IntKind.wrap .i64 (y2 + 1)), sI 27 v7.Cost, (26, .fad (((Pt.row v7).drop 1))), (25, .fad ((Pt.row v7))), sI 24 y1, sC 23 (cF 8 x0 Pt.row), sI 22 (IntKind.wrap .i64 (y2 + 1)), sI 21 y2, sB 20 false, sB 19 ((Int.tmod y2 3) == 0), sI 18 (Int.tmod y2 3), sI 17 y2, sB 16 v5.Up, (15, .fad ((Pt.row v5))), (14, .fad ((Pt.row v5))), sI 13 y1, sC 12 (cF 8 x0 Pt.row), sB 9 true, sI 8 (x0.length : Int), sC 7 (cF 8 x0 Pt.row), sI 6 y1, sI 5 y1, sI 4 0, sC 0 (cF 8 x0 Pt.row)], []⟩ kr ?_
                cases h6 : (v11.Heard.Cost != (IntKind.wrap .i64 ((IntKind.wrap .i64 ((IntKind.wrap .i64 ((IntKind.wrap .i64 (y2 + 1)) + 1)) + 1)) + 1)))
                · have H := bifF h6 H
                  refine Tr.cond (b := false) kr (fun h => nomatch h) (fun _ => ?_)
                  refine Tr.skip ?_
                  show Tr _ _ _ _ _
                  refine Tr.rs ?_
                  refine LAt.runU tOk 3 kr ?_
                  refine LAt.doneM 9223372036854772723 0 kr ?_
                  refine Tr.seq ?_
                  refine Tr.rs ?_
                  refine LAt.runU tOk 2 kr ?_
                  obtain ⟨v12, ev12, H⟩ := bind_some H
                  refine LAt.indexF tOk (t := 55) (ty := 0) (x := (.tmp 63)) (y := (.tmp 64)) (d := 65) (g := none) ⟨(.slot 63), [], 0, false, 8, (CV.frzEs (x0.map Pt.row))⟩ y1 (Pt.row v12) _ kr kr kr kr rfl (idx_isF ev12) rfl ?_
                  refine LAt.runU tOk 5 kr ?_
                  refine LAt.doneM 2361183241434822603763 0 kr ?_
                  refine Tr.to ⟨94, 0, [sB 70 (v12.Heard.Hops != (IntKind.wrap .i64 ((IntKind.wrap .i64 ((IntKind.wrap .i64 ((IntKind.wrap .i64 ((IntKind.wrap .i64 (y2 + 1)) + 1)) + 1)) + 1)) + 1))), sI 69 (IntKind.wrap .i64 ((IntKind.wrap .i64 ((IntKind.wrap .i64 ((IntKind.wrap .i64 ((IntKind.wrap .i64 (y2 + 1)) + 1)) + 1)) + 1)) + 1)), sI 68 v12.Heard.Hops, (67, .fad (((Pt.row v12).drop 5))), (66, .fad (((Pt.row v12).drop 3))), (65, .fad ((Pt.row v12))), sI 64 y1, sC 63 (cF 8 x0 Pt.row), sI 1 (IntKind.wrap .i64 ((IntKind.wrap .i64 ((IntKind.wrap .i64 ((IntKind.wrap .i64 ((IntKind.wrap .i64 (y2 + 1)) + 1)) + 1)) + 1)) + 1)), sI 62 (IntKind.wrap .i64 ((IntKind.wrap .i64 ((IntKind.wrap .i64 ((IntKind.wrap .i64 ((IntKind.wrap .i64 (y2 + 1)) + 1)) + 1)) + 1)) + 1)), sI 61 (IntKind.wrap .i64 ((IntKind.wrap .i64 ((IntKind.wrap .i64 ((IntKind.wrap .i64 (y2 + 1)) + 1)) + 1)) + 1)), sB 60 false, sI 59 (IntKind.wrap .i64 ((IntKind.wrap .i64 ((IntKind.wrap .i64 ((IntKind.wrap .i64 (y2 + 1)) + 1)) + 1)) + 1)), sI 58 v11.Heard.Cost, (57, .fad (((Pt.row v11).drop 4))), (56, .fad (((Pt.row v11).drop 3))), (55, .fad ((Pt.row v11))), sI 54 y1, sC 53 (cF 8 x0 Pt.row), sI 52 (IntKind.wrap .i64 ((IntKind.wrap .i64 ((IntKind.wrap .i64 ((IntKind.wrap .i64 (y2 + 1)) + 1)) + 1)) + 1)), sI 51 (IntKind.wrap .i64 ((IntKind.wrap .i64 ((IntKind.wrap .i64 (y2 + 1)) + 1)) + 1)), sB 50 false, sI 49 (IntKind.wrap .i64 ((IntKind.wrap .i64 ((IntKind.wrap .i64 (y2 + 1)) + 1)) + 1)), sI 48 v10.Heard.Root, (47, .fad (((Pt.row v10).drop 3))), (46, .fad (((Pt.row v10).drop 3))), (45, .fad ((Pt.row v10))), sI 44 y1, sC 43 (cF 8 x0 Pt.row), sI 42 (IntKind.wrap .i64 ((IntKind.wrap .i64 ((IntKind.wrap .i64 (y2 + 1)) + 1)) + 1)), sI 41 (IntKind.wrap .i64 ((IntKind.wrap .i64 (y2 + 1)) + 1)), sB 40 false, sB 39 ((Int.tmod (IntKind.wrap .i64 ((IntKind.wrap .i64 (y2 + 1)) + 1)) 3) == 0), sI 38 (Int.tmod (IntKind.wrap .i64 ((IntKind.wrap .i64 (y2 + 1)) + 1)) 3), sI 37 (IntKind.wrap .i64 ((IntKind.wrap .i64 (y2 + 1)) + 1)), sB 36 v8.Has, (35, .fad (((Pt.row v8).drop 2))), (34, .fad ((Pt.row v8))), sI 33 y1, sC 32 (cF 8 x0 Pt.row), sI 31 (IntKind.wrap .i64 ((IntKind.wrap .i64 (y2 + 1)) + 1)), sI 30 (IntKind.wrap .i64 (y2 + 1)), sB 29 false, sI 28 (IntKind.wrap .i64 (y2 + 1)), sI 27 v7.Cost, (26, .fad (((Pt.row v7).drop 1))), (25, .fad ((Pt.row v7))), sI 24 y1, sC 23 (cF 8 x0 Pt.row), sI 22 (IntKind.wrap .i64 (y2 + 1)), sI 21 y2, sB 20 false, sB 19 ((Int.tmod y2 3) == 0), sI 18 (Int.tmod y2 3), sI 17 y2, sB 16 v5.Up, (15, .fad ((Pt.row v5))), (14, .fad ((Pt.row v5))), sI 13 y1, sC 12 (cF 8 x0 Pt.row), sB 9 true, sI 8 (x0.length : Int), sC 7 (cF 8 x0 Pt.row), sI 6 y1, sI 5 y1, sI 4 0, sC 0 (cF 8 x0 Pt.row)], []⟩ kr ?_
                  cases h7 : (v12.Heard.Hops != (IntKind.wrap .i64 ((IntKind.wrap .i64 ((IntKind.wrap .i64 ((IntKind.wrap .i64 ((IntKind.wrap .i64 (y2 + 1)) + 1)) + 1)) + 1)) + 1)))
                  · have H := bifF h7 H
                    refine Tr.cond (b := false) kr (fun h => nomatch h) (fun _ => ?_)
                    refine Tr.skip ?_
                    show Tr _ _ _ _ _
                    refine Tr.rs ?_
                    refine LAt.runU tOk 3 kr ?_
                    refine LAt.doneM 9444732965739290424307 0 kr ?_
                    refine Tr.seq ?_
                    refine Tr.rs ?_
                    refine LAt.runU tOk 2 kr ?_
                    obtain ⟨v13, ev13, H⟩ := bind_some H
                    refine LAt.indexF tOk (t := 55) (ty := 0) (x := (.tmp 73)) (y := (.tmp 74)) (d := 75) (g := none) ⟨(.slot 73), [], 0, false, 8, (CV.frzEs (x0.map Pt.row))⟩ y1 (Pt.row v13) _ kr kr kr kr rfl (idx_isF ev13) rfl ?_
                    refine LAt.runU tOk 5 kr ?_
                    refine LAt.doneM 2417851639229258349409267 0 kr ?_
                    refine Tr.to ⟨94, 0, [sB 80 (v13.Heard.Bridge != (IntKind.wrap .i64 ((IntKind.wrap .i64 ((IntKind.wrap .i64 ((IntKind.wrap .i64 ((IntKind.wrap .i64 ((IntKind.wrap .i64 (y2 + 1)) + 1)) + 1)) + 1)) + 1)) + 1))), sI 79 (IntKind.wrap .i64 ((IntKind.wrap .i64 ((IntKind.wrap .i64 ((IntKind.wrap .i64 ((IntKind.wrap .i64 ((IntKind.wrap .i64 (y2 + 1)) + 1)) + 1)) + 1)) + 1)) + 1)), sI 78 v13.Heard.Bridge, (77, .fad (((Pt.row v13).drop 6))), (76, .fad (((Pt.row v13).drop 3))), (75, .fad ((Pt.row v13))), sI 74 y1, sC 73 (cF 8 x0 Pt.row), sI 1 (IntKind.wrap .i64 ((IntKind.wrap .i64 ((IntKind.wrap .i64 ((IntKind.wrap .i64 ((IntKind.wrap .i64 ((IntKind.wrap .i64 (y2 + 1)) + 1)) + 1)) + 1)) + 1)) + 1)), sI 72 (IntKind.wrap .i64 ((IntKind.wrap .i64 ((IntKind.wrap .i64 ((IntKind.wrap .i64 ((IntKind.wrap .i64 ((IntKind.wrap .i64 (y2 + 1)) + 1)) + 1)) + 1)) + 1)) + 1)), sI 71 (IntKind.wrap .i64 ((IntKind.wrap .i64 ((IntKind.wrap .i64 ((IntKind.wrap .i64 ((IntKind.wrap .i64 (y2 + 1)) + 1)) + 1)) + 1)) + 1)), sB 70 false, sI 69 (IntKind.wrap .i64 ((IntKind.wrap .i64 ((IntKind.wrap .i64 ((IntKind.wrap .i64 ((IntKind.wrap .i64 (y2 + 1)) + 1)) + 1)) + 1)) + 1)), sI 68 v12.Heard.Hops, (67, .fad (((Pt.row v12).drop 5))), (66, .fad (((Pt.row v12).drop 3))), (65, .fad ((Pt.row v12))), sI 64 y1, sC 63 (cF 8 x0 Pt.row), sI 62 (IntKind.wrap .i64 ((IntKind.wrap .i64 ((IntKind.wrap .i64 ((IntKind.wrap .i64 ((IntKind.wrap .i64 (y2 + 1)) + 1)) + 1)) + 1)) + 1)), sI 61 (IntKind.wrap .i64 ((IntKind.wrap .i64 ((IntKind.wrap .i64 ((IntKind.wrap .i64 (y2 + 1)) + 1)) + 1)) + 1)), sB 60 false, sI 59 (IntKind.wrap .i64 ((IntKind.wrap .i64 ((IntKind.wrap .i64 ((IntKind.wrap .i64 (y2 + 1)) + 1)) + 1)) + 1)), sI 58 v11.Heard.Cost, (57, .fad (((Pt.row v11).drop 4))), (56, .fad (((Pt.row v11).drop 3))), (55, .fad ((Pt.row v11))), sI 54 y1, sC 53 (cF 8 x0 Pt.row), sI 52 (IntKind.wrap .i64 ((IntKind.wrap .i64 ((IntKind.wrap .i64 ((IntKind.wrap .i64 (y2 + 1)) + 1)) + 1)) + 1)), sI 51 (IntKind.wrap .i64 ((IntKind.wrap .i64 ((IntKind.wrap .i64 (y2 + 1)) + 1)) + 1)), sB 50 false, sI 49 (IntKind.wrap .i64 ((IntKind.wrap .i64 ((IntKind.wrap .i64 (y2 + 1)) + 1)) + 1)), sI 48 v10.Heard.Root, (47, .fad (((Pt.row v10).drop 3))), (46, .fad (((Pt.row v10).drop 3))), (45, .fad ((Pt.row v10))), sI 44 y1, sC 43 (cF 8 x0 Pt.row), sI 42 (IntKind.wrap .i64 ((IntKind.wrap .i64 ((IntKind.wrap .i64 (y2 + 1)) + 1)) + 1)), sI 41 (IntKind.wrap .i64 ((IntKind.wrap .i64 (y2 + 1)) + 1)), sB 40 false, sB 39 ((Int.tmod (IntKind.wrap .i64 ((IntKind.wrap .i64 (y2 + 1)) + 1)) 3) == 0), sI 38 (Int.tmod (IntKind.wrap .i64 ((IntKind.wrap .i64 (y2 + 1)) + 1)) 3), sI 37 (IntKind.wrap .i64 ((IntKind.wrap .i64 (y2 + 1)) + 1)), sB 36 v8.Has, (35, .fad (((Pt.row v8).drop 2))), (34, .fad ((Pt.row v8))), sI 33 y1, sC 32 (cF 8 x0 Pt.row), sI 31 (IntKind.wrap .i64 ((IntKind.wrap .i64 (y2 + 1)) + 1)), sI 30 (IntKind.wrap .i64 (y2 + 1)), sB 29 false, sI 28 (IntKind.wrap .i64 (y2 + 1)), sI 27 v7.Cost, (26, .fad (((Pt.row v7).drop 1))), (25, .fad ((Pt.row v7))), sI 24 y1, sC 23 (cF 8 x0 Pt.row), sI 22 (IntKind.wrap .i64 (y2 + 1)), sI 21 y2, sB 20 false, sB 19 ((Int.tmod y2 3) == 0), sI 18 (Int.tmod y2 3), sI 17 y2, sB 16 v5.Up, (15, .fad ((Pt.row v5))), (14, .fad ((Pt.row v5))), sI 13 y1, sC 12 (cF 8 x0 Pt.row), sB 9 true, sI 8 (x0.length : Int), sC 7 (cF 8 x0 Pt.row), sI 6 y1, sI 5 y1, sI 4 0, sC 0 (cF 8 x0 Pt.row)], []⟩ kr ?_
                    cases h8 : (v13.Heard.Bridge != (IntKind.wrap .i64 ((IntKind.wrap .i64 ((IntKind.wrap .i64 ((IntKind.wrap .i64 ((IntKind.wrap .i64 ((IntKind.wrap .i64 (y2 + 1)) + 1)) + 1)) + 1)) + 1)) + 1)))
                    · have H := bifF h8 H
                      refine Tr.cond (b := false) kr (fun h => nomatch h) (fun _ => ?_)
                      refine Tr.skip ?_
                      show Tr _ _ _ _ _
                      refine Tr.rs ?_
                      refine LAt.runU tOk 3 kr ?_
                      refine LAt.doneM 9671406556917033397646323 0 kr ?_
                      refine Tr.seq ?_
                      refine Tr.rs ?_
                      refine LAt.runU tOk 2 kr ?_
                      obtain ⟨v14, ev14, H⟩ := bind_some H
                      refine LAt.indexF tOk (t := 55) (ty := 0) (x := (.tmp 83)) (y := (.tmp 84)) (d := 85) (g := none) ⟨(.slot 83), [], 0, false, 8, (CV.frzEs (x0.map Pt.row))⟩ y1 (Pt.row v14) _ kr kr kr kr rfl (idx_isF ev14) rfl ?_
                      refine LAt.runU tOk 5 kr ?_
                      refine LAt.doneM 2475880078570760549798245363 0 kr ?_
                      refine Tr.to ⟨94, 0, [sB 90 (v14.Heard.Port != (IntKind.wrap .i64 ((IntKind.wrap .i64 ((IntKind.wrap .i64 ((IntKind.wrap .i64 ((IntKind.wrap .i64 ((IntKind.wrap .i64 ((IntKind.wrap .i64 (y2 + 1)) + 1)) + 1)) + 1)) + 1)) + 1)) + 1))), sI 89 (IntKind.wrap .i64 ((IntKind.wrap .i64 ((IntKind.wrap .i64 ((IntKind.wrap .i64 ((IntKind.wrap .i64 ((IntKind.wrap .i64 ((IntKind.wrap .i64 (y2 + 1)) + 1)) + 1)) + 1)) + 1)) + 1)) + 1)), sI 88 v14.Heard.Port, (87, .fad ([cI v14.Heard.Port])), (86, .fad (((Pt.row v14).drop 3))), (85, .fad ((Pt.row v14))), sI 84 y1, sC 83 (cF 8 x0 Pt.row), sI 1 (IntKind.wrap .i64 ((IntKind.wrap .i64 ((IntKind.wrap .i64 ((IntKind.wrap .i64 ((IntKind.wrap .i64 ((IntKind.wrap .i64 ((IntKind.wrap .i64 (y2 + 1)) + 1)) + 1)) + 1)) + 1)) + 1)) + 1)), sI 82 (IntKind.wrap .i64 ((IntKind.wrap .i64 ((IntKind.wrap .i64 ((IntKind.wrap .i64 ((IntKind.wrap .i64 ((IntKind.wrap .i64 ((IntKind.wrap .i64 (y2 + 1)) + 1)) + 1)) + 1)) + 1)) + 1)) + 1)), sI 81 (IntKind.wrap .i64 ((IntKind.wrap .i64 ((IntKind.wrap .i64 ((IntKind.wrap .i64 ((IntKind.wrap .i64 ((IntKind.wrap .i64 (y2 + 1)) + 1)) + 1)) + 1)) + 1)) + 1)), sB 80 false, sI 79 (IntKind.wrap .i64 ((IntKind.wrap .i64 ((IntKind.wrap .i64 ((IntKind.wrap .i64 ((IntKind.wrap .i64 ((IntKind.wrap .i64 (y2 + 1)) + 1)) + 1)) + 1)) + 1)) + 1)), sI 78 v13.Heard.Bridge, (77, .fad (((Pt.row v13).drop 6))), (76, .fad (((Pt.row v13).drop 3))), (75, .fad ((Pt.row v13))), sI 74 y1, sC 73 (cF 8 x0 Pt.row), sI 72 (IntKind.wrap .i64 ((IntKind.wrap .i64 ((IntKind.wrap .i64 ((IntKind.wrap .i64 ((IntKind.wrap .i64 ((IntKind.wrap .i64 (y2 + 1)) + 1)) + 1)) + 1)) + 1)) + 1)), sI 71 (IntKind.wrap .i64 ((IntKind.wrap .i64 ((IntKind.wrap .i64 ((IntKind.wrap .i64 ((IntKind.wrap .i64 (y2 + 1)) + 1)) + 1)) + 1)) + 1)), sB 70 false, sI 69 (IntKind.wrap .i64 ((IntKind.wrap .i64 ((IntKind.wrap .i64 ((IntKind.wrap .i64 ((IntKind.wrap .i64 (y2 + 1)) + 1)) + 1)) + 1)) + 1)), sI 68 v12.Heard.Hops, (67, .fad (((Pt.row v12).drop 5))), (66, .fad (((Pt.row v12).drop 3))), (65, .fad ((Pt.row v12))), sI 64 y1, sC 63 (cF 8 x0 Pt.row), sI 62 (IntKind.wrap .i64 ((IntKind.wrap .i64 ((IntKind.wrap .i64 ((IntKind.wrap .i64 ((IntKind.wrap .i64 (y2 + 1)) + 1)) + 1)) + 1)) + 1)), sI 61 (IntKind.wrap .i64 ((IntKind.wrap .i64 ((IntKind.wrap .i64 ((IntKind.wrap .i64 (y2 + 1)) + 1)) + 1)) + 1)), sB 60 false, sI 59 (IntKind.wrap .i64 ((IntKind.wrap .i64 ((IntKind.wrap .i64 ((IntKind.wrap .i64 (y2 + 1)) + 1)) + 1)) + 1)), sI 58 v11.Heard.Cost, (57, .fad (((Pt.row v11).drop 4))), (56, .fad (((Pt.row v11).drop 3))), (55, .fad ((Pt.row v11))), sI 54 y1, sC 53 (cF 8 x0 Pt.row), sI 52 (IntKind.wrap .i64 ((IntKind.wrap .i64 ((IntKind.wrap .i64 ((IntKind.wrap .i64 (y2 + 1)) + 1)) + 1)) + 1)), sI 51 (IntKind.wrap .i64 ((IntKind.wrap .i64 ((IntKind.wrap .i64 (y2 + 1)) + 1)) + 1)), sB 50 false, sI 49 (IntKind.wrap .i64 ((IntKind.wrap .i64 ((IntKind.wrap .i64 (y2 + 1)) + 1)) + 1)), sI 48 v10.Heard.Root, (47, .fad (((Pt.row v10).drop 3))), (46, .fad (((Pt.row v10).drop 3))), (45, .fad ((Pt.row v10))), sI 44 y1, sC 43 (cF 8 x0 Pt.row), sI 42 (IntKind.wrap .i64 ((IntKind.wrap .i64 ((IntKind.wrap .i64 (y2 + 1)) + 1)) + 1)), sI 41 (IntKind.wrap .i64 ((IntKind.wrap .i64 (y2 + 1)) + 1)), sB 40 false, sB 39 ((Int.tmod (IntKind.wrap .i64 ((IntKind.wrap .i64 (y2 + 1)) + 1)) 3) == 0), sI 38 (Int.tmod (IntKind.wrap .i64 ((IntKind.wrap .i64 (y2 + 1)) + 1)) 3), sI 37 (IntKind.wrap .i64 ((IntKind.wrap .i64 (y2 + 1)) + 1)), sB 36 v8.Has, (35, .fad (((Pt.row v8).drop 2))), (34, .fad ((Pt.row v8))), sI 33 y1, sC 32 (cF 8 x0 Pt.row), sI 31 (IntKind.wrap .i64 ((IntKind.wrap .i64 (y2 + 1)) + 1)), sI 30 (IntKind.wrap .i64 (y2 + 1)), sB 29 false, sI 28 (IntKind.wrap .i64 (y2 + 1)), sI 27 v7.Cost, (26, .fad (((Pt.row v7).drop 1))), (25, .fad ((Pt.row v7))), sI 24 y1, sC 23 (cF 8 x0 Pt.row), sI 22 (IntKind.wrap .i64 (y2 + 1)), sI 21 y2, sB 20 false, sB 19 ((Int.tmod y2 3) == 0), sI 18 (Int.tmod y2 3), sI 17 y2, sB 16 v5.Up, (15, .fad ((Pt.row v5))), (14, .fad ((Pt.row v5))), sI 13 y1, sC 12 (cF 8 x0 Pt.row), sB 9 true, sI 8 (x0.length : Int), sC 7 (cF 8 x0 Pt.row), sI 6 y1, sI 5 y1, sI 4 0, sC 0 (cF 8 x0 Pt.row)], []⟩ kr ?_
                      cases h9 : (v14.Heard.Port != (IntKind.wrap .i64 ((IntKind.wrap .i64 ((IntKind.wrap .i64 ((IntKind.wrap .i64 ((IntKind.wrap .i64 ((IntKind.wrap .i64 ((IntKind.wrap .i64 (y2 + 1)) + 1)) + 1)) + 1)) + 1)) + 1)) + 1)))
                      · have H := bifF h9 H
                        refine Tr.cond (b := false) kr (fun h => nomatch h) (fun _ => ?_)
                        refine Tr.skip ?_
                        show Tr _ _ _ _ _
                        refine Tr.at ?_
                        refine LAt.runU tOk 3 kr ?_
                        refine LAt.doneM 9903520314283042199192990707 0 kr ?_
                        show Tr _ _ _ _ _
                        refine Tr.at ?_
                        refine LAt.runU tOk 3 kr ?_
                        refine LAt.doneM 9903520314283042199192993779 0 kr ?_
                        exact Exists.intro (mo4, ((IntKind.wrap .i64 (y1 + 1)), (IntKind.wrap .i64 ((IntKind.wrap .i64 ((IntKind.wrap .i64 ((IntKind.wrap .i64 ((IntKind.wrap .i64 ((IntKind.wrap .i64 ((IntKind.wrap .i64 ((IntKind.wrap .i64 (y2 + 1)) + 1)) + 1)) + 1)) + 1)) + 1)) + 1)) + 1)))) (And.intro H (And.intro (Nat.lt_succ_self mo4) (St.sub_of [5, 4, 0, 1] [] kr)))
                      · have H := bifT h9 H
                        refine Tr.cond (b := true) kr (fun _ => ?_) (fun h => nomatch h)
                        refine Tr.rs ?_
                        refine LAt.runU tOk 1 kr ?_
                        refine LAt.doneM 2475880078570760549798245363 0 kr ?_
                        refine Tr.ret ?_
                        have H := Option.some.inj H
                        subst H
                        have H := Ho4
                        dsimp only at H
                        have H := Option.some.inj H
                        subst H
                        exact Fin.of _ [(false, [cI (-1)])] kr rfl rfl
                    · have H := bifT h8 H
                      refine Tr.cond (b := true) kr (fun _ => ?_) (fun h => nomatch h)
                      refine Tr.rs ?_
                      refine LAt.runU tOk 1 kr ?_
                      refine LAt.doneM 2417851639229258349409267 0 kr ?_
                      refine Tr.ret ?_
                      have H := Option.some.inj H
                      subst H
                      have H := Ho4
                      dsimp only at H
                      have H := Option.some.inj H
                      subst H
                      exact Fin.of _ [(false, [cI (-1)])] kr rfl rfl
                  · have H := bifT h7 H
                    refine Tr.cond (b := true) kr (fun _ => ?_) (fun h => nomatch h)
                    refine Tr.rs ?_
                    refine LAt.runU tOk 1 kr ?_
                    refine LAt.doneM 2361183241434822603763 0 kr ?_
                    refine Tr.ret ?_
                    have H := Option.some.inj H
                    subst H
                    have H := Ho4
                    dsimp only at H
                    have H := Option.some.inj H
                    subst H
                    exact Fin.of _ [(false, [cI (-1)])] kr rfl rfl
                · have H := bifT h6 H
                  refine Tr.cond (b := true) kr (fun _ => ?_) (fun h => nomatch h)
                  refine Tr.rs ?_
                  refine LAt.runU tOk 1 kr ?_
                  refine LAt.doneM 2305843009213690867 0 kr ?_
                  refine Tr.ret ?_
                  have H := Option.some.inj H
                  subst H
                  have H := Ho4
                  dsimp only at H
                  have H := Option.some.inj H
                  subst H
                  exact Fin.of _ [(false, [cI (-1)])] kr rfl rfl
              · have H := bifT h5 H
                refine Tr.cond (b := true) kr (fun _ => ?_) (fun h => nomatch h)
                refine Tr.rs ?_
                refine LAt.runU tOk 1 kr ?_
                refine LAt.doneM 2251799813682163 0 kr ?_
                refine Tr.ret ?_
                have H := Option.some.inj H
                subst H
                have H := Ho4
                dsimp only at H
                have H := Option.some.inj H
                subst H
                exact Fin.of _ [(false, [cI (-1)])] kr rfl rfl
            · have H := bifT h4 H
              refine Tr.cond (b := true) kr (fun _ => ?_) (fun h => nomatch h)
              refine Tr.rs ?_
              refine LAt.runU tOk 1 kr ?_
              refine LAt.doneM 2199023252467 0 kr ?_
              refine Tr.ret ?_
              have H := Option.some.inj H
              subst H
              have H := Ho4
              dsimp only at H
              have H := Option.some.inj H
              subst H
              exact Fin.of _ [(false, [cI (-1)])] kr rfl rfl
          · have H := bifT h3 H
            refine Tr.cond (b := true) kr (fun _ => ?_) (fun h => nomatch h)
            refine Tr.rs ?_
            refine LAt.runU tOk 1 kr ?_
            refine LAt.doneM 1073738739 0 kr ?_
            refine Tr.ret ?_
            have H := Option.some.inj H
            subst H
            have H := Ho4
            dsimp only at H
            have H := Option.some.inj H
            subst H
            exact Fin.of _ [(false, [cI (-1)])] kr rfl rfl
        · have H := bifT h2 H
          refine Tr.cond (b := true) kr (fun _ => ?_) (fun h => nomatch h)
          refine Tr.rs ?_
          refine LAt.runU tOk 1 kr ?_
          refine LAt.doneM 2094067 0 kr ?_
          refine Tr.ret ?_
          have H := Option.some.inj H
          subst H
          have H := Ho4
          dsimp only at H
          have H := Option.some.inj H
          subst H
          exact Fin.of _ [(false, [cI (-1)])] kr rfl rfl
  · rintro y3 H
    have H : (laws_heldPtS_J1 n y3) = some r := H
    unfold laws_heldPtS_J1 at H
    show Tr _ _ _ _ _
    refine Tr.rs ?_
    refine LAt.runU tOk 2 kr ?_
    refine LAt.doneM 16 0 kr ?_
    refine Tr.ret ?_
    have H := Option.some.inj H
    subst H
    exact Fin.of _ [(false, [cI y3])] kr rfl rfl

def laws_heldFentS_J1 (n : Nat) (y3 : Int) : Option (Int) :=
  (some y3)
def laws_heldFentS_L2 (n : Nat) : Nat → (List Fent) → Int → Int → Option ((Int) ⊕ (Int))
  | 0, _, _, _ => none
  | mo4 + 1, x0, y1, y2 => (bif (decide (y1 < (x0.length : Int))) then ((idx x0 y1).bind fun v5 => (bif (v5.Tag != y2) then (some (Sum.inr (-1))) else ((idx x0 y1).bind fun v6 => (bif (v6.Mac != (IntKind.wrap .i64 (y2 + 1))) then (some (Sum.inr (-1))) else ((idx x0 y1).bind fun v7 => (bif (v7.Port != (IntKind.wrap .i64 ((IntKind.wrap .i64 (y2 + 1)) + 1))) then (some (Sum.inr (-1))) else ((idx x0 y1).bind fun v8 => (bif (v8.Age != (IntKind.wrap .i64 ((IntKind.wrap .i64 ((IntKind.wrap .i64 (y2 + 1)) + 1)) + 1))) then (some (Sum.inr (-1))) else ((idx x0 y1).bind fun v9 => (bif (decide ((3 : Int) ≠ 0)) then (bif (!(v9.Static == ((Int.tmod (IntKind.wrap .i64 ((IntKind.wrap .i64 ((IntKind.wrap .i64 ((IntKind.wrap .i64 (y2 + 1)) + 1)) + 1)) + 1)) 3) == 0))) then (some (Sum.inr (-1))) else (laws_heldFentS_L2 n mo4 x0 (IntKind.wrap .i64 (y1 + 1)) (IntKind.wrap .i64 ((IntKind.wrap .i64 ((IntKind.wrap .i64 ((IntKind.wrap .i64 ((IntKind.wrap .i64 (y2 + 1)) + 1)) + 1)) + 1)) + 1)))) else none)))))))))) else (some (Sum.inl y2)))
def laws_heldFentSF (n : Nat) (x0 : (List Fent)) (x1 : Int) : Option (Int) :=
  ((laws_heldFentS_L2 n n x0 0 x1).bind fun o => match o with | .inl y3 => (laws_heldFentS_J1 n y3) | .inr r => some r)
/-- loop.example/g00326/laws.heldFentS -/
theorem laws_heldFentS (n : Nat) (x0 : (List Fent)) (x1 : Int) (r : Int) (H : laws_heldFentSF n x0 x1 = some r) : LCall Try.prog 113 [.val false [.sl false 5 (CV.frzEs (x0.map Fent.row))], .val false [.lit (.int .i64 x1)]] [.val false [.lit (.int .i64 r)]] [] := by
  refine LCall.of_body tOk Try.func113 rfl (c := (.seq (.region 0 (rg Try.f113 0) false) (.seq (.seq (.region 1 (rg Try.f113 1) false) (.block 0 (.loop (.seq (.seq (.region 2 (rg Try.f113 2) false) (.cond (.tmp 9) .skip (.exit 0))) (.seq (.block 1 (.seq (.seq (.region 4 (rg Try.f113 4) false) (.cond (.tmp 18) (.seq (.region 5 (rg Try.f113 5) false) .ret) .skip)) (.seq (.region 6 (rg Try.f113 6) false) (.seq (.seq (.region 7 (rg Try.f113 7) false) (.cond (.tmp 27) (.seq (.region 8 (rg Try.f113 8) false) .ret) .skip)) (.seq (.region 9 (rg Try.f113 9) false) (.seq (.seq (.region 10 (rg Try.f113 10) false) (.cond (.tmp 36) (.seq (.region 11 (rg Try.f113 11) false) .ret) .skip)) (.seq (.region 12 (rg Try.f113 12) false) (.seq (.seq (.region 13 (rg Try.f113 13) false) (.cond (.tmp 45) (.seq (.region 14 (rg Try.f113 14) false) .ret) .skip)) (.seq (.region 15 (rg Try.f113 15) false) (.seq (.seq (.region 16 (rg Try.f113 16) false) (.cond (.tmp 56) (.seq (.region 17 (rg Try.f113 17) false) .ret) .skip)) (.region 18 (rg Try.f113 18) false))))))))))) (.region 3 (rg Try.f113 3) false)))))) (.seq (.region 19 (rg Try.f113 19) false) .ret)))) kr (Nat.le_of_ble_eq_true kr) 0 (rs := [.tmp 4]) rfl [] .nil [(false, [.lit (.int .i64 r)])] [] [] fun cx => ?_
  show Tr _ _ _ ⟨60, 0, [sC 0 (cF 5 x0 Fent.row), sI 1 x1], []⟩ _
  unfold laws_heldFentSF at H
  refine Tr.rs ?_
  refine LAt.runU tOk 1 kr ?_
  refine LAt.doneM 19 0 kr ?_
  refine Tr.seq ?_
  refine Tr.rs ?_
  refine LAt.runU tOk 1 kr ?_
  refine LAt.doneM 51 0 kr ?_
  obtain ⟨o4, eo4, Ho4⟩ := bind_some H
  clear H
  refine Tr.mid (ι := Int) (fun v => ⟨60, 0, [sI 4 0, sI 1 v], []⟩) (fun v => laws_heldFentS_J1 n v = some r) ?_ ?_
  · refine Tr.block ?_
    refine Tr.loop (ι := Nat × (Int × Int)) (fun v => ⟨60, 0, [sI 5 v.2.1, sI 4 0, sC 0 (cF 5 x0 Fent.row), sI 1 v.2.2], []⟩) (fun v => laws_heldFentS_L2 n v.1 x0 v.2.1 v.2.2 = some o4) (fun v => v.1) (n, (0, x1)) eo4 (St.sub_of [5, 4, 0, 1] [] kr) ?_
    rintro ⟨mo4, y1, y2⟩ H
    have H : laws_heldFentS_L2 n mo4 x0 y1 y2 = some o4 := H
    obtain _ | mo4 := mo4
    · cases (show (none : Option _) = some o4 from H)
    · rw [laws_heldFentS_L2] at H
      refine Tr.seq ?_
      refine Tr.rs ?_
      refine LAt.runU tOk 2 kr ?_
      refine LAt.lenE tOk (t := 56) (ty := 3) (e := 141) (x := (.tmp 7)) (d := 8) (g := none) ⟨(.slot 7), [], 0, false, 5, (CV.frzEs (x0.map Fent.row))⟩ (x0).length _ kr kr kr kr kr (frz_len _ _) rfl ?_
      refine LAt.runU tOk 1 kr ?_
      refine LAt.doneM 1011 0 kr ?_
      refine Tr.to ⟨60, 0, [sB 9 (decide (y1 < (x0.length : Int))), sI 8 (x0.length : Int), sC 7 (cF 5 x0 Fent.row), sI 6 y1, sI 5 y1, sI 4 0, sC 0 (cF 5 x0 Fent.row), sI 1 y2], []⟩ kr ?_
      cases h1 : (decide (y1 < (x0.length : Int)))
      · have H := bifF h1 H
        refine Tr.cond (b := false) kr (fun h => nomatch h) (fun _ => ?_)
        refine Tr.exit ?_
        refine And.intro (fun _ => ?_) (fun h => absurd rfl h)
        have H := Option.some.inj H
        subst H
        have H := Ho4
        dsimp only at H
        exact Exists.intro y2 (And.intro H (St.sub_of [4, 1] [] kr))
      · have H := bifT h1 H
        refine Tr.cond (b := true) kr (fun _ => ?_) (fun h => nomatch h)
        refine Tr.skip ?_
        show Tr _ _ _ _ _
        refine Tr.seq ?_
        refine Tr.block ?_
        refine Tr.seq ?_
        refine Tr.rs ?_
        refine LAt.runU tOk 2 kr ?_
        obtain ⟨v5, ev5, H⟩ := bind_some H
        refine LAt.indexF tOk (t := 56) (ty := 0) (x := (.tmp 12)) (y := (.tmp 13)) (d := 14) (g := none) ⟨(.slot 12), [], 0, false, 5, (CV.frzEs (x0.map Fent.row))⟩ y1 (Fent.row v5) _ kr kr kr kr rfl (idx_isF ev5) rfl ?_
        refine LAt.runU tOk 4 kr ?_
        refine LAt.doneM 521203 0 kr ?_
        refine Tr.to ⟨60, 0, [sB 18 (v5.Tag != y2), sI 17 y2, sI 16 v5.Tag, (15, .fad ((Fent.row v5))), (14, .fad ((Fent.row v5))), sI 13 y1, sC 12 (cF 5 x0 Fent.row), sB 9 true, sI 8 (x0.length : Int), sC 7 (cF 5 x0 Fent.row), sI 6 y1, sI 5 y1, sI 4 0, sC 0 (cF 5 x0 Fent.row), sI 1 y2], []⟩ kr ?_
        cases h2 : (v5.Tag != y2)
        · have H := bifF h2 H
          refine Tr.cond (b := false) kr (fun h => nomatch h) (fun _ => ?_)
          refine Tr.skip ?_
          show Tr _ _ _ _ _
          refine Tr.rs ?_
          refine LAt.runU tOk 3 kr ?_
          refine LAt.doneM 2094067 0 kr ?_
          refine Tr.seq ?_
          refine Tr.rs ?_
          refine LAt.runU tOk 2 kr ?_
          obtain ⟨v6, ev6, H⟩ := bind_some H
          refine LAt.indexF tOk (t := 56) (ty := 0) (x := (.tmp 21)) (y := (.tmp 22)) (d := 23) (g := none) ⟨(.slot 21), [], 0, false, 5, (CV.frzEs (x0.map Fent.row))⟩ y1 (Fent.row v6) _ kr kr kr kr rfl (idx_isF ev6) rfl ?_
          refine LAt.runU tOk 4 kr ?_
          refine LAt.doneM 268432371 0 kr ?_
          refine Tr.to ⟨60, 0, [sB 27 (v6.Mac != (IntKind.wrap .i64 (y2 + 1))), sI 26 (IntKind.wrap .i64 (y2 + 1)), sI 25 v6.Mac, (24, .fad (((Fent.row v6).drop 1))), (23, .fad ((Fent.row v6))), sI 22 y1, sC 21 (cF 5 x0 Fent.row), sI 1 (IntKind.wrap .i64 (y2 + 1)), sI 20 (IntKind.wrap .i64 (y2 + 1)), sI 19 y2, sB 18 false, sI 17 y2, sI 16 v5.Tag, (15, .fad ((Fent.row v5))), (14, .fad ((Fent.row v5))), sI 13 y1, sC 12 (cF 5 x0 Fent.row), sB 9 true, sI 8 (x0.length : Int), sC 7 (cF 5 x0 Fent.row), sI 6 y1, sI 5 y1, sI 4 0, sC 0 (cF 5 x0 Fent.row)], []⟩ kr ?_
          cases h3 : (v6.Mac != (IntKind.wrap .i64 (y2 + 1)))
          · have H := bifF h3 H
            refine Tr.cond (b := false) kr (fun h => nomatch h) (fun _ => ?_)
            refine Tr.skip ?_
            show Tr _ _ _ _ _
            refine Tr.rs ?_
            refine LAt.runU tOk 3 kr ?_
            refine LAt.doneM 1073738739 0 kr ?_
            refine Tr.seq ?_
            refine Tr.rs ?_
            refine LAt.runU tOk 2 kr ?_
            obtain ⟨v7, ev7, H⟩ := bind_some H
            refine LAt.indexF tOk (t := 56) (ty := 0) (x := (.tmp 30)) (y := (.tmp 31)) (d := 32) (g := none) ⟨(.slot 30), [], 0, false, 5, (CV.frzEs (x0.map Fent.row))⟩ y1 (Fent.row v7) _ kr kr kr kr rfl (idx_isF ev7) rfl ?_
            refine LAt.runU tOk 4 kr ?_
            refine LAt.doneM 137438950387 0 kr ?_
            refine Tr.to ⟨60, 0, [sB 36 (v7.Port != (IntKind.wrap .i64 ((IntKind.wrap .i64 (y2 + 1)) + 1))), sI 35 (IntKind.wrap .i64 ((IntKind.wrap .i64 (y2 + 1)) + 1)), sI 34 v7.Port, (33, .fad (((Fent.row v7).drop 2))), (32, .fad ((Fent.row v7))), sI 31 y1, sC 30 (cF 5 x0 Fent.row), sI 1 (IntKind.wrap .i64 ((IntKind.wrap .i64 (y2 + 1)) + 1)), sI 29 (IntKind.wrap .i64 ((IntKind.wrap .i64 (y2 + 1)) + 1)), sI 28 (IntKind.wrap .i64 (y2 + 1)), sB 27 false, sI 26 (IntKind.wrap .i64 (y2 + 1)), sI 25 v6.Mac, (24, .fad (((Fent.row v6).drop 1))), (23, .fad ((Fent.row v6))), sI 22 y1, sC 21 (cF 5 x0 Fent.row), sI 20 (IntKind.wrap .i64 (y2 + 1)), sI 19 y2, sB 18 false, sI 17 y2, sI 16 v5.Tag, (15, .fad ((Fent.row v5))), (14, .fad ((Fent.row v5))), sI 13 y1, sC 12 (cF 5 x0 Fent.row), sB 9 true, sI 8 (x0.length : Int), sC 7 (cF 5 x0 Fent.row), sI 6 y1, sI 5 y1, sI 4 0, sC 0 (cF 5 x0 Fent.row)], []⟩ kr ?_
            cases h4 : (v7.Port != (IntKind.wrap .i64 ((IntKind.wrap .i64 (y2 + 1)) + 1)))
            · have H := bifF h4 H
              refine Tr.cond (b := false) kr (fun h => nomatch h) (fun _ => ?_)
              refine Tr.skip ?_
              show Tr _ _ _ _ _
              refine Tr.rs ?_
              refine LAt.runU tOk 3 kr ?_
              refine LAt.doneM 549755810803 0 kr ?_
              refine Tr.seq ?_
              refine Tr.rs ?_
              refine LAt.runU tOk 2 kr ?_
              obtain ⟨v8, ev8, H⟩ := bind_some H
              refine LAt.indexF tOk (t := 56) (ty := 0) (x := (.tmp 39)) (y := (.tmp 40)) (d := 41) (g := none) ⟨(.slot 39), [], 0, false, 5, (CV.frzEs (x0.map Fent.row))⟩ y1 (Fent.row v8) _ kr kr kr kr rfl (idx_isF ev8) rfl ?_
              refine LAt.runU tOk 4 kr ?_
              refine LAt.doneM 70368744174579 0 kr ?_
              refine Tr.to ⟨60, 0, [sB 45 (v8.Age != (IntKind.wrap .i64 ((IntKind.wrap .i64 ((IntKind.wrap .i64 (y2 + 1)) + 1)) + 1))), sI 44 (IntKind.wrap .i64 ((IntKind.wrap .i64 ((IntKind.wrap .i64 (y2 + 1)) + 1)) + 1)), sI 43 v8.Age, (42, .fad (((Fent.row v8).drop 3))), (41, .fad ((Fent.row v8))), sI 40 y1, sC 39 (cF 5 x0 Fent.row), sI 1 (IntKind.wrap .i64 ((IntKind.wrap .i64 ((IntKind.wrap .i64 (y2 + 1)) + 1)) + 1)), sI 38 (IntKind.wrap .i64 ((IntKind.wrap .i64 ((IntKind.wrap .i64 (y2 + 1)) + 1)) + 1)), sI 37 (IntKind.wrap .i64 ((IntKind.wrap .i64 (y2 + 1)) + 1)), sB 36 false, sI 35 (IntKind.wrap .i64 ((IntKind.wrap .i64 (y2 + 1)) + 1)), sI 34 v7.Port, (33, .fad (((Fent.row v7).drop 2))), (32, .fad ((Fent.row v7))), sI 31 y1, sC 30 (cF 5 x0 Fent.row), sI 29 (IntKind.wrap .i64 ((IntKind.wrap .i64 (y2 + 1)) + 1)), sI 28 (IntKind.wrap .i64 (y2 + 1)), sB 27 false, sI 26 (IntKind.wrap .i64 (y2 + 1)), sI 25 v6.Mac, (24, .fad (((Fent.row v6).drop 1))), (23, .fad ((Fent.row v6))), sI 22 y1, sC 21 (cF 5 x0 Fent.row), sI 20 (IntKind.wrap .i64 (y2 + 1)), sI 19 y2, sB 18 false, sI 17 y2, sI 16 v5.Tag, (15, .fad ((Fent.row v5))), (14, .fad ((Fent.row v5))), sI 13 y1, sC 12 (cF 5 x0 Fent.row), sB 9 true, sI 8 (x0.length : Int), sC 7 (cF 5 x0 Fent.row), sI 6 y1, sI 5 y1, sI 4 0, sC 0 (cF 5 x0 Fent.row)], []⟩ kr ?_
              cases h5 : (v8.Age != (IntKind.wrap .i64 ((IntKind.wrap .i64 ((IntKind.wrap .i64 (y2 + 1)) + 1)) + 1)))
              · have H := bifF h5 H
                refine Tr.cond (b := false) kr (fun h => nomatch h) (fun _ => ?_)
                refine Tr.skip ?_
                show Tr _ _ _ _ _
                refine Tr.rs ?_
                refine LAt.runU tOk 3 kr ?_
                refine LAt.doneM 281474976707571 0 kr ?_
                refine Tr.seq ?_
                refine Tr.rs ?_
                refine LAt.runU tOk 2 kr ?_
                obtain ⟨v9, ev9, H⟩ := bind_some H
                refine LAt.indexF tOk (t := 56) (ty := 0) (x := (.tmp 48)) (y := (.tmp 49)) (d := 50) (g := none) ⟨(.slot 48), [], 0, false, 5, (CV.frzEs (x0.map Fent.row))⟩ y1 (Fent.row v9) _ kr kr kr kr rfl (idx_isF ev9) rfl ?_
                refine LAt.runU tOk 3 kr ?_
                obtain ⟨hg10, H⟩ := guard_some H
                refine LAt.binC tOk (op := .rem) (t := 3) (ty := 3) (ty' := 3) (x := (.tmp 53)) (y := (.const (.int .i64 3))) (d := 54) (g := none) (.int .i64 (IntKind.wrap .i64 ((IntKind.wrap .i64 ((IntKind.wrap .i64 ((IntKind.wrap .i64 (y2 + 1)) + 1)) + 1)) + 1))) (.int .i64 3) (.int .i64 (Int.tmod (IntKind.wrap .i64 ((IntKind.wrap .i64 ((IntKind.wrap .i64 ((IntKind.wrap .i64 (y2 + 1)) + 1)) + 1)) + 1)) 3)) _ kr kr kr kr kr (φ := (IntKind.i64 = IntKind.i64 ∧ (3 : Int) ≠ 0)) kr (⟨rfl, of_decide_eq_true hg10⟩) rfl ?_
                refine LAt.runU tOk 2 kr ?_
                refine LAt.doneM 144115188075852787 0 kr ?_
                refine Tr.to ⟨60, 0, [sB 56 (!(v9.Static == ((Int.tmod (IntKind.wrap .i64 ((IntKind.wrap .i64 ((IntKind.wrap .i64 ((IntKind.wrap .i64 (y2 + 1)) + 1)) + 1)) + 1)) 3) == 0))), sB 55 ((Int.tmod (IntKind.wrap .i64 ((IntKind.wrap .i64 ((IntKind.wrap .i64 ((IntKind.wrap .i64 (y2 + 1)) + 1)) + 1)) + 1)) 3) == 0), sI 54 (Int.tmod (IntKind.wrap .i64 ((IntKind.wrap .i64 ((IntKind.wrap .i64 ((IntKind.wrap .i64 (y2 + 1)) + 1)) + 1)) + 1)) 3), sI 53 (IntKind.wrap .i64 ((IntKind.wrap .i64 ((IntKind.wrap .i64 ((IntKind.wrap .i64 (y2 + 1)) + 1)) + 1)) + 1)), sB 52 v9.Static, (51, .fad ([cB v9.Static])), (50, .fad ((Fent.row v9))), sI 49 y1, sC 48 (cF 5 x0 Fent.row), sI 1 (IntKind.wrap .i64 ((IntKind.wrap .i64 ((IntKind.wrap .i64 ((IntKind.wrap .i64 (y2 + 1)) + 1)) + 1)) + 1)), sI 47 (IntKind.wrap .i64 ((IntKind.wrap .i64 ((IntKind.wrap .i64 ((IntKind.wrap .i64 (y2 + 1)) + 1)) + 1)) + 1)), sI 46 (IntKind.wrap .i64 ((IntKind.wrap .i64 ((IntKind.wrap .i64 (y2 + 1)) + 1)) + 1)), sB 45 false, sI 44 (IntKind.wrap .i64 ((IntKind.wrap .i64 ((IntKind.wrap .i64 (y2 + 1)) + 1)) + 1)), sI 43 v8.Age, (42, .fad (((Fent.row v8).drop 3))), (41, .fad ((Fent.row v8))), sI 40 y1, sC 39 (cF 5 x0 Fent.row), sI 38 (IntKind.wrap .i64 ((IntKind.wrap .i64 ((IntKind.wrap .i64 (y2 + 1)) + 1)) + 1)), sI 37 (IntKind.wrap .i64 ((IntKind.wrap .i64 (y2 + 1)) + 1)), sB 36 false, sI 35 (IntKind.wrap .i64 ((IntKind.wrap .i64 (y2 + 1)) + 1)), sI 34 v7.Port, (33, .fad (((Fent.row v7).drop 2))), (32, .fad ((Fent.row v7))), sI 31 y1, sC 30 (cF 5 x0 Fent.row), sI 29 (IntKind.wrap .i64 ((IntKind.wrap .i64 (y2 + 1)) + 1)), sI 28 (IntKind.wrap .i64 (y2 + 1)), sB 27 false, sI 26 (IntKind.wrap .i64 (y2 + 1)), sI 25 v6.Mac, (24, .fad (((Fent.row v6).drop 1))), (23, .fad ((Fent.row v6))), sI 22 y1, sC 21 (cF 5 x0 Fent.row), sI 20 (IntKind.wrap .i64 (y2 + 1)), sI 19 y2, sB 18 false, sI 17 y2, sI 16 v5.Tag, (15, .fad ((Fent.row v5))), (14, .fad ((Fent.row v5))), sI 13 y1, sC 12 (cF 5 x0 Fent.row), sB 9 true, sI 8 (x0.length : Int), sC 7 (cF 5 x0 Fent.row), sI 6 y1, sI 5 y1, sI 4 0, sC 0 (cF 5 x0 Fent.row)], []⟩ kr ?_
                cases h6 : (!(v9.Static == ((Int.tmod (IntKind.wrap .i64 ((IntKind.wrap .i64 ((IntKind.wrap .i64 ((IntKind.wrap .i64 (y2 + 1)) + 1)) + 1)) + 1)) 3) == 0)))
                · have H := bifF h6 H
                  refine Tr.cond (b := false) kr (fun h => nomatch h) (fun _ => ?_)
                  refine Tr.skip ?_
                  show Tr _ _ _ _ _
                  refine Tr.at ?_
                  refine LAt.runU tOk 3 kr ?_
                  refine LAt.doneM 576460752303420403 0 kr ?_
                  show Tr _ _ _ _ _
                  refine Tr.at ?_
                  refine LAt.runU tOk 3 kr ?_
                  refine LAt.doneM 576460752303423475 0 kr ?_
                  exact Exists.intro (mo4, ((IntKind.wrap .i64 (y1 + 1)), (IntKind.wrap .i64 ((IntKind.wrap .i64 ((IntKind.wrap .i64 ((IntKind.wrap .i64 ((IntKind.wrap .i64 (y2 + 1)) + 1)) + 1)) + 1)) + 1)))) (And.intro H (And.intro (Nat.lt_succ_self mo4) (St.sub_of [5, 4, 0, 1] [] kr)))
                · have H := bifT h6 H
                  refine Tr.cond (b := true) kr (fun _ => ?_) (fun h => nomatch h)
                  refine Tr.rs ?_
                  refine LAt.runU tOk 1 kr ?_
                  refine LAt.doneM 144115188075852787 0 kr ?_
                  refine Tr.ret ?_
                  have H := Option.some.inj H
                  subst H
                  have H := Ho4
                  dsimp only at H
                  have H := Option.some.inj H
                  subst H
                  exact Fin.of _ [(false, [cI (-1)])] kr rfl rfl
              · have H := bifT h5 H
                refine Tr.cond (b := true) kr (fun _ => ?_) (fun h => nomatch h)
                refine Tr.rs ?_
                refine LAt.runU tOk 1 kr ?_
                refine LAt.doneM 70368744174579 0 kr ?_
                refine Tr.ret ?_
                have H := Option.some.inj H
                subst H
                have H := Ho4
                dsimp only at H
                have H := Option.some.inj H
                subst H
                exact Fin.of _ [(false, [cI (-1)])] kr rfl rfl
            · have H := bifT h4 H
              refine Tr.cond (b := true) kr (fun _ => ?_) (fun h => nomatch h)
              refine Tr.rs ?_
              refine LAt.runU tOk 1 kr ?_
              refine LAt.doneM 137438950387 0 kr ?_
              refine Tr.ret ?_
              have H := Option.some.inj H
              subst H
              have H := Ho4
              dsimp only at H
              have H := Option.some.inj H
              subst H
              exact Fin.of _ [(false, [cI (-1)])] kr rfl rfl
          · have H := bifT h3 H
            refine Tr.cond (b := true) kr (fun _ => ?_) (fun h => nomatch h)
            refine Tr.rs ?_
            refine LAt.runU tOk 1 kr ?_
            refine LAt.doneM 268432371 0 kr ?_
            refine Tr.ret ?_
            have H := Option.some.inj H
            subst H
            have H := Ho4
            dsimp only at H
            have H := Option.some.inj H
            subst H
            exact Fin.of _ [(false, [cI (-1)])] kr rfl rfl
        · have H := bifT h2 H
          refine Tr.cond (b := true) kr (fun _ => ?_) (fun h => nomatch h)
          refine Tr.rs ?_
          refine LAt.runU tOk 1 kr ?_
          refine LAt.doneM 521203 0 kr ?_
          refine Tr.ret ?_
          have H := Option.some.inj H
          subst H
          have H := Ho4
          dsimp only at H
          have H := Option.some.inj H
          subst H
          exact Fin.of _ [(false, [cI (-1)])] kr rfl rfl
  · rintro y3 H
    have H : (laws_heldFentS_J1 n y3) = some r := H
    unfold laws_heldFentS_J1 at H
    show Tr _ _ _ _ _
    refine Tr.rs ?_
    refine LAt.runU tOk 2 kr ?_
    refine LAt.doneM 16 0 kr ?_
    refine Tr.ret ?_
    have H := Option.some.inj H
    subst H
    exact Fin.of _ [(false, [cI y3])] kr rfl rfl

def laws_heldVrowS_J1 (n : Nat) (y3 : Int) : Option (Int) :=
  (some y3)
def laws_heldVrowS_L2 (n : Nat) : Nat → (List Vrow) → Int → Int → Option ((Int) ⊕ (Int))
  | 0, _, _, _ => none
  | mo4 + 1, x0, y1, y2 => (bif (decide (y1 < (x0.length : Int))) then ((idx x0 y1).bind fun v5 => (bif (v5.Id != y2) then (some (Sum.inr (-1))) else ((idx x0 y1).bind fun v6 => (bif (v6.Members != (IntKind.wrap .i64 (y2 + 1))) then (some (Sum.inr (-1))) else ((idx x0 y1).bind fun v7 => (bif (v7.Bare != (IntKind.wrap .i64 ((IntKind.wrap .i64 (y2 + 1)) + 1))) then (some (Sum.inr (-1))) else (laws_heldVrowS_L2 n mo4 x0 (IntKind.wrap .i64 (y1 + 1)) (IntKind.wrap .i64 ((IntKind.wrap .i64 ((IntKind.wrap .i64 (y2 + 1)) + 1)) + 1))))))))) else (some (Sum.inl y2)))
def laws_heldVrowSF (n : Nat) (x0 : (List Vrow)) (x1 : Int) : Option (Int) :=
  ((laws_heldVrowS_L2 n n x0 0 x1).bind fun o => match o with | .inl y3 => (laws_heldVrowS_J1 n y3) | .inr r => some r)
/-- loop.example/g00326/laws.heldVrowS -/
theorem laws_heldVrowS (n : Nat) (x0 : (List Vrow)) (x1 : Int) (r : Int) (H : laws_heldVrowSF n x0 x1 = some r) : LCall Try.prog 164 [.val false [.sl false 3 (CV.frzEs (x0.map Vrow.row))], .val false [.lit (.int .i64 x1)]] [.val false [.lit (.int .i64 r)]] [] := by
  refine LCall.of_body tOk Try.func164 rfl (c := (.seq (.region 0 (rg Try.f164 0) false) (.seq (.seq (.region 1 (rg Try.f164 1) false) (.block 0 (.loop (.seq (.seq (.region 2 (rg Try.f164 2) false) (.cond (.tmp 9) .skip (.exit 0))) (.seq (.block 1 (.seq (.seq (.region 4 (rg Try.f164 4) false) (.cond (.tmp 18) (.seq (.region 5 (rg Try.f164 5) false) .ret) .skip)) (.seq (.region 6 (rg Try.f164 6) false) (.seq (.seq (.region 7 (rg Try.f164 7) false) (.cond (.tmp 27) (.seq (.region 8 (rg Try.f164 8) false) .ret) .skip)) (.seq (.region 9 (rg Try.f164 9) false) (.seq (.seq (.region 10 (rg Try.f164 10) false) (.cond (.tmp 36) (.seq (.region 11 (rg Try.f164 11) false) .ret) .skip)) (.region 12 (rg Try.f164 12) false))))))) (.region 3 (rg Try.f164 3) false)))))) (.seq (.region 13 (rg Try.f164 13) false) .ret)))) kr (Nat.le_of_ble_eq_true kr) 0 (rs := [.tmp 4]) rfl [] .nil [(false, [.lit (.int .i64 r)])] [] [] fun cx => ?_
  show Tr _ _ _ ⟨40, 0, [sC 0 (cF 3 x0 Vrow.row), sI 1 x1], []⟩ _
  unfold laws_heldVrowSF at H
  refine Tr.rs ?_
  refine LAt.runU tOk 1 kr ?_
  refine LAt.doneM 19 0 kr ?_
  refine Tr.seq ?_
  refine Tr.rs ?_
  refine LAt.runU tOk 1 kr ?_
  refine LAt.doneM 51 0 kr ?_
  obtain ⟨o4, eo4, Ho4⟩ := bind_some H
  clear H
  refine Tr.mid (ι := Int) (fun v => ⟨40, 0, [sI 4 0, sI 1 v], []⟩) (fun v => laws_heldVrowS_J1 n v = some r) ?_ ?_
  · refine Tr.block ?_
    refine Tr.loop (ι := Nat × (Int × Int)) (fun v => ⟨40, 0, [sI 5 v.2.1, sI 4 0, sC 0 (cF 3 x0 Vrow.row), sI 1 v.2.2], []⟩) (fun v => laws_heldVrowS_L2 n v.1 x0 v.2.1 v.2.2 = some o4) (fun v => v.1) (n, (0, x1)) eo4 (St.sub_of [5, 4, 0, 1] [] kr) ?_
    rintro ⟨mo4, y1, y2⟩ H
    have H : laws_heldVrowS_L2 n mo4 x0 y1 y2 = some o4 := H
    obtain _ | mo4 := mo4
    · cases (show (none : Option _) = some o4 from H)
    · rw [laws_heldVrowS_L2] at H
      refine Tr.seq ?_
      refine Tr.rs ?_
      refine LAt.runU tOk 2 kr ?_
      refine LAt.lenE tOk (t := 57) (ty := 3) (e := 138) (x := (.tmp 7)) (d := 8) (g := none) ⟨(.slot 7), [], 0, false, 3, (CV.frzEs (x0.map Vrow.row))⟩ (x0).length _ kr kr kr kr kr (frz_len _ _) rfl ?_
      refine LAt.runU tOk 1 kr ?_
      refine LAt.doneM 1011 0 kr ?_
      refine Tr.to ⟨40, 0, [sB 9 (decide (y1 < (x0.length : Int))), sI 8 (x0.length : Int), sC 7 (cF 3 x0 Vrow.row), sI 6 y1, sI 5 y1, sI 4 0, sC 0 (cF 3 x0 Vrow.row), sI 1 y2], []⟩ kr ?_
      cases h1 : (decide (y1 < (x0.length : Int)))
      · have H := bifF h1 H
        refine Tr.cond (b := false) kr (fun h => nomatch h) (fun _ => ?_)
        refine Tr.exit ?_
        refine And.intro (fun _ => ?_) (fun h => absurd rfl h)
        have H := Option.some.inj H
        subst H
        have H := Ho4
        dsimp only at H
        exact Exists.intro y2 (And.intro H (St.sub_of [4, 1] [] kr))
      · have H := bifT h1 H
        refine Tr.cond (b := true) kr (fun _ => ?_) (fun h => nomatch h)
        refine Tr.skip ?_
        show Tr _ _ _ _ _
        refine Tr.seq ?_
        refine Tr.block ?_
        refine Tr.seq ?_
        refine Tr.rs ?_
        refine LAt.runU tOk 2 kr ?_
        obtain ⟨v5, ev5, H⟩ := bind_some H
        refine LAt.indexF tOk (t := 57) (ty := 0) (x := (.tmp 12)) (y := (.tmp 13)) (d := 14) (g := none) ⟨(.slot 12), [], 0, false, 3, (CV.frzEs (x0.map Vrow.row))⟩ y1 (Vrow.row v5) _ kr kr kr kr rfl (idx_isF ev5) rfl ?_
        refine LAt.runU tOk 4 kr ?_
        refine LAt.doneM 521203 0 kr ?_
        refine Tr.to ⟨40, 0, [sB 18 (v5.Id != y2), sI 17 y2, sI 16 v5.Id, (15, .fad ((Vrow.row v5))), (14, .fad ((Vrow.row v5))), sI 13 y1, sC 12 (cF 3 x0 Vrow.row), sB 9 true, sI 8 (x0.length : Int), sC 7 (cF 3 x0 Vrow.row), sI 6 y1, sI 5 y1, sI 4 0, sC 0 (cF 3 x0 Vrow.row), sI 1 y2], []⟩ kr ?_
        cases h2 : (v5.Id != y2)
        · have H := bifF h2 H
          refine Tr.cond (b := false) kr (fun h => nomatch h) (fun _ => ?_)
          refine Tr.skip ?_
          show Tr _ _ _ _ _
          refine Tr.rs ?_
          refine LAt.runU tOk 3 kr ?_
          refine LAt.doneM 2094067 0 kr ?_
          refine Tr.seq ?_
          refine Tr.rs ?_
          refine LAt.runU tOk 2 kr ?_
          obtain ⟨v6, ev6, H⟩ := bind_some H
          refine LAt.indexF tOk (t := 57) (ty := 0) (x := (.tmp 21)) (y := (.tmp 22)) (d := 23) (g := none) ⟨(.slot 21), [], 0, false, 3, (CV.frzEs (x0.map Vrow.row))⟩ y1 (Vrow.row v6) _ kr kr kr kr rfl (idx_isF ev6) rfl ?_
          refine LAt.runU tOk 4 kr ?_
          refine LAt.doneM 268432371 0 kr ?_
          refine Tr.to ⟨40, 0, [sB 27 (v6.Members != (IntKind.wrap .i64 (y2 + 1))), sI 26 (IntKind.wrap .i64 (y2 + 1)), sI 25 v6.Members, (24, .fad (((Vrow.row v6).drop 1))), (23, .fad ((Vrow.row v6))), sI 22 y1, sC 21 (cF 3 x0 Vrow.row), sI 1 (IntKind.wrap .i64 (y2 + 1)), sI 20 (IntKind.wrap .i64 (y2 + 1)), sI 19 y2, sB 18 false, sI 17 y2, sI 16 v5.Id, (15, .fad ((Vrow.row v5))), (14, .fad ((Vrow.row v5))), sI 13 y1, sC 12 (cF 3 x0 Vrow.row), sB 9 true, sI 8 (x0.length : Int), sC 7 (cF 3 x0 Vrow.row), sI 6 y1, sI 5 y1, sI 4 0, sC 0 (cF 3 x0 Vrow.row)], []⟩ kr ?_
          cases h3 : (v6.Members != (IntKind.wrap .i64 (y2 + 1)))
          · have H := bifF h3 H
            refine Tr.cond (b := false) kr (fun h => nomatch h) (fun _ => ?_)
            refine Tr.skip ?_
            show Tr _ _ _ _ _
            refine Tr.rs ?_
            refine LAt.runU tOk 3 kr ?_
            refine LAt.doneM 1073738739 0 kr ?_
            refine Tr.seq ?_
            refine Tr.rs ?_
            refine LAt.runU tOk 2 kr ?_
            obtain ⟨v7, ev7, H⟩ := bind_some H
            refine LAt.indexF tOk (t := 57) (ty := 0) (x := (.tmp 30)) (y := (.tmp 31)) (d := 32) (g := none) ⟨(.slot 30), [], 0, false, 3, (CV.frzEs (x0.map Vrow.row))⟩ y1 (Vrow.row v7) _ kr kr kr kr rfl (idx_isF ev7) rfl ?_
            refine LAt.runU tOk 4 kr ?_
            refine LAt.doneM 137438950387 0 kr ?_
            refine Tr.to ⟨40, 0, [sB 36 (v7.Bare != (IntKind.wrap .i64 ((IntKind.wrap .i64 (y2 + 1)) + 1))), sI 35 (IntKind.wrap .i64 ((IntKind.wrap .i64 (y2 + 1)) + 1)), sI 34 v7.Bare, (33, .fad ([cI v7.Bare])), (32, .fad ((Vrow.row v7))), sI 31 y1, sC 30 (cF 3 x0 Vrow.row), sI 1 (IntKind.wrap .i64 ((IntKind.wrap .i64 (y2 + 1)) + 1)), sI 29 (IntKind.wrap .i64 ((IntKind.wrap .i64 (y2 + 1)) + 1)), sI 28 (IntKind.wrap .i64 (y2 + 1)), sB 27 false, sI 26 (IntKind.wrap .i64 (y2 + 1)), sI 25 v6.Members, (24, .fad (((Vrow.row v6).drop 1))), (23, .fad ((Vrow.row v6))), sI 22 y1, sC 21 (cF 3 x0 Vrow.row), sI 20 (IntKind.wrap .i64 (y2 + 1)), sI 19 y2, sB 18 false, sI 17 y2, sI 16 v5.Id, (15, .fad ((Vrow.row v5))), (14, .fad ((Vrow.row v5))), sI 13 y1, sC 12 (cF 3 x0 Vrow.row), sB 9 true, sI 8 (x0.length : Int), sC 7 (cF 3 x0 Vrow.row), sI 6 y1, sI 5 y1, sI 4 0, sC 0 (cF 3 x0 Vrow.row)], []⟩ kr ?_
            cases h4 : (v7.Bare != (IntKind.wrap .i64 ((IntKind.wrap .i64 (y2 + 1)) + 1)))
            · have H := bifF h4 H
              refine Tr.cond (b := false) kr (fun h => nomatch h) (fun _ => ?_)
              refine Tr.skip ?_
              show Tr _ _ _ _ _
              refine Tr.at ?_
              refine LAt.runU tOk 3 kr ?_
              refine LAt.doneM 549755810803 0 kr ?_
              show Tr _ _ _ _ _
              refine Tr.at ?_
              refine LAt.runU tOk 3 kr ?_
              refine LAt.doneM 549755813875 0 kr ?_
              exact Exists.intro (mo4, ((IntKind.wrap .i64 (y1 + 1)), (IntKind.wrap .i64 ((IntKind.wrap .i64 ((IntKind.wrap .i64 (y2 + 1)) + 1)) + 1)))) (And.intro H (And.intro (Nat.lt_succ_self mo4) (St.sub_of [5, 4, 0, 1] [] kr)))
            · have H := bifT h4 H
              refine Tr.cond (b := true) kr (fun _ => ?_) (fun h => nomatch h)
              refine Tr.rs ?_
              refine LAt.runU tOk 1 kr ?_
              refine LAt.doneM 137438950387 0 kr ?_
              refine Tr.ret ?_
              have H := Option.some.inj H
              subst H
              have H := Ho4
              dsimp only at H
              have H := Option.some.inj H
              subst H
              exact Fin.of _ [(false, [cI (-1)])] kr rfl rfl
          · have H := bifT h3 H
            refine Tr.cond (b := true) kr (fun _ => ?_) (fun h => nomatch h)
            refine Tr.rs ?_
            refine LAt.runU tOk 1 kr ?_
            refine LAt.doneM 268432371 0 kr ?_
            refine Tr.ret ?_
            have H := Option.some.inj H
            subst H
            have H := Ho4
            dsimp only at H
            have H := Option.some.inj H
            subst H
            exact Fin.of _ [(false, [cI (-1)])] kr rfl rfl
        · have H := bifT h2 H
          refine Tr.cond (b := true) kr (fun _ => ?_) (fun h => nomatch h)
          refine Tr.rs ?_
          refine LAt.runU tOk 1 kr ?_
          refine LAt.doneM 521203 0 kr ?_
          refine Tr.ret ?_
          have H := Option.some.inj H
          subst H
          have H := Ho4
          dsimp only at H
          have H := Option.some.inj H
          subst H
          exact Fin.of _ [(false, [cI (-1)])] kr rfl rfl
  · rintro y3 H
    have H : (laws_heldVrowS_J1 n y3) = some r := H
    unfold laws_heldVrowS_J1 at H
    show Tr _ _ _ _ _
    refine Tr.rs ?_
    refine LAt.runU tOk 2 kr ?_
    refine LAt.doneM 16 0 kr ?_
    refine Tr.ret ?_
    have H := Option.some.inj H
    subst H
    exact Fin.of _ [(false, [cI y3])] kr rfl rfl

def laws_heldIntS_J1 (n : Nat) (y3 : Int) : Option (Int) :=
  (some y3)
def laws_heldIntS_L2 (n : Nat) : Nat → (List Int) → Int → Int → Option ((Int) ⊕ (Int))
  | 0, _, _, _ => none
  | mo4 + 1, x0, y1, y2 => (bif (decide (y1 < (x0.length : Int))) then ((idx x0 y1).bind fun v5 => (bif (v5 != y2) then (some (Sum.inr (-1))) else (laws_heldIntS_L2 n mo4 x0 (IntKind.wrap .i64 (y1 + 1)) (IntKind.wrap .i64 (y2 + 1))))) else (some (Sum.inl y2)))
def laws_heldIntSF (n : Nat) (x0 : (List Int)) (x1 : Int) : Option (Int) :=
  ((laws_heldIntS_L2 n n x0 0 x1).bind fun o => match o with | .inl y3 => (laws_heldIntS_J1 n y3) | .inr r => some r)
/-- loop.example/g00326/laws.heldIntS -/
theorem laws_heldIntS (n : Nat) (x0 : (List Int)) (x1 : Int) (r : Int) (H : laws_heldIntSF n x0 x1 = some r) : LCall Try.prog 28 [.val false [.sl false 1 (CV.frzEs (x0.map intRow))], .val false [.lit (.int .i64 x1)]] [.val false [.lit (.int .i64 r)]] [] := by
  refine LCall.of_body tOk Try.func28 rfl (c := (.seq (.region 0 (rg Try.f28 0) false) (.seq (.seq (.region 1 (rg Try.f28 1) false) (.block 0 (.loop (.seq (.seq (.region 2 (rg Try.f28 2) false) (.cond (.tmp 9) .skip (.exit 0))) (.seq (.block 1 (.seq (.seq (.region 4 (rg Try.f28 4) false) (.cond (.tmp 17) (.seq (.region 5 (rg Try.f28 5) false) .ret) .skip)) (.region 6 (rg Try.f28 6) false))) (.region 3 (rg Try.f28 3) false)))))) (.seq (.region 7 (rg Try.f28 7) false) .ret)))) kr (Nat.le_of_ble_eq_true kr) 0 (rs := [.tmp 4]) rfl [] .nil [(false, [.lit (.int .i64 r)])] [] [] fun cx => ?_
  show Tr _ _ _ ⟨21, 0, [sC 0 (cF 1 x0 intRow), sI 1 x1], []⟩ _
  unfold laws_heldIntSF at H
  refine Tr.rs ?_
  refine LAt.runU tOk 1 kr ?_
  refine LAt.doneM 19 0 kr ?_
  refine Tr.seq ?_
  refine Tr.rs ?_
  refine LAt.runU tOk 1 kr ?_
  refine LAt.doneM 51 0 kr ?_
  obtain ⟨o4, eo4, Ho4⟩ := bind_some H
  clear H
  refine Tr.mid (ι := Int) (fun v => ⟨21, 0, [sI 4 0, sI 1 v], []⟩) (fun v => laws_heldIntS_J1 n v = some r) ?_ ?_
  · refine Tr.block ?_
    refine Tr.loop (ι := Nat × (Int × Int)) (fun v => ⟨21, 0, [sI 5 v.2.1, sI 4 0, sC 0 (cF 1 x0 intRow), sI 1 v.2.2], []⟩) (fun v => laws_heldIntS_L2 n v.1 x0 v.2.1 v.2.2 = some o4) (fun v => v.1) (n, (0, x1)) eo4 (St.sub_of [5, 4, 0, 1] [] kr) ?_
    rintro ⟨mo4, y1, y2⟩ H
    have H : laws_heldIntS_L2 n mo4 x0 y1 y2 = some o4 := H
    obtain _ | mo4 := mo4
    · cases (show (none : Option _) = some o4 from H)
    · rw [laws_heldIntS_L2] at H
      refine Tr.seq ?_
      refine Tr.rs ?_
      refine LAt.runU tOk 2 kr ?_
      refine LAt.lenE tOk (t := 27) (ty := 3) (e := 3) (x := (.tmp 7)) (d := 8) (g := none) ⟨(.slot 7), [], 0, false, 1, (CV.frzEs (x0.map intRow))⟩ (x0).length _ kr kr kr kr kr (frz_len _ _) rfl ?_
      refine LAt.runU tOk 1 kr ?_
      refine LAt.doneM 1011 0 kr ?_
      refine Tr.to ⟨21, 0, [sB 9 (decide (y1 < (x0.length : Int))), sI 8 (x0.length : Int), sC 7 (cF 1 x0 intRow), sI 6 y1, sI 5 y1, sI 4 0, sC 0 (cF 1 x0 intRow), sI 1 y2], []⟩ kr ?_
      cases h1 : (decide (y1 < (x0.length : Int)))
      · have H := bifF h1 H
        refine Tr.cond (b := false) kr (fun h => nomatch h) (fun _ => ?_)
        refine Tr.exit ?_
        refine And.intro (fun _ => ?_) (fun h => absurd rfl h)
        have H := Option.some.inj H
        subst H
        have H := Ho4
        dsimp only at H
        exact Exists.intro y2 (And.intro H (St.sub_of [4, 1] [] kr))
      · have H := bifT h1 H
        refine Tr.cond (b := true) kr (fun _ => ?_) (fun h => nomatch h)
        refine Tr.skip ?_
        show Tr _ _ _ _ _
        refine Tr.seq ?_
        refine Tr.block ?_
        refine Tr.seq ?_
        refine Tr.rs ?_
        refine LAt.runU tOk 2 kr ?_
        obtain ⟨v5, ev5, H⟩ := bind_some H
        refine LAt.indexF tOk (t := 27) (ty := 0) (x := (.tmp 12)) (y := (.tmp 13)) (d := 14) (g := none) ⟨(.slot 12), [], 0, false, 1, (CV.frzEs (x0.map intRow))⟩ y1 [cI v5] _ kr kr kr kr rfl (idx_isF ev5) rfl ?_
        refine LAt.runU tOk 3 kr ?_
        refine LAt.doneM 259059 0 kr ?_
        refine Tr.to ⟨21, 0, [sB 17 (v5 != y2), sI 16 y2, sI 15 v5, (14, .fad ([cI v5])), sI 13 y1, sC 12 (cF 1 x0 intRow), sB 9 true, sI 8 (x0.length : Int), sC 7 (cF 1 x0 intRow), sI 6 y1, sI 5 y1, sI 4 0, sC 0 (cF 1 x0 intRow), sI 1 y2], []⟩ kr ?_
        cases h2 : (v5 != y2)
        · have H := bifF h2 H
          refine Tr.cond (b := false) kr (fun h => nomatch h) (fun _ => ?_)
          refine Tr.skip ?_
          show Tr _ _ _ _ _
          refine Tr.at ?_
          refine LAt.runU tOk 3 kr ?_
          refine LAt.doneM 1045491 0 kr ?_
          show Tr _ _ _ _ _
          refine Tr.at ?_
          refine LAt.runU tOk 3 kr ?_
          refine LAt.doneM 1048563 0 kr ?_
          exact Exists.intro (mo4, ((IntKind.wrap .i64 (y1 + 1)), (IntKind.wrap .i64 (y2 + 1)))) (And.intro H (And.intro (Nat.lt_succ_self mo4) (St.sub_of [5, 4, 0, 1] [] kr)))
        · have H := bifT h2 H
          refine Tr.cond (b := true) kr (fun _ => ?_) (fun h => nomatch h)
          refine Tr.rs ?_
          refine LAt.runU tOk 1 kr ?_
          refine LAt.doneM 259059 0 kr ?_
          refine Tr.ret ?_
          have H := Option.some.inj H
          subst H
          have H := Ho4
          dsimp only at H
          have H := Option.some.inj H
          subst H
          exact Fin.of _ [(false, [cI (-1)])] kr rfl rfl
  · rintro y3 H
    have H : (laws_heldIntS_J1 n y3) = some r := H
    unfold laws_heldIntS_J1 at H
    show Tr _ _ _ _ _
    refine Tr.rs ?_
    refine LAt.runU tOk 2 kr ?_
    refine LAt.doneM 16 0 kr ?_
    refine Tr.ret ?_
    have H := Option.some.inj H
    subst H
    exact Fin.of _ [(false, [cI y3])] kr rfl rfl

def laws_heldVtabF (n : Nat) (x0 : Vtab) (x1 : Int) : Option (Int) :=
  ((laws_heldVrowSF n x0.Rows x1).bind fun r1 => (bif (decide (r1 < 0)) then (some (-1)) else ((laws_heldIntSF n x0.Pvid r1).bind fun r2 => (bif (decide (r2 < 0)) then (some (-1)) else (some r2)))))
/-- loop.example/g00326/laws.heldVtab -/
theorem laws_heldVtab (n : Nat) (x0 : Vtab) (x1 : Int) (r : Int) (H : laws_heldVtabF n x0 x1 = some r) : LCall Try.prog 114 [.val true (CV.frzRow (Vtab.row x0)), .val false [.lit (.int .i64 x1)]] [.val false [.lit (.int .i64 r)]] [] := by
  refine LCall.of_body tOk Try.func114 rfl (c := (.seq (.region 0 (rg Try.f114 0) false) (.seq (.region 1 (rg Try.f114 1) false) (.seq (.seq (.region 2 (rg Try.f114 2) false) (.cond (.tmp 10) (.seq (.region 3 (rg Try.f114 3) false) .ret) .skip)) (.seq (.region 4 (rg Try.f114 4) false) (.seq (.seq (.region 5 (rg Try.f114 5) false) (.cond (.tmp 16) (.seq (.region 6 (rg Try.f114 6) false) .ret) .skip)) (.seq (.region 7 (rg Try.f114 7) false) .ret))))))) kr (Nat.le_of_ble_eq_true kr) 0 (rs := [.tmp 4]) rfl [] .nil [(false, [.lit (.int .i64 r)])] [] [] fun cx => ?_
  show Tr _ _ _ ⟨18, 0, [sV 0 (CV.frzRow (Vtab.row x0)), sI 1 x1], []⟩ _
  unfold laws_heldVtabF at H
  refine Tr.rs ?_
  refine LAt.runU tOk 2 kr ?_
  refine LAt.doneM 22 4 kr ?_
  refine Tr.rs ?_
  refine LAt.runU tOk 3 kr ?_
  obtain ⟨r1, er1, H⟩ := bind_some H
  refine LAt.callU tOk [.rd, .rd] (f := 164) (av := #[.tmp 6, .tmp 7]) (ats := #[57, 3]) (d := (some 8)) (ty := 3) (g := none) kr kr kr [] (laws_heldVrowS n x0.Rows x1 r1 er1) kr (.inl rfl) ?_
  refine LAt.runU tOk 1 kr ?_
  refine LAt.doneM 22 4 kr ?_
  refine Tr.seq ?_
  refine Tr.rs ?_
  refine LAt.runU tOk 2 kr ?_
  refine LAt.doneM 1046 4 kr ?_
  refine Tr.to ⟨18, 0, [sB 10 (decide (r1 < 0)), sI 1 r1, sI 4 0, sA 2 2 2 0], [(2, (CV.frzRow (Vtab.row x0)))]⟩ kr ?_
  cases h1 : (decide (r1 < 0))
  · have H := bifF h1 H
    refine Tr.cond (b := false) kr (fun h => nomatch h) (fun _ => ?_)
    refine Tr.skip ?_
    show Tr _ _ _ _ _
    refine Tr.rs ?_
    refine LAt.runU tOk 3 kr ?_
    obtain ⟨r2, er2, H⟩ := bind_some H
    refine LAt.callU tOk [.rd, .rd] (f := 28) (av := #[.tmp 12, .tmp 13]) (ats := #[27, 3]) (d := (some 14)) (ty := 3) (g := none) kr kr kr [] (laws_heldIntS n x0.Pvid r1 r2 er2) kr (.inl rfl) ?_
    refine LAt.runU tOk 1 kr ?_
    refine LAt.doneM 18 0 kr ?_
    refine Tr.seq ?_
    refine Tr.rs ?_
    refine LAt.runU tOk 2 kr ?_
    refine LAt.doneM 65554 0 kr ?_
    refine Tr.to ⟨18, 0, [sB 16 (decide (r2 < 0)), sI 1 r2, sI 4 0], []⟩ kr ?_
    cases h2 : (decide (r2 < 0))
    · have H := bifF h2 H
      refine Tr.cond (b := false) kr (fun h => nomatch h) (fun _ => ?_)
      refine Tr.skip ?_
      show Tr _ _ _ _ _
      refine Tr.rs ?_
      refine LAt.runU tOk 2 kr ?_
      refine LAt.doneM 16 0 kr ?_
      refine Tr.ret ?_
      have H := Option.some.inj H
      subst H
      exact Fin.of _ [(false, [cI r2])] kr rfl rfl
    · have H := bifT h2 H
      refine Tr.cond (b := true) kr (fun _ => ?_) (fun h => nomatch h)
      refine Tr.rs ?_
      refine LAt.runU tOk 1 kr ?_
      refine LAt.doneM 18 0 kr ?_
      refine Tr.ret ?_
      have H := Option.some.inj H
      subst H
      exact Fin.of _ [(false, [cI (-1)])] kr rfl rfl
  · have H := bifT h1 H
    refine Tr.cond (b := true) kr (fun _ => ?_) (fun h => nomatch h)
    refine Tr.rs ?_
    refine LAt.runU tOk 1 kr ?_
    refine LAt.doneM 22 4 kr ?_
    refine Tr.ret ?_
    have H := Option.some.inj H
    subst H
    exact Fin.of _ [(false, [cI (-1)])] kr rfl rfl

def laws_heldBridgeF (n : Nat) (x0 : Bridge) (x1 : Int) : Option (Int) :=
  ((laws_heldPtSF n x0.Ports x1).bind fun r1 => (bif (decide (r1 < 0)) then (some (-1)) else ((laws_heldFentSF n x0.F r1).bind fun r2 => (bif (decide (r2 < 0)) then (some (-1)) else ((laws_heldVtabF n x0.V r2).bind fun r3 => (bif (decide (r3 < 0)) then (some (-1)) else (some r3)))))))
/-- loop.example/g00326/laws.heldBridge -/
theorem laws_heldBridge (n : Nat) (x0 : Bridge) (x1 : Int) (r : Int) (H : laws_heldBridgeF n x0 x1 = some r) : LCall Try.prog 41 [.val true (CV.frzRow (Bridge.row x0)), .val false [.lit (.int .i64 x1)]] [.val false [.lit (.int .i64 r)]] [] := by
  refine LCall.of_body tOk Try.func41 rfl (c := (.seq (.region 0 (rg Try.f41 0) false) (.seq (.region 1 (rg Try.f41 1) false) (.seq (.seq (.region 2 (rg Try.f41 2) false) (.cond (.tmp 10) (.seq (.region 3 (rg Try.f41 3) false) .ret) .skip)) (.seq (.region 4 (rg Try.f41 4) false) (.seq (.seq (.region 5 (rg Try.f41 5) false) (.cond (.tmp 16) (.seq (.region 6 (rg Try.f41 6) false) .ret) .skip)) (.seq (.region 7 (rg Try.f41 7) false) (.seq (.seq (.region 8 (rg Try.f41 8) false) (.cond (.tmp 22) (.seq (.region 9 (rg Try.f41 9) false) .ret) .skip)) (.seq (.region 10 (rg Try.f41 10) false) .ret))))))))) kr (Nat.le_of_ble_eq_true kr) 0 (rs := [.tmp 4]) rfl [] .nil [(false, [.lit (.int .i64 r)])] [] [] fun cx => ?_
  show Tr _ _ _ ⟨24, 0, [sV 0 (CV.frzRow (Bridge.row x0)), sI 1 x1], []⟩ _
  unfold laws_heldBridgeF at H
  refine Tr.rs ?_
  refine LAt.runU tOk 2 kr ?_
  refine LAt.doneM 22 4 kr ?_
  refine Tr.rs ?_
  refine LAt.runU tOk 3 kr ?_
  obtain ⟨r1, er1, H⟩ := bind_some H
  refine LAt.callU tOk [.rd, .rd] (f := 112) (av := #[.tmp 6, .tmp 7]) (ats := #[55, 3]) (d := (some 8)) (ty := 3) (g := none) kr kr kr [] (laws_heldPtS n x0.Ports x1 r1 er1) kr (.inl rfl) ?_
  refine LAt.runU tOk 1 kr ?_
  refine LAt.doneM 22 4 kr ?_
  refine Tr.seq ?_
  refine Tr.rs ?_
  refine LAt.runU tOk 2 kr ?_
  refine LAt.doneM 1046 4 kr ?_
  refine Tr.to ⟨24, 0, [sB 10 (decide (r1 < 0)), sI 1 r1, sI 4 0, sA 2 2 11 0], [(2, (CV.frzRow (Bridge.row x0)))]⟩ kr ?_
  cases h1 : (decide (r1 < 0))
  · have H := bifF h1 H
    refine Tr.cond (b := false) kr (fun h => nomatch h) (fun _ => ?_)
    refine Tr.skip ?_
    show Tr _ _ _ _ _
    refine Tr.rs ?_
    refine LAt.runU tOk 3 kr ?_
    obtain ⟨r2, er2, H⟩ := bind_some H
    refine LAt.callU tOk [.rd, .rd] (f := 113) (av := #[.tmp 12, .tmp 13]) (ats := #[56, 3]) (d := (some 14)) (ty := 3) (g := none) kr kr kr [] (laws_heldFentS n x0.F r1 r2 er2) kr (.inl rfl) ?_
    refine LAt.runU tOk 1 kr ?_
    refine LAt.doneM 22 4 kr ?_
    refine Tr.seq ?_
    refine Tr.rs ?_
    refine LAt.runU tOk 2 kr ?_
    refine LAt.doneM 65558 4 kr ?_
    refine Tr.to ⟨24, 0, [sB 16 (decide (r2 < 0)), sI 1 r2, sI 4 0, sA 2 2 11 0], [(2, (CV.frzRow (Bridge.row x0)))]⟩ kr ?_
    cases h2 : (decide (r2 < 0))
    · have H := bifF h2 H
      refine Tr.cond (b := false) kr (fun h => nomatch h) (fun _ => ?_)
      refine Tr.skip ?_
      show Tr _ _ _ _ _
      refine Tr.rs ?_
      refine LAt.runU tOk 3 kr ?_
      obtain ⟨r3, er3, H⟩ := bind_some H
      refine LAt.callU tOk [.rd, .rd] (f := 114) (av := #[.tmp 18, .tmp 19]) (ats := #[59, 3]) (d := (some 20)) (ty := 3) (g := none) kr kr kr [] (laws_heldVtab n x0.V r2 r3 er3) kr (.inl rfl) ?_
      refine LAt.runU tOk 1 kr ?_
      refine LAt.doneM 18 0 kr ?_
      refine Tr.seq ?_
      refine Tr.rs ?_
      refine LAt.runU tOk 2 kr ?_
      refine LAt.doneM 4194322 0 kr ?_
      refine Tr.to ⟨24, 0, [sB 22 (decide (r3 < 0)), sI 1 r3, sI 4 0], []⟩ kr ?_
      cases h3 : (decide (r3 < 0))
      · have H := bifF h3 H
        refine Tr.cond (b := false) kr (fun h => nomatch h) (fun _ => ?_)
        refine Tr.skip ?_
        show Tr _ _ _ _ _
        refine Tr.rs ?_
        refine LAt.runU tOk 2 kr ?_
        refine LAt.doneM 16 0 kr ?_
        refine Tr.ret ?_
        have H := Option.some.inj H
        subst H
        exact Fin.of _ [(false, [cI r3])] kr rfl rfl
      · have H := bifT h3 H
        refine Tr.cond (b := true) kr (fun _ => ?_) (fun h => nomatch h)
        refine Tr.rs ?_
        refine LAt.runU tOk 1 kr ?_
        refine LAt.doneM 18 0 kr ?_
        refine Tr.ret ?_
        have H := Option.some.inj H
        subst H
        exact Fin.of _ [(false, [cI (-1)])] kr rfl rfl
    · have H := bifT h2 H
      refine Tr.cond (b := true) kr (fun _ => ?_) (fun h => nomatch h)
      refine Tr.rs ?_
      refine LAt.runU tOk 1 kr ?_
      refine LAt.doneM 22 4 kr ?_
      refine Tr.ret ?_
      have H := Option.some.inj H
      subst H
      exact Fin.of _ [(false, [cI (-1)])] kr rfl rfl
  · have H := bifT h1 H
    refine Tr.cond (b := true) kr (fun _ => ?_) (fun h => nomatch h)
    refine Tr.rs ?_
    refine LAt.runU tOk 1 kr ?_
    refine LAt.doneM 22 4 kr ?_
    refine Tr.ret ?_
    have H := Option.some.inj H
    subst H
    exact Fin.of _ [(false, [cI (-1)])] kr rfl rfl

def laws_FnExactHearVecF (n : Nat) (x0 : Bridge) (x1 : Int) (x2 : Vec) : Option (Bool) :=
  ((laws_szBridgeF n x0 1048576).bind fun r1 => (bif (decide (r1 < 0)) then (some true) else ((laws_toBridgeF n x0).bind fun r2 => ((laws_toVecF n x2).bind fun r3 => ((spec_HearVecF n r2 x1 r3).bind fun r4 => ((laws_toBridgeF n x0).bind fun r5 => ((laws_toVecF n x2).bind fun r6 => ((impl_HearVecF n r5 x1 r6).bind fun r7 => ((laws_eqBridgeF n r7 r4).bind fun r8 => (bif (!r8) then (some false) else ((laws_toBridgeF n x0).bind fun r9 => ((laws_eqBridgeF n r5 r9).bind fun r10 => (bif (!r10) then (some false) else ((laws_markBridgeF n r5 1).bind fun r11 => (bif (decide (r11.1 < 0)) then (some false) else ((laws_eqBridgeF n r7 r4).bind fun r12 => (bif (!r12) then (some false) else ((laws_markBridgeF n r7 1).bind fun r13 => ((laws_heldBridgeF n r13.2 1).bind fun r14 => (bif (decide (r14 < 0)) then (some false) else (bif (r14 != r13.1) then (some false) else ((laws_toBridgeF n x0).bind fun r15 => ((laws_toVecF n x2).bind fun r16 => ((impl_HearVecF n r15 x1 r16).bind fun r17 => ((laws_eqBridgeF n r17 r4).bind fun r18 => (bif (!r18) then (some false) else ((laws_heldBridgeF n r13.2 1).bind fun r19 => (bif (decide (r19 < 0)) then (some false) else (bif (r19 != r13.1) then (some false) else (some true))))))))))))))))))))))))))))))
/-- loop.example/g00326/laws.FnExactHearVec -/
theorem laws_FnExactHearVec (n : Nat) (x0 : Bridge) (x1 : Int) (x2 : Vec) (r : Bool) (H : laws_FnExactHearVecF n x0 x1 x2 = some r) : LCall Try.prog 10 [.val true (CV.frzRow (Bridge.row x0)), .val false [.lit (.int .i64 x1)], .val true (CV.frzRow (Vec.row x2))] [.val false [.lit (.bool r)]] [] := by
  refine LCall.of_body tOk Try.func10 rfl (c := (.seq (.region 0 (rg Try.f10 0) false) (.seq (.region 1 (rg Try.f10 1) false) (.seq (.region 2 (rg Try.f10 2) false) (.seq (.seq (.region 3 (rg Try.f10 3) false) (.cond (.tmp 19) (.seq (.region 4 (rg Try.f10 4) false) .ret) .skip)) (.seq (.region 5 (rg Try.f10 5) true) (.seq (.region 6 (rg Try.f10 6) false) (.seq (.region 7 (rg Try.f10 7) true) (.seq (.seq (.region 8 (rg Try.f10 8) false) (.cond (.tmp 36) (.seq (.region 9 (rg Try.f10 9) false) .ret) .skip)) (.seq (.seq (.region 10 (rg Try.f10 10) true) (.cond (.tmp 41) (.seq (.region 11 (rg Try.f10 11) false) .ret) .skip)) (.seq (.region 12 (rg Try.f10 12) false) (.seq (.region 13 (rg Try.f10 13) false) (.seq (.seq (.region 14 (rg Try.f10 14) false) (.cond (.tmp 52) (.seq (.region 15 (rg Try.f10 15) false) .ret) .skip)) (.seq (.region 16 (rg Try.f10 16) false) (.seq (.region 17 (rg Try.f10 17) false) (.seq (.region 18 (rg Try.f10 18) false) (.seq (.region 19 (rg Try.f10 19) false) (.seq (.seq (.region 20 (rg Try.f10 20) false) (.cond (.tmp 60) (.seq (.region 21 (rg Try.f10 21) false) .ret) .skip)) (.seq (.seq (.region 22 (rg Try.f10 22) false) (.cond (.tmp 63) (.seq (.region 23 (rg Try.f10 23) false) .ret) .skip)) (.seq (.region 24 (rg Try.f10 24) true) (.seq (.seq (.region 25 (rg Try.f10 25) false) (.cond (.tmp 73) (.seq (.region 26 (rg Try.f10 26) false) .ret) .skip)) (.seq (.region 27 (rg Try.f10 27) false) (.seq (.region 28 (rg Try.f10 28) false) (.seq (.seq (.region 29 (rg Try.f10 29) false) (.cond (.tmp 78) (.seq (.region 30 (rg Try.f10 30) false) .ret) .skip)) (.seq (.seq (.region 31 (rg Try.f10 31) false) (.cond (.tmp 81) (.seq (.region 32 (rg Try.f10 32) false) .ret) .skip)) (.seq (.region 33 (rg Try.f10 33) false) .ret)))))))))))))))))))))))))) kr (Nat.le_of_ble_eq_true kr) 0 (rs := [.tmp 6]) rfl [] .nil [(false, [.lit (.bool r)])] [] [] fun cx => ?_
  show Tr _ _ _ ⟨82, 0, [sV 0 (CV.frzRow (Bridge.row x0)), sI 1 x1, sV 2 (Vec.row x2)], []⟩ _
  unfold laws_FnExactHearVecF at H
  refine Tr.rs ?_
  refine LAt.runU tOk 3 kr ?_
  refine LAt.doneM 106 40 kr ?_
  refine Tr.rs ?_
  refine LAt.runU tOk 1 kr ?_
  refine LAt.doneM 234 40 kr ?_
  refine Tr.rs ?_
  refine LAt.runU tOk 2 kr ?_
  obtain ⟨r1, er1, H⟩ := bind_some H
  refine LAt.callU tOk [.rd, .rd] (f := 35) (av := #[.tmp 15, .tmp 16]) (ats := #[53, 3]) (d := (some 17)) (ty := 3) (g := none) kr kr kr [] (laws_szBridge n x0 1048576 r1 er1) kr (.inl rfl) ?_
  refine LAt.runU tOk 1 kr ?_
  refine LAt.doneM 234 40 kr ?_
  refine Tr.seq ?_
  refine Tr.rs ?_
  refine LAt.runU tOk 2 kr ?_
  refine LAt.doneM 524394 40 kr ?_
  refine Tr.to ⟨82, 0, [sB 19 (decide (r1 < 0)), sB 6 false, sA 5 5 5 0, sA 3 3 11 0, sI 1 x1], [(5, (Vec.row x2)), (3, (CV.frzRow (Bridge.row x0)))]⟩ kr ?_
  cases h1 : (decide (r1 < 0))
  · have H := bifF h1 H
    refine Tr.cond (b := false) kr (fun h => nomatch h) (fun _ => ?_)
    refine Tr.skip ?_
    show Tr _ _ _ _ _
    obtain ⟨r2, er2, H⟩ := bind_some H
    obtain ⟨r3, er3, H⟩ := bind_some H
    obtain ⟨r4, er4, H⟩ := bind_some H
    refine Tr.draws mixed 8 kr ⟨82, 0, [sA 8 8 11 0, sB 6 false, sA 5 5 5 0, sA 3 3 11 0, sI 1 x1], [(8, (Bridge.row r4)), (5, (Vec.row x2)), (3, (CV.frzRow (Bridge.row x0)))]⟩ (fun cx => ?_) ?_
    · refine AT.runU tOk [(0, [1, 4, 5, 7]), (2, []), (3, [4, 5, 7])] 5 [⟨[4, 5, 7], 68, 5, 23⟩, ⟨[1, 4, 5, 7], 53, 3, 20⟩] [3, 2, 0] rfl kr (fun cx => ?_)
      refine AT.big2 tOk 1 6 kr (And.intro kr ?_) (And.intro kr ?_)
      · refine LAt.callU tOk [.rd] (f := 37) (av := #[.tmp 20]) (ats := #[53]) (d := (some 21)) (ty := 61) (g := none) kr kr kr [] (laws_toBridge n x0 r2 er2) kr (.inl rfl) ?_
        refine LAt.fin kr (And.intro (And.intro kr kr) ?_)
        refine AT.big2 tOk 4 6 kr (And.intro kr ?_) (And.intro kr ?_)
        · refine LAt.callU tOk [.rd] (f := 43) (av := #[.tmp 23]) (ats := #[68]) (d := (some 24)) (ty := 70) (g := none) kr kr kr [] (laws_toVec n x2 r3 er3) kr (.inl rfl) ?_
          refine LAt.fin kr (And.intro (And.intro kr kr) ?_)
          refine AT.big2 tOk 5 6 kr (And.intro kr ?_) (And.intro kr ?_)
          · refine LAt.callU tOk [.rd, .rd, .rd] (f := 42) (av := #[.tmp 21, .tmp 22, .tmp 24]) (ats := #[61, 3, 70]) (d := (some 25)) (ty := 61) (g := none) kr kr kr [] (spec_HearVec n r2 x1 r3 r4 er4) kr (.inl rfl) ?_
            refine LAt.fin kr (And.intro (And.intro kr kr) ?_)
            refine AT.big1 tOk 6 kr kr ?_
            refine LAt.runU tOk 1 kr ?_
            refine LAt.fin kr (And.intro (And.intro kr kr) ?_)
            refine AT.big1 tOk 7 kr kr ?_
            refine LAt.runU tOk 1 kr ?_
            refine LAt.fin kr (And.intro (And.intro kr kr) ?_)
            exact AT.done [8, 6, 5, 3, 1] [8, 5, 3] _ kr kr rfl
          · refine LAt.runU tOk 1 kr ?_
            refine LAt.fin kr (And.intro (And.intro kr kr) ?_)
            refine AT.big1 tOk 5 kr kr ?_
            refine LAt.callU tOk [.rd, .rd, .rd] (f := 42) (av := #[.tmp 21, .tmp 22, .tmp 24]) (ats := #[61, 3, 70]) (d := (some 25)) (ty := 61) (g := none) kr kr kr [] (spec_HearVec n r2 x1 r3 r4 er4) kr (.inl rfl) ?_
            refine LAt.fin kr (And.intro (And.intro kr kr) ?_)
            refine AT.big1 tOk 7 kr kr ?_
            refine LAt.runU tOk 1 kr ?_
            refine LAt.fin kr (And.intro (And.intro kr kr) ?_)
            exact AT.done [8, 6, 5, 3, 1] [8, 5, 3] _ kr kr rfl
        · refine LAt.runU tOk 1 kr ?_
          refine LAt.fin kr (And.intro (And.intro kr kr) ?_)
          refine AT.big1 tOk 4 kr kr ?_
          refine LAt.callU tOk [.rd] (f := 43) (av := #[.tmp 23]) (ats := #[68]) (d := (some 24)) (ty := 70) (g := none) kr kr kr [] (laws_toVec n x2 r3 er3) kr (.inl rfl) ?_
          refine LAt.fin kr (And.intro (And.intro kr kr) ?_)
          refine AT.big1 tOk 5 kr kr ?_
          refine LAt.callU tOk [.rd, .rd, .rd] (f := 42) (av := #[.tmp 21, .tmp 22, .tmp 24]) (ats := #[61, 3, 70]) (d := (some 25)) (ty := 61) (g := none) kr kr kr [] (spec_HearVec n r2 x1 r3 r4 er4) kr (.inl rfl) ?_
          refine LAt.fin kr (And.intro (And.intro kr kr) ?_)
          refine AT.big1 tOk 7 kr kr ?_
          refine LAt.runU tOk 1 kr ?_
          refine LAt.fin kr (And.intro (And.intro kr kr) ?_)
          exact AT.done [8, 6, 5, 3, 1] [8, 5, 3] _ kr kr rfl
      · refine LAt.runU tOk 1 kr ?_
        refine LAt.fin kr (And.intro (And.intro kr kr) ?_)
        refine AT.big1 tOk 1 kr kr ?_
        refine LAt.callU tOk [.rd] (f := 37) (av := #[.tmp 20]) (ats := #[53]) (d := (some 21)) (ty := 61) (g := none) kr kr kr [] (laws_toBridge n x0 r2 er2) kr (.inl rfl) ?_
        refine LAt.fin kr (And.intro (And.intro kr kr) ?_)
        refine AT.big1 tOk 4 kr kr ?_
        refine LAt.callU tOk [.rd] (f := 43) (av := #[.tmp 23]) (ats := #[68]) (d := (some 24)) (ty := 70) (g := none) kr kr kr [] (laws_toVec n x2 r3 er3) kr (.inl rfl) ?_
        refine LAt.fin kr (And.intro (And.intro kr kr) ?_)
        refine AT.big1 tOk 5 kr kr ?_
        refine LAt.callU tOk [.rd, .rd, .rd] (f := 42) (av := #[.tmp 21, .tmp 22, .tmp 24]) (ats := #[61, 3, 70]) (d := (some 25)) (ty := 61) (g := none) kr kr kr [] (spec_HearVec n r2 x1 r3 r4 er4) kr (.inl rfl) ?_
        refine LAt.fin kr (And.intro (And.intro kr kr) ?_)
        refine AT.big1 tOk 7 kr kr ?_
        refine LAt.runU tOk 1 kr ?_
        refine LAt.fin kr (And.intro (And.intro kr kr) ?_)
        exact AT.done [8, 6, 5, 3, 1] [8, 5, 3] _ kr kr rfl
    · refine Tr.rs ?_
      refine LAt.runU tOk 1 kr ?_
      obtain ⟨r5, er5, H⟩ := bind_some H
      refine LAt.callU tOk [.rd] (f := 37) (av := #[.tmp 26]) (ats := #[53]) (d := (some 27)) (ty := 61) (g := none) kr kr kr [] (laws_toBridge n x0 r5 er5) kr (.inl rfl) ?_
      refine LAt.runU tOk 2 kr ?_
      refine LAt.doneM 874 808 kr ?_
      obtain ⟨r6, er6, H⟩ := bind_some H
      obtain ⟨r7, er7, H⟩ := bind_some H
      refine Tr.draws mixed 7 kr ⟨82, 0, [sA 10 10 11 0, sA 9 9 11 0, sA 8 8 11 0, sB 6 false, sA 5 5 5 0, sA 3 3 11 0, sI 1 x1], [(10, (Bridge.row r7)), (9, (Bridge.row r5)), (8, (Bridge.row r4)), (5, (Vec.row x2)), (3, (CV.frzRow (Bridge.row x0)))]⟩ (fun cx => ?_) ?_
      · refine AT.runU tOk [(0, [4, 6]), (1, []), (2, [3, 4, 6])] 4 [⟨[3, 4, 6], 68, 5, 30⟩, ⟨[4, 6], 61, 9, 28⟩] [2, 1, 0] rfl kr (fun cx => ?_)
        refine AT.big2 tOk 3 5 kr (And.intro kr ?_) (And.intro kr ?_)
        · refine LAt.callU tOk [.rd] (f := 43) (av := #[.tmp 30]) (ats := #[68]) (d := (some 31)) (ty := 70) (g := none) kr kr kr [] (laws_toVec n x2 r6 er6) kr (.inl rfl) ?_
          refine LAt.fin kr (And.intro (And.intro kr kr) ?_)
          refine AT.big2 tOk 4 5 kr (And.intro kr ?_) (And.intro kr ?_)
          · refine LAt.callU tOk [.rd, .rd, .rd] (f := 44) (av := #[.tmp 28, .tmp 29, .tmp 31]) (ats := #[61, 3, 70]) (d := (some 32)) (ty := 61) (g := none) kr kr kr [.box 9] (impl_HearVec n r5 x1 r6 r7 er7) kr (.inr (rets_cons (Bridge.row_mine _) rets_nil)) ?_
            refine LAt.fin kr (And.intro (And.intro kr kr) ?_)
            refine AT.big1 tOk 5 kr kr ?_
            refine LAt.runU tOk 1 kr ?_
            refine LAt.fin kr (And.intro (And.intro kr kr) ?_)
            refine AT.big1 tOk 6 kr kr ?_
            refine LAt.runU tOk 1 kr ?_
            refine LAt.fin kr (And.intro (And.intro kr kr) ?_)
            exact AT.done [10, 9, 8, 6, 5, 3, 1] [10, 9, 8, 5, 3] _ kr kr rfl
          · refine LAt.runU tOk 1 kr ?_
            refine LAt.fin kr (And.intro (And.intro kr kr) ?_)
            refine AT.big1 tOk 4 kr kr ?_
            refine LAt.callU tOk [.rd, .rd, .rd] (f := 44) (av := #[.tmp 28, .tmp 29, .tmp 31]) (ats := #[61, 3, 70]) (d := (some 32)) (ty := 61) (g := none) kr kr kr [.box 9] (impl_HearVec n r5 x1 r6 r7 er7) kr (.inr (rets_cons (Bridge.row_mine _) rets_nil)) ?_
            refine LAt.fin kr (And.intro (And.intro kr kr) ?_)
            refine AT.big1 tOk 6 kr kr ?_
            refine LAt.runU tOk 1 kr ?_
            refine LAt.fin kr (And.intro (And.intro kr kr) ?_)
            exact AT.done [10, 9, 8, 6, 5, 3, 1] [10, 9, 8, 5, 3] _ kr kr rfl
        · refine LAt.runU tOk 1 kr ?_
          refine LAt.fin kr (And.intro (And.intro kr kr) ?_)
          refine AT.big1 tOk 3 kr kr ?_
          refine LAt.callU tOk [.rd] (f := 43) (av := #[.tmp 30]) (ats := #[68]) (d := (some 31)) (ty := 70) (g := none) kr kr kr [] (laws_toVec n x2 r6 er6) kr (.inl rfl) ?_
          refine LAt.fin kr (And.intro (And.intro kr kr) ?_)
          refine AT.big1 tOk 4 kr kr ?_
          refine LAt.callU tOk [.rd, .rd, .rd] (f := 44) (av := #[.tmp 28, .tmp 29, .tmp 31]) (ats := #[61, 3, 70]) (d := (some 32)) (ty := 61) (g := none) kr kr kr [.box 9] (impl_HearVec n r5 x1 r6 r7 er7) kr (.inr (rets_cons (Bridge.row_mine _) rets_nil)) ?_
          refine LAt.fin kr (And.intro (And.intro kr kr) ?_)
          refine AT.big1 tOk 6 kr kr ?_
          refine LAt.runU tOk 1 kr ?_
          refine LAt.fin kr (And.intro (And.intro kr kr) ?_)
          exact AT.done [10, 9, 8, 6, 5, 3, 1] [10, 9, 8, 5, 3] _ kr kr rfl
      · refine Tr.seq ?_
        refine Tr.rs ?_
        refine LAt.runU tOk 2 kr ?_
        obtain ⟨r8, er8, H⟩ := bind_some H
        refine LAt.callU tOk [.rd, .rd] (f := 39) (av := #[.tmp 33, .tmp 34]) (ats := #[61, 61]) (d := (some 35)) (ty := 4) (g := none) kr kr kr [.box 10, .box 8] (laws_eqBridge n r7 r4 r8 er8) kr (.inr (rets_cons (mine_cons mine_lit mine_nil) rets_nil)) ?_
        refine LAt.runU tOk 1 kr ?_
        refine LAt.doneM 68719478634 1832 kr ?_
        refine Tr.to ⟨82, 0, [sB 36 (!r8), sA 10 10 11 0, sA 9 9 11 0, sA 8 8 11 0, sB 6 false, sA 5 5 5 0, sA 3 3 11 0, sI 1 x1], [(10, (Bridge.row r7)), (9, (Bridge.row r5)), (8, (Bridge.row r4)), (5, (Vec.row x2)), (3, (CV.frzRow (Bridge.row x0)))]⟩ kr ?_
        cases h2 : (!r8)
        · have H := bifF h2 H
          refine Tr.cond (b := false) kr (fun h => nomatch h) (fun _ => ?_)
          refine Tr.skip ?_
          show Tr _ _ _ _ _
          refine Tr.seq ?_
          obtain ⟨r9, er9, H⟩ := bind_some H
          obtain ⟨r10, er10, H⟩ := bind_some H
          refine Tr.draws mixed 5 kr ⟨82, 0, [sB 41 (!r10), sA 10 10 11 0, sA 9 9 11 0, sA 8 8 11 0, sB 6 false, sA 5 5 5 0, sA 3 3 11 0, sI 1 x1], [(10, (Bridge.row r7)), (9, (Bridge.row r5)), (8, (Bridge.row r4)), (5, (Vec.row x2)), (3, (CV.frzRow (Bridge.row x0)))]⟩ (fun cx => ?_) ?_
          · refine AT.runU tOk [(0, [3]), (1, [2, 3])] 3 [⟨[2, 3], 53, 3, 38⟩, ⟨[3], 61, 9, 37⟩] [1, 0] rfl kr (fun cx => ?_)
            refine AT.big1 tOk 2 kr kr ?_
            refine LAt.callU tOk [.rd] (f := 37) (av := #[.tmp 38]) (ats := #[53]) (d := (some 39)) (ty := 61) (g := none) kr kr kr [] (laws_toBridge n x0 r9 er9) kr (.inl rfl) ?_
            refine LAt.fin kr (And.intro (And.intro kr kr) ?_)
            refine AT.big1 tOk 3 kr kr ?_
            refine LAt.callU tOk [.rd, .rd] (f := 39) (av := #[.tmp 37, .tmp 39]) (ats := #[61, 61]) (d := (some 40)) (ty := 4) (g := none) kr kr kr [.box 9] (laws_eqBridge n r5 r9 r10 er10) kr (.inr (rets_cons (mine_cons mine_lit mine_nil) rets_nil)) ?_
            refine LAt.fin kr (And.intro (And.intro kr kr) ?_)
            refine AT.runU tOk [(4, [])] 0 [⟨[2, 3], 53, 3, 38⟩, ⟨[3], 61, 9, 37⟩] [4, 3, 2, 1, 0] rfl kr (fun cx => ?_)
            exact AT.done [41, 10, 9, 8, 6, 5, 3, 1] [10, 9, 8, 5, 3] _ kr kr rfl
          · refine Tr.to ⟨82, 0, [sB 41 (!r10), sA 10 10 11 0, sA 9 9 11 0, sA 8 8 11 0, sB 6 false, sA 5 5 5 0, sA 3 3 11 0, sI 1 x1], [(10, (Bridge.row r7)), (9, (Bridge.row r5)), (8, (Bridge.row r4)), (5, (Vec.row x2)), (3, (CV.frzRow (Bridge.row x0)))]⟩ kr ?_
            cases h3 : (!r10)
            · have H := bifF h3 H
              refine Tr.cond (b := false) kr (fun h => nomatch h) (fun _ => ?_)
              refine Tr.skip ?_
              show Tr _ _ _ _ _
              refine Tr.rs ?_
              refine LAt.runU tOk 1 kr ?_
              refine LAt.doneM 3946 1832 kr ?_
              refine Tr.rs ?_
              refine LAt.runU tOk 2 kr ?_
              obtain ⟨r11, er11, H⟩ := bind_some H
              refine LAt.callL tOk [.lend, .rd] (f := 40) (av := #[.tmp 42, .tmp 43]) (ats := #[61, 3]) (d := (some 44)) (ty := 3) (g := none) kr kr kr [] (laws_markBridge n r5 1 r11 er11) kr (.inl rfl) ?_
              refine LAt.runU tOk 1 kr ?_
              refine LAt.doneM 3434 1320 kr ?_
              refine Tr.seq ?_
              refine Tr.rs ?_
              refine LAt.runU tOk 3 kr ?_
              refine LAt.to ⟨82, 0, [sB 47 (decide (r11.1 < 0)), sB 46 (decide (r11.1 < 0)), sI 45 r11.1, sI 11 r11.1, sA 10 10 11 0, sA 8 8 11 0, sB 6 false, sA 5 5 5 0, sA 3 3 11 0, sI 1 x1], [(10, (Bridge.row r7)), (8, (Bridge.row r4)), (5, (Vec.row x2)), (3, (CV.frzRow (Bridge.row x0)))]⟩ kr ?_
              cases h4 : (decide (r11.1 < 0))
              · have H := bifF h4 H
                refine LAt.runU tOk 2 kr ?_
                obtain ⟨r12, er12, H⟩ := bind_some H
                refine LAt.callU tOk [.rd, .rd] (f := 39) (av := #[.tmp 48, .tmp 49]) (ats := #[61, 61]) (d := (some 50)) (ty := 4) (g := (some (2, false))) kr kr kr [.box 10, .box 8] (laws_eqBridge n r7 r4 r12 er12) kr (.inr (rets_cons (mine_cons mine_lit mine_nil) rets_nil)) ?_
                refine LAt.runU tOk 2 kr ?_
                refine LAt.doneM 4503599627371882 1320 kr ?_
                refine Tr.to ⟨82, 0, [sB 52 (!r12), sA 10 10 11 0, sA 8 8 11 0, sB 6 false, sA 5 5 5 0, sA 3 3 11 0, sI 1 x1], [(10, (Bridge.row r7)), (8, (Bridge.row r4)), (5, (Vec.row x2)), (3, (CV.frzRow (Bridge.row x0)))]⟩ kr ?_
                cases h5 : (!r12)
                · have H := bifF h5 H
                  refine Tr.cond (b := false) kr (fun h => nomatch h) (fun _ => ?_)
                  refine Tr.skip ?_
                  show Tr _ _ _ _ _
                  refine Tr.rs ?_
                  refine LAt.runU tOk 1 kr ?_
                  refine LAt.doneM 5482 1320 kr ?_
                  refine Tr.rs ?_
                  refine LAt.runU tOk 2 kr ?_
                  obtain ⟨r13, er13, H⟩ := bind_some H
                  refine LAt.callL tOk [.lend, .rd] (f := 40) (av := #[.tmp 53, .tmp 54]) (ats := #[61, 3]) (d := (some 55)) (ty := 3) (g := none) kr kr kr [] (laws_markBridge n r7 1 r13 er13) kr (.inl rfl) ?_
                  refine LAt.runU tOk 1 kr ?_
                  refine LAt.doneM 5482 1320 kr ?_
                  refine Tr.rs ?_
                  refine LAt.runU tOk 1 kr ?_
                  refine LAt.doneM 13674 1320 kr ?_
                  refine Tr.rs ?_
                  refine LAt.runU tOk 2 kr ?_
                  obtain ⟨r14, er14, H⟩ := bind_some H
                  refine LAt.callU tOk [.rd, .rd] (f := 41) (av := #[.tmp 56, .tmp 57]) (ats := #[61, 3]) (d := (some 58)) (ty := 3) (g := none) kr kr kr [.box 10] (laws_heldBridge n r13.2 1 r14 er14) kr (.inr (rets_cons (mine_cons mine_lit mine_nil) rets_nil)) ?_
                  refine LAt.runU tOk 1 kr ?_
                  refine LAt.doneM 13674 1320 kr ?_
                  refine Tr.seq ?_
                  refine Tr.rs ?_
                  refine LAt.runU tOk 2 kr ?_
                  refine LAt.doneM 1152921504606860650 1320 kr ?_
                  refine Tr.to ⟨82, 0, [sB 60 (decide (r14 < 0)), sI 13 r14, sI 12 r13.1, sA 10 10 11 0, sA 8 8 11 0, sB 6 false, sA 5 5 5 0, sA 3 3 11 0, sI 1 x1], [(10, (Bridge.row r13.2)), (8, (Bridge.row r4)), (5, (Vec.row x2)), (3, (CV.frzRow (Bridge.row x0)))]⟩ kr ?_
                  cases h6 : (decide (r14 < 0))
                  · have H := bifF h6 H
                    refine Tr.cond (b := false) kr (fun h => nomatch h) (fun _ => ?_)
                    refine Tr.skip ?_
                    show Tr _ _ _ _ _
                    refine Tr.seq ?_
                    refine Tr.rs ?_
                    refine LAt.runU tOk 3 kr ?_
                    refine LAt.doneM 9223372036854789482 1320 kr ?_
                    refine Tr.to ⟨82, 0, [sB 63 (r14 != r13.1), sI 13 r14, sI 12 r13.1, sA 10 10 11 0, sA 8 8 11 0, sB 6 false, sA 5 5 5 0, sA 3 3 11 0, sI 1 x1], [(10, (Bridge.row r13.2)), (8, (Bridge.row r4)), (5, (Vec.row x2)), (3, (CV.frzRow (Bridge.row x0)))]⟩ kr ?_
                    cases h7 : (r14 != r13.1)
                    · have H := bifF h7 H
                      refine Tr.cond (b := false) kr (fun h => nomatch h) (fun _ => ?_)
                      refine Tr.skip ?_
                      show Tr _ _ _ _ _
                      obtain ⟨r15, er15, H⟩ := bind_some H
                      obtain ⟨r16, er16, H⟩ := bind_some H
                      obtain ⟨r17, er17, H⟩ := bind_some H
                      refine Tr.draws mixed 8 kr ⟨82, 0, [sA 14 14 11 0, sI 13 r14, sI 12 r13.1, sA 10 10 11 0, sA 8 8 11 0, sB 6 false], [(14, (Bridge.row r17)), (10, (Bridge.row r13.2)), (8, (Bridge.row r4))]⟩ (fun cx => ?_) ?_
                      · refine AT.runU tOk [(0, [1, 4, 5, 7]), (2, []), (3, [4, 5, 7])] 5 [⟨[4, 5, 7], 68, 5, 67⟩, ⟨[1, 4, 5, 7], 53, 3, 64⟩] [3, 2, 0] rfl kr (fun cx => ?_)
                        refine AT.big2 tOk 1 6 kr (And.intro kr ?_) (And.intro kr ?_)
                        · refine LAt.callU tOk [.rd] (f := 37) (av := #[.tmp 64]) (ats := #[53]) (d := (some 65)) (ty := 61) (g := none) kr kr kr [] (laws_toBridge n x0 r15 er15) kr (.inl rfl) ?_
                          refine LAt.fin kr (And.intro (And.intro kr kr) ?_)
                          refine AT.big2 tOk 4 6 kr (And.intro kr ?_) (And.intro kr ?_)
                          · refine LAt.callU tOk [.rd] (f := 43) (av := #[.tmp 67]) (ats := #[68]) (d := (some 68)) (ty := 70) (g := none) kr kr kr [] (laws_toVec n x2 r16 er16) kr (.inl rfl) ?_
                            refine LAt.fin kr (And.intro (And.intro kr kr) ?_)
                            refine AT.big2 tOk 5 6 kr (And.intro kr ?_) (And.intro kr ?_)
                            · refine LAt.callU tOk [.rd, .rd, .rd] (f := 44) (av := #[.tmp 65, .tmp 66, .tmp 68]) (ats := #[61, 3, 70]) (d := (some 69)) (ty := 61) (g := none) kr kr kr [] (impl_HearVec n r15 x1 r16 r17 er17) kr (.inl rfl) ?_
                              refine LAt.fin kr (And.intro (And.intro kr kr) ?_)
                              refine AT.big1 tOk 6 kr kr ?_
                              refine LAt.runU tOk 1 kr ?_
                              refine LAt.fin kr (And.intro (And.intro kr kr) ?_)
                              refine AT.big1 tOk 7 kr kr ?_
                              refine LAt.runU tOk 1 kr ?_
                              refine LAt.fin kr (And.intro (And.intro kr kr) ?_)
                              exact AT.done [14, 13, 12, 10, 8, 6] [14, 10, 8] _ kr kr rfl
                            · refine LAt.runU tOk 1 kr ?_
                              refine LAt.fin kr (And.intro (And.intro kr kr) ?_)
                              refine AT.big1 tOk 5 kr kr ?_
                              refine LAt.callU tOk [.rd, .rd, .rd] (f := 44) (av := #[.tmp 65, .tmp 66, .tmp 68]) (ats := #[61, 3, 70]) (d := (some 69)) (ty := 61) (g := none) kr kr kr [] (impl_HearVec n r15 x1 r16 r17 er17) kr (.inl rfl) ?_
                              refine LAt.fin kr (And.intro (And.intro kr kr) ?_)
                              refine AT.big1 tOk 7 kr kr ?_
                              refine LAt.runU tOk 1 kr ?_
                              refine LAt.fin kr (And.intro (And.intro kr kr) ?_)
                              exact AT.done [14, 13, 12, 10, 8, 6] [14, 10, 8] _ kr kr rfl
                          · refine LAt.runU tOk 1 kr ?_
                            refine LAt.fin kr (And.intro (And.intro kr kr) ?_)
                            refine AT.big1 tOk 4 kr kr ?_
                            refine LAt.callU tOk [.rd] (f := 43) (av := #[.tmp 67]) (ats := #[68]) (d := (some 68)) (ty := 70) (g := none) kr kr kr [] (laws_toVec n x2 r16 er16) kr (.inl rfl) ?_
                            refine LAt.fin kr (And.intro (And.intro kr kr) ?_)
                            refine AT.big1 tOk 5 kr kr ?_
                            refine LAt.callU tOk [.rd, .rd, .rd] (f := 44) (av := #[.tmp 65, .tmp 66, .tmp 68]) (ats := #[61, 3, 70]) (d := (some 69)) (ty := 61) (g := none) kr kr kr [] (impl_HearVec n r15 x1 r16 r17 er17) kr (.inl rfl) ?_
                            refine LAt.fin kr (And.intro (And.intro kr kr) ?_)
                            refine AT.big1 tOk 7 kr kr ?_
                            refine LAt.runU tOk 1 kr ?_
                            refine LAt.fin kr (And.intro (And.intro kr kr) ?_)
                            exact AT.done [14, 13, 12, 10, 8, 6] [14, 10, 8] _ kr kr rfl
                        · refine LAt.runU tOk 1 kr ?_
                          refine LAt.fin kr (And.intro (And.intro kr kr) ?_)
                          refine AT.big1 tOk 1 kr kr ?_
                          refine LAt.callU tOk [.rd] (f := 37) (av := #[.tmp 64]) (ats := #[53]) (d := (some 65)) (ty := 61) (g := none) kr kr kr [] (laws_toBridge n x0 r15 er15) kr (.inl rfl) ?_
                          refine LAt.fin kr (And.intro (And.intro kr kr) ?_)
                          refine AT.big1 tOk 4 kr kr ?_
                          refine LAt.callU tOk [.rd] (f := 43) (av := #[.tmp 67]) (ats := #[68]) (d := (some 68)) (ty := 70) (g := none) kr kr kr [] (laws_toVec n x2 r16 er16) kr (.inl rfl) ?_
                          refine LAt.fin kr (And.intro (And.intro kr kr) ?_)
                          refine AT.big1 tOk 5 kr kr ?_
                          refine LAt.callU tOk [.rd, .rd, .rd] (f := 44) (av := #[.tmp 65, .tmp 66, .tmp 68]) (ats := #[61, 3, 70]) (d := (some 69)) (ty := 61) (g := none) kr kr kr [] (impl_HearVec n r15 x1 r16 r17 er17) kr (.inl rfl) ?_
                          refine LAt.fin kr (And.intro (And.intro kr kr) ?_)
                          refine AT.big1 tOk 7 kr kr ?_
                          refine LAt.runU tOk 1 kr ?_
                          refine LAt.fin kr (And.intro (And.intro kr kr) ?_)
                          exact AT.done [14, 13, 12, 10, 8, 6] [14, 10, 8] _ kr kr rfl
                      · refine Tr.seq ?_
                        refine Tr.rs ?_
                        refine LAt.runU tOk 2 kr ?_
                        obtain ⟨r18, er18, H⟩ := bind_some H
                        refine LAt.callU tOk [.rd, .rd] (f := 39) (av := #[.tmp 70, .tmp 71]) (ats := #[61, 61]) (d := (some 72)) (ty := 4) (g := none) kr kr kr [.box 14, .box 8] (laws_eqBridge n r17 r4 r18 er18) kr (.inr (rets_cons (mine_cons mine_lit mine_nil) rets_nil)) ?_
                        refine LAt.runU tOk 1 kr ?_
                        refine LAt.doneM 9444732965739290440768 1024 kr ?_
                        refine Tr.to ⟨82, 0, [sB 73 (!r18), sI 13 r14, sI 12 r13.1, sA 10 10 11 0, sB 6 false], [(10, (Bridge.row r13.2))]⟩ kr ?_
                        cases h8 : (!r18)
                        · have H := bifF h8 H
                          refine Tr.cond (b := false) kr (fun h => nomatch h) (fun _ => ?_)
                          refine Tr.skip ?_
                          show Tr _ _ _ _ _
                          refine Tr.rs ?_
                          refine LAt.runU tOk 1 kr ?_
                          refine LAt.doneM 13376 1024 kr ?_
                          refine Tr.rs ?_
                          refine LAt.runU tOk 2 kr ?_
                          obtain ⟨r19, er19, H⟩ := bind_some H
                          refine LAt.callU tOk [.rd, .rd] (f := 41) (av := #[.tmp 74, .tmp 75]) (ats := #[61, 3]) (d := (some 76)) (ty := 3) (g := none) kr kr kr [.box 10] (laws_heldBridge n r13.2 1 r19 er19) kr (.inr (rets_cons (mine_cons mine_lit mine_nil) rets_nil)) ?_
                          refine LAt.runU tOk 1 kr ?_
                          refine LAt.doneM 12352 0 kr ?_
                          refine Tr.seq ?_
                          refine Tr.rs ?_
                          refine LAt.runU tOk 2 kr ?_
                          refine LAt.doneM 302231454903657293688896 0 kr ?_
                          refine Tr.to ⟨82, 0, [sB 78 (decide (r19 < 0)), sI 13 r19, sI 12 r13.1, sB 6 false], []⟩ kr ?_
                          cases h9 : (decide (r19 < 0))
                          · have H := bifF h9 H
                            refine Tr.cond (b := false) kr (fun h => nomatch h) (fun _ => ?_)
                            refine Tr.skip ?_
                            show Tr _ _ _ _ _
                            refine Tr.seq ?_
                            refine Tr.rs ?_
                            refine LAt.runU tOk 3 kr ?_
                            refine LAt.doneM 2417851639229258349412416 0 kr ?_
                            refine Tr.to ⟨82, 0, [sB 81 (r19 != r13.1), sB 6 false], []⟩ kr ?_
                            cases h10 : (r19 != r13.1)
                            · have H := bifF h10 H
                              refine Tr.cond (b := false) kr (fun h => nomatch h) (fun _ => ?_)
                              refine Tr.skip ?_
                              show Tr _ _ _ _ _
                              refine Tr.rs ?_
                              refine LAt.runU tOk 1 kr ?_
                              refine LAt.doneM 64 0 kr ?_
                              refine Tr.ret ?_
                              have H := Option.some.inj H
                              subst H
                              exact Fin.of _ [(false, [cB true])] kr rfl rfl
                            · have H := bifT h10 H
                              refine Tr.cond (b := true) kr (fun _ => ?_) (fun h => nomatch h)
                              refine Tr.rs ?_
                              refine LAt.runU tOk 1 kr ?_
                              refine LAt.doneM 64 0 kr ?_
                              refine Tr.ret ?_
                              have H := Option.some.inj H
                              subst H
                              exact Fin.of _ [(false, [cB false])] kr rfl rfl
                          · have H := bifT h9 H
                            refine Tr.cond (b := true) kr (fun _ => ?_) (fun h => nomatch h)
                            refine Tr.rs ?_
                            refine LAt.runU tOk 1 kr ?_
                            refine LAt.doneM 12352 0 kr ?_
                            refine Tr.ret ?_
                            have H := Option.some.inj H
                            subst H
                            exact Fin.of _ [(false, [cB false])] kr rfl rfl
                        · have H := bifT h8 H
                          refine Tr.cond (b := true) kr (fun _ => ?_) (fun h => nomatch h)
                          refine Tr.rs ?_
                          refine LAt.runU tOk 1 kr ?_
                          refine LAt.doneM 13376 1024 kr ?_
                          refine Tr.ret ?_
                          have H := Option.some.inj H
                          subst H
                          exact Fin.of _ [(false, [cB false])] kr rfl rfl
                    · have H := bifT h7 H
                      refine Tr.cond (b := true) kr (fun _ => ?_) (fun h => nomatch h)
                      refine Tr.rs ?_
                      refine LAt.runU tOk 1 kr ?_
                      refine LAt.doneM 13674 1320 kr ?_
                      refine Tr.ret ?_
                      have H := Option.some.inj H
                      subst H
                      exact Fin.of _ [(false, [cB false])] kr rfl rfl
                  · have H := bifT h6 H
                    refine Tr.cond (b := true) kr (fun _ => ?_) (fun h => nomatch h)
                    refine Tr.rs ?_
                    refine LAt.runU tOk 1 kr ?_
                    refine LAt.doneM 13674 1320 kr ?_
                    refine Tr.ret ?_
                    have H := Option.some.inj H
                    subst H
                    exact Fin.of _ [(false, [cB false])] kr rfl rfl
                · have H := bifT h5 H
                  refine Tr.cond (b := true) kr (fun _ => ?_) (fun h => nomatch h)
                  refine Tr.rs ?_
                  refine LAt.runU tOk 1 kr ?_
                  refine LAt.doneM 1386 1320 kr ?_
                  refine Tr.ret ?_
                  have H := Option.some.inj H
                  subst H
                  exact Fin.of _ [(false, [cB false])] kr rfl rfl
              · have H := bifT h4 H
                refine LAt.runU tOk 5 kr ?_
                refine LAt.doneM 4503599627371882 1320 kr ?_
                refine Tr.cond (b := true) kr (fun _ => ?_) (fun h => nomatch h)
                refine Tr.rs ?_
                refine LAt.runU tOk 1 kr ?_
                refine LAt.doneM 1386 1320 kr ?_
                refine Tr.ret ?_
                have H := Option.some.inj H
                subst H
                exact Fin.of _ [(false, [cB false])] kr rfl rfl
            · have H := bifT h3 H
              refine Tr.cond (b := true) kr (fun _ => ?_) (fun h => nomatch h)
              refine Tr.rs ?_
              refine LAt.runU tOk 1 kr ?_
              refine LAt.doneM 1898 1832 kr ?_
              refine Tr.ret ?_
              have H := Option.some.inj H
              subst H
              exact Fin.of _ [(false, [cB false])] kr rfl rfl
        · have H := bifT h2 H
          refine Tr.cond (b := true) kr (fun _ => ?_) (fun h => nomatch h)
          refine Tr.rs ?_
          refine LAt.runU tOk 1 kr ?_
          refine LAt.doneM 1898 1832 kr ?_
          refine Tr.ret ?_
          have H := Option.some.inj H
          subst H
          exact Fin.of _ [(false, [cB false])] kr rfl rfl
  · have H := bifT h1 H
    refine Tr.cond (b := true) kr (fun _ => ?_) (fun h => nomatch h)
    refine Tr.rs ?_
    refine LAt.runU tOk 1 kr ?_
    refine LAt.doneM 106 40 kr ?_
    refine Tr.ret ?_
    have H := Option.some.inj H
    subst H
    exact Fin.of _ [(false, [cB true])] kr rfl rfl
end Go.Proofs.Ytjdedhklbdkeoaa.Tw
