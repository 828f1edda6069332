/- Functions of the program, over trees. -/
import Derived.Test.YtjdedhklbdkeoaaProg
import Derived.Test.YtjdedhklbdkeoaaTlRule
import Derived.Test.YtjdedhklbdkeoaaTlU5
import Derived.Test.YtjdedhklbdkeoaaTwHV0
import Derived.WalkKit
set_option linter.unusedVariables false
set_option linter.unusedSimpArgs false
set_option maxRecDepth 100000
set_option maxHeartbeats 1000000
namespace Go.Proofs.Ytjdedhklbdkeoaa.Tw
open Go Go.TL Go.Proofs


def spec_BestVec_J1 (n : Nat) (x0 : Int) (y11 : Int) (y12 : Int) (y13 : Int) (y14 : Int) : Option (Vec × Int) :=
  (some ((⟨y12, y13, y14, x0, 0⟩ : Vec), y11))
def spec_BestVec_J3 (n : Nat) (k : (Int × Int × Int × Int × Int × Int × Int × Int × Int × Int → Option ((Int × Int × Int × Int) ⊕ (Vec × Int)))) (r20 : Vec × Bool) (y1 : Int) (y10 : Int) (y2 : Int) (y3 : Int) (y4 : Int) (y5 : Int) (y6 : Int) (y7 : Int) (y8 : Int) (y9 : Int) (y21 : Bool) (y22 : Bool) (y23 : Bool) (y24 : Bool) (y25 : Bool) (y26 : Bool) (y27 : Bool) : Option ((Int × Int × Int × Int) ⊕ (Vec × Int)) :=
  (bif y21 then (k ((IntKind.wrap .i64 (y1 + 1)), y1, r20.1.Root, r20.1.Cost, r20.1.Hops, r20.1.Bridge, r20.1.Port, r20.1.Root, r20.1.Cost, r20.1.Hops)) else (k ((IntKind.wrap .i64 (y1 + 1)), y2, y3, y4, y5, y6, y7, y8, y9, y10)))
def spec_BestVec_L2 (n : Nat) : Nat → Int → (List Pt) → Int → Int → Int → Int → Int → Int → Int → Int → Int → Int → Option ((Int × Int × Int × Int) ⊕ (Vec × Int))
  | 0, _, _, _, _, _, _, _, _, _, _, _, _ => none
  | mo15 + 1, x0, x1, y1, y2, y3, y4, y5, y6, y7, y8, y9, y10 => (bif (decide (y1 < (x1.length : Int))) then ((idx x1 y1).bind fun v16 => (bif (!v16.Up) then (spec_BestVec_L2 n mo15 x0 x1 (IntKind.wrap .i64 (y1 + 1)) y2 y3 y4 y5 y6 y7 y8 y9 y10) else ((idx x1 y1).bind fun v17 => (bif (!v17.Has) then (spec_BestVec_L2 n mo15 x0 x1 (IntKind.wrap .i64 (y1 + 1)) y2 y3 y4 y5 y6 y7 y8 y9 y10) else ((idx x1 y1).bind fun v18 => ((idx x1 y1).bind fun v19 => ((spec_StepVecF n v18.Heard v19.Cost).bind fun r20 => (bif r20.2 then (bif (decide (r20.1.Root < x0)) then (bif (decide (y2 < 0)) then (spec_BestVec_J3 n (fun v => spec_BestVec_L2 n mo15 x0 x1 v.1 v.2.1 v.2.2.1 v.2.2.2.1 v.2.2.2.2.1 v.2.2.2.2.2.1 v.2.2.2.2.2.2.1 v.2.2.2.2.2.2.2.1 v.2.2.2.2.2.2.2.2.1 v.2.2.2.2.2.2.2.2.2) r20 y1 y10 y2 y3 y4 y5 y6 y7 y8 y9 true true true true true true true) else ((spec_LessVecF n r20.1 (⟨y3, y4, y5, y6, y7⟩ : Vec)).bind fun r28 => (spec_BestVec_J3 n (fun v => spec_BestVec_L2 n mo15 x0 x1 v.1 v.2.1 v.2.2.1 v.2.2.2.1 v.2.2.2.2.1 v.2.2.2.2.2.1 v.2.2.2.2.2.2.1 v.2.2.2.2.2.2.2.1 v.2.2.2.2.2.2.2.2.1 v.2.2.2.2.2.2.2.2.2) r20 y1 y10 y2 y3 y4 y5 y6 y7 y8 y9 r28 true true true true true true))) else (spec_BestVec_J3 n (fun v => spec_BestVec_L2 n mo15 x0 x1 v.1 v.2.1 v.2.2.1 v.2.2.2.1 v.2.2.2.2.1 v.2.2.2.2.2.1 v.2.2.2.2.2.2.1 v.2.2.2.2.2.2.2.1 v.2.2.2.2.2.2.2.2.1 v.2.2.2.2.2.2.2.2.2) r20 y1 y10 y2 y3 y4 y5 y6 y7 y8 y9 false false false true true true true)) else (spec_BestVec_J3 n (fun v => spec_BestVec_L2 n mo15 x0 x1 v.1 v.2.1 v.2.2.1 v.2.2.2.1 v.2.2.2.2.1 v.2.2.2.2.2.1 v.2.2.2.2.2.2.1 v.2.2.2.2.2.2.2.1 v.2.2.2.2.2.2.2.2.1 v.2.2.2.2.2.2.2.2.2) r20 y1 y10 y2 y3 y4 y5 y6 y7 y8 y9 false false false false false false false))))))))) else (some (Sum.inl (y2, y8, y9, y10))))
def spec_BestVecF (n : Nat) (x0 : Int) (x1 : (List Pt)) : Option (Vec × Int) :=
  ((spec_BestVec_L2 n n x0 x1 0 (-1) 0 0 0 0 0 x0 0 0).bind fun o => match o with | .inl (y11, y12, y13, y14) => (spec_BestVec_J1 n x0 y11 y12 y13 y14) | .inr r => some r)
/-- loop.example/g00326/spec.BestVec -/
theorem spec_BestVec (n : Nat) (x0 : Int) (x1 : (List Pt)) (r : Vec × Int) (H : spec_BestVecF n x0 x1 = some r) : LCall Try.prog 185 [.val false [.lit (.int .i64 x0)], .val false [.sl false 8 (CV.frzEs (x1.map Pt.row))]] [.val true (Vec.row r.1), .val false [.lit (.int .i64 r.2)]] [] := by
  refine LCall.of_body tOk Try.func185 rfl (c := (.seq (.region 0 (rg Try.f185 0) false) (.seq (.region 1 (rg Try.f185 1) false) (.seq (.region 2 (rg Try.f185 2) false) (.seq (.region 3 (rg Try.f185 3) false) (.seq (.seq (.region 4 (rg Try.f185 4) false) (.block 0 (.loop (.seq (.seq (.region 5 (rg Try.f185 5) false) (.cond (.tmp 19) .skip (.exit 0))) (.seq (.block 1 (.seq (.seq (.region 7 (rg Try.f185 7) false) (.cond (.tmp 35) (.exit 1) .skip)) (.seq (.region 8 (rg Try.f185 8) true) (.seq (.region 9 (rg Try.f185 9) false) (.cond (.tmp 65) (.seq (.region 10 (rg Try.f185 10) false) (.seq (.region 11 (rg Try.f185 11) false) (.region 12 (rg Try.f185 12) false))) .skip))))) (.region 6 (rg Try.f185 6) false)))))) (.seq (.region 13 (rg Try.f185 13) false) .ret))))))) kr (Nat.le_of_ble_eq_true kr) 0 (rs := [.cell 4 70, .tmp 5]) rfl [] .nil [(true, (Vec.row r.1)), (false, [.lit (.int .i64 r.2)])] [] [] fun cx => ?_
  show Tr _ _ _ ⟨78, 0, [sI 0 x0, sC 1 (cF 8 x1 Pt.row)], []⟩ _
  unfold spec_BestVecF at H
  refine Tr.rs ?_
  refine LAt.runU tOk 2 kr ?_
  refine LAt.doneM 51 16 kr ?_
  refine Tr.rs ?_
  refine LAt.runU tOk 5 kr ?_
  refine LAt.doneM 115 80 kr ?_
  refine Tr.rs ?_
  refine LAt.runU tOk 3 kr ?_
  refine LAt.doneM 243 208 kr ?_
  refine Tr.rs ?_
  refine LAt.runU tOk 1 kr ?_
  refine LAt.doneM 499 208 kr ?_
  refine Tr.seq ?_
  refine Tr.rs ?_
  refine LAt.runU tOk 1 kr ?_
  refine LAt.doneM 1011 208 kr ?_
  obtain ⟨o15, eo15, Ho15⟩ := bind_some H
  clear H
  refine Tr.mid (ι := Int × Int × Int × Int) (fun v => ⟨78, 0, [sI 8 v.1, sA 6 6 5 0, sI 5 0, sA 4 4 5 0], [(6, [cI v.2.1, cI v.2.2.1, cI v.2.2.2, cI x0, cI 0]), (4, [cI 0, cI 0, cI 0, cI 0, cI 0])]⟩) (fun v => spec_BestVec_J1 n x0 v.1 v.2.1 v.2.2.1 v.2.2.2 = some r) ?_ ?_
  · refine Tr.block ?_
    refine Tr.loop (ι := Nat × (Int × Int × Int × Int × Int × Int × Int × Int × Int × Int)) (fun v => ⟨78, 0, [sI 9 v.2.1, sI 8 v.2.2.1, sA 7 7 5 0, sA 6 6 5 0, sI 5 0, sA 4 4 5 0, sI 0 x0, sC 1 (cF 8 x1 Pt.row)], [(7, [cI v.2.2.2.1, cI v.2.2.2.2.1, cI v.2.2.2.2.2.1, cI v.2.2.2.2.2.2.1, cI v.2.2.2.2.2.2.2.1]), (6, [cI v.2.2.2.2.2.2.2.2.1, cI v.2.2.2.2.2.2.2.2.2.1, cI v.2.2.2.2.2.2.2.2.2.2, cI x0, cI 0]), (4, [cI 0, cI 0, cI 0, cI 0, cI 0])]⟩) (fun v => spec_BestVec_L2 n v.1 x0 x1 v.2.1 v.2.2.1 v.2.2.2.1 v.2.2.2.2.1 v.2.2.2.2.2.1 v.2.2.2.2.2.2.1 v.2.2.2.2.2.2.2.1 v.2.2.2.2.2.2.2.2.1 v.2.2.2.2.2.2.2.2.2.1 v.2.2.2.2.2.2.2.2.2.2 = some o15) (fun v => v.1) (n, (0, (-1), 0, 0, 0, 0, 0, x0, 0, 0)) eo15 (St.sub_of [9, 8, 7, 6, 5, 4, 0, 1] [7, 6, 4] kr) ?_
    rintro ⟨mo15, y1, y2, y3, y4, y5, y6, y7, y8, y9, y10⟩ H
    have H : spec_BestVec_L2 n mo15 x0 x1 y1 y2 y3 y4 y5 y6 y7 y8 y9 y10 = some o15 := H
    obtain _ | mo15 := mo15
    · cases (show (none : Option _) = some o15 from H)
    · rw [spec_BestVec_L2] at H
      refine Tr.seq ?_
      refine Tr.rs ?_
      refine LAt.runU tOk 2 kr ?_
      refine LAt.lenE tOk (t := 55) (ty := 3) (e := 114) (x := (.tmp 17)) (d := 18) (g := none) ⟨(.slot 17), [], 0, false, 8, (CV.frzEs (x1.map Pt.row))⟩ (x1).length _ kr kr kr kr kr (frz_len _ _) rfl ?_
      refine LAt.runU tOk 1 kr ?_
      refine LAt.doneM 984051 208 kr ?_
      refine Tr.to ⟨78, 0, [sB 19 (decide (y1 < (x1.length : Int))), sI 18 (x1.length : Int), sC 17 (cF 8 x1 Pt.row), sI 16 y1, sI 9 y1, sI 8 y2, sA 7 7 5 0, sA 6 6 5 0, sI 5 0, sA 4 4 5 0, sI 0 x0, sC 1 (cF 8 x1 Pt.row)], [(7, [cI y3, cI y4, cI y5, cI y6, cI y7]), (6, [cI y8, cI y9, cI y10, cI x0, cI 0]), (4, [cI 0, cI 0, cI 0, cI 0, cI 0])]⟩ kr ?_
      cases h1 : (decide (y1 < (x1.length : Int)))
      · have H := bifF h1 H
        refine Tr.cond (b := false) kr (fun h => nomatch h) (fun _ => ?_)
        refine Tr.exit ?_
        refine And.intro (fun _ => ?_) (fun h => absurd rfl h)
        have H := Option.some.inj H
        subst H
        have H := Ho15
        dsimp only at H
        exact Exists.intro (y2, y8, y9, y10) (And.intro H (St.sub_of [8, 6, 5, 4] [6, 4] kr))
      · have H := bifT h1 H
        refine Tr.cond (b := true) kr (fun _ => ?_) (fun h => nomatch h)
        refine Tr.skip ?_
        show Tr _ _ _ _ _
        refine Tr.seq ?_
        refine Tr.block ?_
        refine Tr.seq ?_
        refine Tr.rs ?_
        refine LAt.runU tOk 2 kr ?_
        obtain ⟨v16, ev16, H⟩ := bind_some H
        refine LAt.indexF tOk (t := 55) (ty := 0) (x := (.tmp 22)) (y := (.tmp 23)) (d := 24) (g := none) ⟨(.slot 22), [], 0, false, 8, (CV.frzEs (x1.map Pt.row))⟩ y1 (Pt.row v16) _ kr kr kr kr rfl (idx_isF ev16) rfl ?_
        refine LAt.runU tOk 4 kr ?_
        refine LAt.to ⟨78, 0, [sB 28 (!v16.Up), sB 27 (!v16.Up), sB 26 v16.Up, (25, .fad ((Pt.row v16))), (24, .fad ((Pt.row v16))), sI 23 y1, sC 22 (cF 8 x1 Pt.row), sB 19 true, sI 18 (x1.length : Int), sC 17 (cF 8 x1 Pt.row), sI 16 y1, sI 9 y1, sI 8 y2, sA 7 7 5 0, sA 6 6 5 0, sI 5 0, sA 4 4 5 0, sI 0 x0, sC 1 (cF 8 x1 Pt.row)], [(7, [cI y3, cI y4, cI y5, cI y6, cI y7]), (6, [cI y8, cI y9, cI y10, cI x0, cI 0]), (4, [cI 0, cI 0, cI 0, cI 0, cI 0])]⟩ kr ?_
        cases h2 : (!v16.Up)
        · have H := bifF h2 H
          refine LAt.runU tOk 2 kr ?_
          obtain ⟨v17, ev17, H⟩ := bind_some H
          refine LAt.indexF tOk (t := 55) (ty := 0) (x := (.tmp 29)) (y := (.tmp 30)) (d := 31) (g := (some (6, false))) ⟨(.slot 29), [], 0, false, 8, (CV.frzEs (x1.map Pt.row))⟩ y1 (Pt.row v17) _ kr kr kr kr rfl (idx_isF ev17) rfl ?_
          refine LAt.runU tOk 4 kr ?_
          refine LAt.doneM 68716266483 208 kr ?_
          refine Tr.to ⟨78, 0, [sB 35 (!v17.Has), sB 34 (!v17.Has), sB 33 v17.Has, (32, .fad (((Pt.row v17).drop 2))), (31, .fad ((Pt.row v17))), sI 30 y1, sC 29 (cF 8 x1 Pt.row), sB 28 false, sB 27 false, sB 26 v16.Up, (25, .fad ((Pt.row v16))), (24, .fad ((Pt.row v16))), sI 23 y1, sC 22 (cF 8 x1 Pt.row), sB 19 true, sI 18 (x1.length : Int), sC 17 (cF 8 x1 Pt.row), sI 16 y1, sI 9 y1, sI 8 y2, sA 7 7 5 0, sA 6 6 5 0, sI 5 0, sA 4 4 5 0, sI 0 x0, sC 1 (cF 8 x1 Pt.row)], [(7, [cI y3, cI y4, cI y5, cI y6, cI y7]), (6, [cI y8, cI y9, cI y10, cI x0, cI 0]), (4, [cI 0, cI 0, cI 0, cI 0, cI 0])]⟩ kr ?_
          cases h3 : (!v17.Has)
          · have H := bifF h3 H
            refine Tr.cond (b := false) kr (fun h => nomatch h) (fun _ => ?_)
            refine Tr.skip ?_
            show Tr _ _ _ _ _
            obtain ⟨v18, ev18, H⟩ := bind_some H
            obtain ⟨v19, ev19, H⟩ := bind_some H
            obtain ⟨r20, er20, H⟩ := bind_some H
            refine Tr.draws mixed 17 kr ⟨78, 0, [sB 11 r20.2, sA 10 10 5 0, sB 49 r20.2, (36, .tup [(true, [.dead, .dead, .dead, .dead, .dead]), (false, [.dead])]), sV 48 (Vec.row r20.1), sI 46 v19.Cost, (45, .fad (((Pt.row v19).drop 1))), (44, .fad ((Pt.row v19))), sI 43 y1, sC 42 (cF 8 x1 Pt.row), sV 41 ((Pt.row v18).drop 3), (40, .fad (((Pt.row v18).drop 3))), (39, .fad ((Pt.row v18))), sI 38 y1, sC 37 (cF 8 x1 Pt.row), sB 35 false, sB 34 false, sB 33 v17.Has, (32, .fad (((Pt.row v17).drop 2))), (31, .fad ((Pt.row v17))), sI 30 y1, sC 29 (cF 8 x1 Pt.row), sB 28 false, sB 27 false, sB 26 v16.Up, (25, .fad ((Pt.row v16))), (24, .fad ((Pt.row v16))), sI 23 y1, sC 22 (cF 8 x1 Pt.row), sB 19 true, sI 18 (x1.length : Int), sC 17 (cF 8 x1 Pt.row), sI 16 y1, sI 9 y1, sI 8 y2, sA 7 7 5 0, sA 6 6 5 0, sI 5 0, sA 4 4 5 0, sI 0 x0, sC 1 (cF 8 x1 Pt.row)], [(10, (Vec.row r20.1)), (7, [cI y3, cI y4, cI y5, cI y6, cI y7]), (6, [cI y8, cI y9, cI y10, cI x0, cI 0]), (4, [cI 0, cI 0, cI 0, cI 0, cI 0])]⟩ (fun cx => ?_) ?_
            · refine AT.runU tOk [(0, []), (1, [])] 15 [] [1, 0] rfl kr (fun cx => ?_)
              refine AT.indexF tOk 2 (t := 55) (ty := 0) (x := (.tmp 37)) (y := (.tmp 38)) (d := 39) (g := none) ⟨(.slot 37), [], 0, false, 8, (CV.frzEs (x1.map Pt.row))⟩ y1 (Pt.row v18) _ kr kr kr kr kr kr rfl (idx_isF ev18) rfl (fun cx => ?_)
              refine AT.runU tOk [(3, []), (4, []), (5, []), (6, [])] 10 [] [6, 5, 4, 3, 2, 1, 0] rfl kr (fun cx => ?_)
              refine AT.indexF tOk 7 (t := 55) (ty := 0) (x := (.tmp 42)) (y := (.tmp 43)) (d := 44) (g := none) ⟨(.slot 42), [], 0, false, 8, (CV.frzEs (x1.map Pt.row))⟩ y1 (Pt.row v19) _ kr kr kr kr kr kr rfl (idx_isF ev19) rfl (fun cx => ?_)
              refine AT.runU tOk [(8, []), (9, [])] 7 [] [9, 8, 7, 6, 5, 4, 3, 2, 1, 0] rfl kr (fun cx => ?_)
              refine AT.big2 tOk 10 14 kr (And.intro kr ?_) (And.intro kr ?_)
              · refine LAt.callU tOk [.rd, .rd] (f := 189) (av := #[.tmp 41, .tmp 46]) (ats := #[70, 3]) (d := (some 47)) (ty := 189) (g := none) kr kr kr [] (spec_StepVec n v18.Heard v19.Cost r20 er20) kr (.inl rfl) ?_
                refine LAt.fin kr (And.intro (And.intro kr kr) ?_)
                refine AT.movT tOk 11 (ty := 189) (t := 47) (d := 36) (g := none) [(true, (Vec.row r20.1)), (false, [cB r20.2])] _ kr kr kr (.inl rfl) kr kr kr kr rfl (fun cx => ?_)
                refine AT.runU tOk [(12, []), (13, [])] 3 [] [13, 12, 11, 10, 9, 8, 7, 6, 5, 4, 3, 2, 1, 0] rfl kr (fun cx => ?_)
                refine AT.big1 tOk 14 kr kr ?_
                refine LAt.runU tOk 1 kr ?_
                refine LAt.fin kr (And.intro (And.intro kr kr) ?_)
                refine AT.big1 tOk 15 kr kr ?_
                refine LAt.runU tOk 1 kr ?_
                refine LAt.fin kr (And.intro (And.intro kr kr) ?_)
                refine AT.runU tOk [(16, [])] 0 [] [16, 15, 14, 13, 12, 11, 10, 9, 8, 7, 6, 5, 4, 3, 2, 1, 0] rfl kr (fun cx => ?_)
                exact AT.done [11, 10, 49, 36, 48, 46, 45, 44, 43, 42, 41, 40, 39, 38, 37, 35, 34, 33, 32, 31, 30, 29, 28, 27, 26, 25, 24, 23, 22, 19, 18, 17, 16, 9, 8, 7, 6, 5, 4, 0, 1] [10, 7, 6, 4] _ kr kr rfl
              · refine LAt.runU tOk 1 kr ?_
                refine LAt.fin kr (And.intro (And.intro kr kr) ?_)
                refine AT.big1 tOk 10 kr kr ?_
                refine LAt.callU tOk [.rd, .rd] (f := 189) (av := #[.tmp 41, .tmp 46]) (ats := #[70, 3]) (d := (some 47)) (ty := 189) (g := none) kr kr kr [] (spec_StepVec n v18.Heard v19.Cost r20 er20) kr (.inl rfl) ?_
                refine LAt.fin kr (And.intro (And.intro kr kr) ?_)
                refine AT.movT tOk 11 (ty := 189) (t := 47) (d := 36) (g := none) [(true, (Vec.row r20.1)), (false, [cB r20.2])] _ kr kr kr (.inl rfl) kr kr kr kr rfl (fun cx => ?_)
                refine AT.runU tOk [(12, []), (13, [])] 2 [] [13, 12, 11, 10, 14, 9, 8, 7, 6, 5, 4, 3, 2, 1, 0] rfl kr (fun cx => ?_)
                refine AT.big1 tOk 15 kr kr ?_
                refine LAt.runU tOk 1 kr ?_
                refine LAt.fin kr (And.intro (And.intro kr kr) ?_)
                refine AT.runU tOk [(16, [])] 0 [] [16, 15, 13, 12, 11, 10, 14, 9, 8, 7, 6, 5, 4, 3, 2, 1, 0] rfl kr (fun cx => ?_)
                exact AT.done [11, 10, 49, 36, 48, 46, 45, 44, 43, 42, 41, 40, 39, 38, 37, 35, 34, 33, 32, 31, 30, 29, 28, 27, 26, 25, 24, 23, 22, 19, 18, 17, 16, 9, 8, 7, 6, 5, 4, 0, 1] [10, 7, 6, 4] _ kr kr rfl
            · refine Tr.seq ?_
              refine Tr.mid (ι := Bool × Bool × Bool × Bool × Bool × Bool × Bool) (fun v => ⟨78, 0, [sB 65 v.1, sB 57 v.2.1, sB 56 v.2.2.1, sB 51 v.2.2.2.1, sB 50 v.2.2.2.2.1, sB 11 v.2.2.2.2.2.1, sA 10 10 5 0, sB 49 v.2.2.2.2.2.2, (36, .tup [(true, [.dead, .dead, .dead, .dead, .dead]), (false, [.dead])]), sV 48 (Vec.row r20.1), sI 46 v19.Cost, (45, .fad (((Pt.row v19).drop 1))), (44, .fad ((Pt.row v19))), sI 43 y1, sC 42 (cF 8 x1 Pt.row), sV 41 ((Pt.row v18).drop 3), (40, .fad (((Pt.row v18).drop 3))), (39, .fad ((Pt.row v18))), sI 38 y1, sC 37 (cF 8 x1 Pt.row), sB 35 false, sB 34 false, sB 33 v17.Has, (32, .fad (((Pt.row v17).drop 2))), (31, .fad ((Pt.row v17))), sI 30 y1, sC 29 (cF 8 x1 Pt.row), sB 28 false, sB 27 false, sB 26 v16.Up, (25, .fad ((Pt.row v16))), (24, .fad ((Pt.row v16))), sI 23 y1, sC 22 (cF 8 x1 Pt.row), sB 19 true, sI 18 (x1.length : Int), sC 17 (cF 8 x1 Pt.row), sI 16 y1, sI 9 y1, sI 8 y2, sA 7 7 5 0, sA 6 6 5 0, sI 5 0, sA 4 4 5 0, sI 0 x0, sC 1 (cF 8 x1 Pt.row)], [(10, (Vec.row r20.1)), (7, [cI y3, cI y4, cI y5, cI y6, cI y7]), (6, [cI y8, cI y9, cI y10, cI x0, cI 0]), (4, [cI 0, cI 0, cI 0, cI 0, cI 0])]⟩) (fun v => spec_BestVec_J3 n (fun v => spec_BestVec_L2 n mo15 x0 x1 v.1 v.2.1 v.2.2.1 v.2.2.2.1 v.2.2.2.2.1 v.2.2.2.2.2.1 v.2.2.2.2.2.2.1 v.2.2.2.2.2.2.2.1 v.2.2.2.2.2.2.2.2.1 v.2.2.2.2.2.2.2.2.2) r20 y1 y10 y2 y3 y4 y5 y6 y7 y8 y9 v.1 v.2.1 v.2.2.1 v.2.2.2.1 v.2.2.2.2.1 v.2.2.2.2.2.1 v.2.2.2.2.2.2 = some o15) ?_ ?_
              · refine Tr.at ?_
                refine LAt.runU tOk 2 kr ?_
                refine LAt.to ⟨78, 0, [sB 51 r20.2, sB 50 r20.2, sB 11 r20.2, sA 10 10 5 0, sB 49 r20.2, (36, .tup [(true, [.dead, .dead, .dead, .dead, .dead]), (false, [.dead])]), sV 48 (Vec.row r20.1), sI 46 v19.Cost, (45, .fad (((Pt.row v19).drop 1))), (44, .fad ((Pt.row v19))), sI 43 y1, sC 42 (cF 8 x1 Pt.row), sV 41 ((Pt.row v18).drop 3), (40, .fad (((Pt.row v18).drop 3))), (39, .fad ((Pt.row v18))), sI 38 y1, sC 37 (cF 8 x1 Pt.row), sB 35 false, sB 34 false, sB 33 v17.Has, (32, .fad (((Pt.row v17).drop 2))), (31, .fad ((Pt.row v17))), sI 30 y1, sC 29 (cF 8 x1 Pt.row), sB 28 false, sB 27 false, sB 26 v16.Up, (25, .fad ((Pt.row v16))), (24, .fad ((Pt.row v16))), sI 23 y1, sC 22 (cF 8 x1 Pt.row), sB 19 true, sI 18 (x1.length : Int), sC 17 (cF 8 x1 Pt.row), sI 16 y1, sI 9 y1, sI 8 y2, sA 7 7 5 0, sA 6 6 5 0, sI 5 0, sA 4 4 5 0, sI 0 x0, sC 1 (cF 8 x1 Pt.row)], [(10, (Vec.row r20.1)), (7, [cI y3, cI y4, cI y5, cI y6, cI y7]), (6, [cI y8, cI y9, cI y10, cI x0, cI 0]), (4, [cI 0, cI 0, cI 0, cI 0, cI 0])]⟩ kr ?_
                cases h5 : r20.2
                · have H := bifF h5 H
                  refine LAt.runU tOk 14 kr ?_
                  refine LAt.doneM 73786835557346643955 1232 kr ?_
                  exact Exists.intro (false, false, false, false, false, false, false) (And.intro H (St.sub_of [65, 57, 56, 51, 50, 11, 10, 49, 36, 48, 46, 45, 44, 43, 42, 41, 40, 39, 38, 37, 35, 34, 33, 32, 31, 30, 29, 28, 27, 26, 25, 24, 23, 22, 19, 18, 17, 16, 9, 8, 7, 6, 5, 4, 0, 1] [10, 7, 6, 4] kr))
                · have H := bifT h5 H
                  refine LAt.runU tOk 6 kr ?_
                  refine LAt.to ⟨78, 0, [sB 57 (decide (r20.1.Root < x0)), sB 56 (decide (r20.1.Root < x0)), sB 55 (decide (r20.1.Root < x0)), sI 54 x0, sI 53 r20.1.Root, sA 52 10 5 0, sB 51 true, sB 50 true, sB 11 true, sA 10 10 5 0, sB 49 true, (36, .tup [(true, [.dead, .dead, .dead, .dead, .dead]), (false, [.dead])]), sV 48 (Vec.row r20.1), sI 46 v19.Cost, (45, .fad (((Pt.row v19).drop 1))), (44, .fad ((Pt.row v19))), sI 43 y1, sC 42 (cF 8 x1 Pt.row), sV 41 ((Pt.row v18).drop 3), (40, .fad (((Pt.row v18).drop 3))), (39, .fad ((Pt.row v18))), sI 38 y1, sC 37 (cF 8 x1 Pt.row), sB 35 false, sB 34 false, sB 33 v17.Has, (32, .fad (((Pt.row v17).drop 2))), (31, .fad ((Pt.row v17))), sI 30 y1, sC 29 (cF 8 x1 Pt.row), sB 28 false, sB 27 false, sB 26 v16.Up, (25, .fad ((Pt.row v16))), (24, .fad ((Pt.row v16))), sI 23 y1, sC 22 (cF 8 x1 Pt.row), sB 19 true, sI 18 (x1.length : Int), sC 17 (cF 8 x1 Pt.row), sI 16 y1, sI 9 y1, sI 8 y2, sA 7 7 5 0, sA 6 6 5 0, sI 5 0, sA 4 4 5 0, sI 0 x0, sC 1 (cF 8 x1 Pt.row)], [(10, (Vec.row r20.1)), (7, [cI y3, cI y4, cI y5, cI y6, cI y7]), (6, [cI y8, cI y9, cI y10, cI x0, cI 0]), (4, [cI 0, cI 0, cI 0, cI 0, cI 0])]⟩ kr ?_
                  cases h6 : (decide (r20.1.Root < x0))
                  · have H := bifF h6 H
                    refine LAt.runU tOk 8 kr ?_
                    refine LAt.doneM 73786835557346643955 1232 kr ?_
                    exact Exists.intro (false, false, false, true, true, true, true) (And.intro H (St.sub_of [65, 57, 56, 51, 50, 11, 10, 49, 36, 48, 46, 45, 44, 43, 42, 41, 40, 39, 38, 37, 35, 34, 33, 32, 31, 30, 29, 28, 27, 26, 25, 24, 23, 22, 19, 18, 17, 16, 9, 8, 7, 6, 5, 4, 0, 1] [10, 7, 6, 4] kr))
                  · have H := bifT h6 H
                    refine LAt.runU tOk 3 kr ?_
                    refine LAt.to ⟨78, 0, [sB 60 (decide (y2 < 0)), sB 59 (decide (y2 < 0)), sI 58 y2, sB 57 true, sB 56 true, sB 55 true, sI 54 x0, sI 53 r20.1.Root, sA 52 10 5 0, sB 51 true, sB 50 true, sB 11 true, sA 10 10 5 0, sB 49 true, (36, .tup [(true, [.dead, .dead, .dead, .dead, .dead]), (false, [.dead])]), sV 48 (Vec.row r20.1), sI 46 v19.Cost, (45, .fad (((Pt.row v19).drop 1))), (44, .fad ((Pt.row v19))), sI 43 y1, sC 42 (cF 8 x1 Pt.row), sV 41 ((Pt.row v18).drop 3), (40, .fad (((Pt.row v18).drop 3))), (39, .fad ((Pt.row v18))), sI 38 y1, sC 37 (cF 8 x1 Pt.row), sB 35 false, sB 34 false, sB 33 v17.Has, (32, .fad (((Pt.row v17).drop 2))), (31, .fad ((Pt.row v17))), sI 30 y1, sC 29 (cF 8 x1 Pt.row), sB 28 false, sB 27 false, sB 26 v16.Up, (25, .fad ((Pt.row v16))), (24, .fad ((Pt.row v16))), sI 23 y1, sC 22 (cF 8 x1 Pt.row), sB 19 true, sI 18 (x1.length : Int), sC 17 (cF 8 x1 Pt.row), sI 16 y1, sI 9 y1, sI 8 y2, sA 7 7 5 0, sA 6 6 5 0, sI 5 0, sA 4 4 5 0, sI 0 x0, sC 1 (cF 8 x1 Pt.row)], [(10, (Vec.row r20.1)), (7, [cI y3, cI y4, cI y5, cI y6, cI y7]), (6, [cI y8, cI y9, cI y10, cI x0, cI 0]), (4, [cI 0, cI 0, cI 0, cI 0, cI 0])]⟩ kr ?_
                    cases h7 : (decide (y2 < 0))
                    · have H := bifF h7 H
                      refine LAt.runU tOk 2 kr ?_
                      obtain ⟨r28, er28, H⟩ := bind_some H
                      refine LAt.callU tOk [.rd, .rd] (f := 186) (av := #[.tmp 61, .tmp 62]) (ats := #[70, 70]) (d := (some 63)) (ty := 4) (g := (some (10, false))) kr kr kr [] (spec_LessVec n r20.1 (⟨y3, y4, y5, y6, y7⟩ : Vec) r28 er28) kr (.inl rfl) ?_
                      refine LAt.runU tOk 2 kr ?_
                      refine LAt.doneM 73786835557346643955 1232 kr ?_
                      exact Exists.intro (r28, true, true, true, true, true, true) (And.intro H (St.sub_of [65, 57, 56, 51, 50, 11, 10, 49, 36, 48, 46, 45, 44, 43, 42, 41, 40, 39, 38, 37, 35, 34, 33, 32, 31, 30, 29, 28, 27, 26, 25, 24, 23, 22, 19, 18, 17, 16, 9, 8, 7, 6, 5, 4, 0, 1] [10, 7, 6, 4] kr))
                    · have H := bifT h7 H
                      refine LAt.runU tOk 5 kr ?_
                      refine LAt.doneM 73786835557346643955 1232 kr ?_
                      exact Exists.intro (true, true, true, true, true, true, true) (And.intro H (St.sub_of [65, 57, 56, 51, 50, 11, 10, 49, 36, 48, 46, 45, 44, 43, 42, 41, 40, 39, 38, 37, 35, 34, 33, 32, 31, 30, 29, 28, 27, 26, 25, 24, 23, 22, 19, 18, 17, 16, 9, 8, 7, 6, 5, 4, 0, 1] [10, 7, 6, 4] kr))
              · rintro ⟨y21, y22, y23, y24, y25, y26, y27⟩ H
                have H : (spec_BestVec_J3 n (fun v => spec_BestVec_L2 n mo15 x0 x1 v.1 v.2.1 v.2.2.1 v.2.2.2.1 v.2.2.2.2.1 v.2.2.2.2.2.1 v.2.2.2.2.2.2.1 v.2.2.2.2.2.2.2.1 v.2.2.2.2.2.2.2.2.1 v.2.2.2.2.2.2.2.2.2) r20 y1 y10 y2 y3 y4 y5 y6 y7 y8 y9 y21 y22 y23 y24 y25 y26 y27) = some o15 := H
                unfold spec_BestVec_J3 at H
                show Tr _ _ _ _ _
                refine Tr.to ⟨78, 0, [sB 65 y21, sB 57 y22, sB 56 y23, sB 51 y24, sB 50 y25, sB 11 y26, sA 10 10 5 0, sB 49 y27, (36, .tup [(true, [.dead, .dead, .dead, .dead, .dead]), (false, [.dead])]), sV 48 (Vec.row r20.1), sI 46 v19.Cost, (45, .fad (((Pt.row v19).drop 1))), (44, .fad ((Pt.row v19))), sI 43 y1, sC 42 (cF 8 x1 Pt.row), sV 41 ((Pt.row v18).drop 3), (40, .fad (((Pt.row v18).drop 3))), (39, .fad ((Pt.row v18))), sI 38 y1, sC 37 (cF 8 x1 Pt.row), sB 35 false, sB 34 false, sB 33 v17.Has, (32, .fad (((Pt.row v17).drop 2))), (31, .fad ((Pt.row v17))), sI 30 y1, sC 29 (cF 8 x1 Pt.row), sB 28 false, sB 27 false, sB 26 v16.Up, (25, .fad ((Pt.row v16))), (24, .fad ((Pt.row v16))), sI 23 y1, sC 22 (cF 8 x1 Pt.row), sB 19 true, sI 18 (x1.length : Int), sC 17 (cF 8 x1 Pt.row), sI 16 y1, sI 9 y1, sI 8 y2, sA 7 7 5 0, sA 6 6 5 0, sI 5 0, sA 4 4 5 0, sI 0 x0, sC 1 (cF 8 x1 Pt.row)], [(10, (Vec.row r20.1)), (7, [cI y3, cI y4, cI y5, cI y6, cI y7]), (6, [cI y8, cI y9, cI y10, cI x0, cI 0]), (4, [cI 0, cI 0, cI 0, cI 0, cI 0])]⟩ kr ?_
                cases h4 : y21
                · have H := bifF h4 H
                  refine Tr.cond (b := false) kr (fun h => nomatch h) (fun _ => ?_)
                  refine Tr.skip ?_
                  show Tr _ _ _ _ _
                  refine Tr.at ?_
                  refine LAt.runU tOk 3 kr ?_
                  refine LAt.doneM 37114023791671840755 1232 kr ?_
                  exact Exists.intro (mo15, ((IntKind.wrap .i64 (y1 + 1)), y2, y3, y4, y5, y6, y7, y8, y9, y10)) (And.intro H (And.intro (Nat.lt_succ_self mo15) (St.sub_of [9, 8, 7, 6, 5, 4, 0, 1] [7, 6, 4] kr)))
                · have H := bifT h4 H
                  refine Tr.cond (b := true) kr (fun _ => ?_) (fun h => nomatch h)
                  refine Tr.rs ?_
                  refine LAt.runU tOk 2 kr ?_
                  refine LAt.doneM 110901000086506901491 1232 kr ?_
                  refine Tr.rs ?_
                  refine LAt.runU tOk 2 kr ?_
                  refine LAt.doneM 258474952676183314419 1232 kr ?_
                  refine Tr.at ?_
                  refine LAt.runU tOk 9 kr ?_
                  refine LAt.doneM 75521190773411153907699 1232 kr ?_
                  show Tr _ _ _ _ _
                  refine Tr.at ?_
                  refine LAt.runU tOk 3 kr ?_
                  refine LAt.doneM 75521190773411157053427 1232 kr ?_
                  exact Exists.intro (mo15, ((IntKind.wrap .i64 (y1 + 1)), y1, r20.1.Root, r20.1.Cost, r20.1.Hops, r20.1.Bridge, r20.1.Port, r20.1.Root, r20.1.Cost, r20.1.Hops)) (And.intro H (And.intro (Nat.lt_succ_self mo15) (St.sub_of [9, 8, 7, 6, 5, 4, 0, 1] [7, 6, 4] kr)))
          · have H := bifT h3 H
            refine Tr.cond (b := true) kr (fun _ => ?_) (fun h => nomatch h)
            refine Tr.exit ?_
            refine And.intro (fun _ => ?_) (fun h => absurd rfl h)
            show Tr _ _ _ _ _
            refine Tr.at ?_
            refine LAt.runU tOk 3 kr ?_
            refine LAt.doneM 68719412211 208 kr ?_
            exact Exists.intro (mo15, ((IntKind.wrap .i64 (y1 + 1)), y2, y3, y4, y5, y6, y7, y8, y9, y10)) (And.intro H (And.intro (Nat.lt_succ_self mo15) (St.sub_of [9, 8, 7, 6, 5, 4, 0, 1] [7, 6, 4] kr)))
        · have H := bifT h2 H
          refine LAt.runU tOk 7 kr ?_
          refine LAt.doneM 68716266483 208 kr ?_
          refine Tr.cond (b := true) kr (fun _ => ?_) (fun h => nomatch h)
          refine Tr.exit ?_
          refine And.intro (fun _ => ?_) (fun h => absurd rfl h)
          show Tr _ _ _ _ _
          refine Tr.at ?_
          refine LAt.runU tOk 3 kr ?_
          refine LAt.doneM 68719412211 208 kr ?_
          exact Exists.intro (mo15, ((IntKind.wrap .i64 (y1 + 1)), y2, y3, y4, y5, y6, y7, y8, y9, y10)) (And.intro H (And.intro (Nat.lt_succ_self mo15) (St.sub_of [9, 8, 7, 6, 5, 4, 0, 1] [7, 6, 4] kr)))
  · rintro ⟨y11, y12, y13, y14⟩ H
    have H : (spec_BestVec_J1 n x0 y11 y12 y13 y14) = some r := H
    unfold spec_BestVec_J1 at H
    show Tr _ _ _ _ _
    refine Tr.rs ?_
    refine LAt.runU tOk 4 kr ?_
    refine LAt.doneM 48 16 kr ?_
    refine Tr.ret ?_
    have H := Option.some.inj H
    subst H
    exact Fin.of _ [(true, [cI y12, cI y13, cI y14, cI x0, cI 0]), (false, [cI y11])] kr rfl rfl

def spec_SayVecF (n : Nat) (x0 : Int) (x1 : (List Pt)) (x2 : Int) : Option (Vec) :=
  ((spec_BestVecF n x0 x1).bind fun r1 => (some (⟨r1.1.Root, r1.1.Cost, r1.1.Hops, r1.1.Bridge, x2⟩ : Vec)))
/-- loop.example/g00326/spec.SayVec -/
theorem spec_SayVec (n : Nat) (x0 : Int) (x1 : (List Pt)) (x2 : Int) (r : Vec) (H : spec_SayVecF n x0 x1 x2 = some r) : LCall Try.prog 174 [.val false [.lit (.int .i64 x0)], .val false [.sl false 8 (CV.frzEs (x1.map Pt.row))], .val false [.lit (.int .i64 x2)]] [.val true (Vec.row r)] [] := by
  refine LCall.of_body tOk Try.func174 rfl (c := (.seq (.region 0 (rg Try.f174 0) false) (.seq (.region 1 (rg Try.f174 1) false) (.seq (.region 2 (rg Try.f174 2) false) (.seq (.region 3 (rg Try.f174 3) false) .ret))))) kr (Nat.le_of_ble_eq_true kr) 0 (rs := [.cell 6 70]) rfl [] .nil [(true, (Vec.row r))] [] [] fun cx => ?_
  show Tr _ _ _ ⟨18, 0, [sI 0 x0, sC 1 (cF 8 x1 Pt.row), sI 2 x2], []⟩ _
  unfold spec_SayVecF at H
  refine Tr.rs ?_
  refine LAt.runU tOk 1 kr ?_
  refine LAt.doneM 71 64 kr ?_
  refine Tr.rs ?_
  refine LAt.runU tOk 2 kr ?_
  obtain ⟨r1, er1, H⟩ := bind_some H
  refine LAt.callU tOk [.rd, .rd] (f := 185) (av := #[.tmp 10, .tmp 11]) (ats := #[3, 55]) (d := (some 12)) (ty := 181) (g := none) kr kr kr [] (spec_BestVec n x0 x1 r1 er1) kr (.inl rfl) ?_
  refine LAt.movT tOk (ty := 181) (t := 12) (d := 9) (g := none) [(true, (Vec.row r1.1)), (false, [cI r1.2])] _ kr (.inl rfl) kr kr kr kr rfl ?_
  refine LAt.runU tOk 5 kr ?_
  refine LAt.doneM 196 192 kr ?_
  refine Tr.rs ?_
  refine LAt.runU tOk 3 kr ?_
  refine LAt.doneM 192 192 kr ?_
  refine Tr.rs ?_
  refine LAt.runU tOk 2 kr ?_
  refine LAt.doneM 64 64 kr ?_
  refine Tr.ret ?_
  have H := Option.some.inj H
  subst H
  exact Fin.of _ [(true, [cI r1.1.Root, cI r1.1.Cost, cI r1.1.Hops, cI r1.1.Bridge, cI x2])] kr rfl rfl

def spec_RoleOfF (n : Nat) (x0 : Int) (x1 : (List Pt)) (x2 : Int) : Option (Int) :=
  ((spec_l1InF n x2 0 (IntKind.wrap .i64 ((x1.length : Int) - 1))).bind fun r1 => (bif (!r1) then (some 4) else ((idx x1 x2).bind fun v2 => (bif (!v2.Up) then (some 4) else ((spec_BestVecF n x0 x1).bind fun r3 => (bif (r3.2 == x2) then (some 1) else ((idx x1 x2).bind fun v4 => (bif (!v4.Has) then (some 2) else ((spec_SayVecF n x0 x1 x2).bind fun r5 => ((idx x1 x2).bind fun v6 => ((spec_LessVecF n r5 v6.Heard).bind fun r7 => (bif r7 then (some 2) else (some 3)))))))))))))
/-- loop.example/g00326/spec.RoleOf -/
theorem spec_RoleOf (n : Nat) (x0 : Int) (x1 : (List Pt)) (x2 : Int) (r : Int) (H : spec_RoleOfF n x0 x1 x2 = some r) : LCall Try.prog 170 [.val false [.lit (.int .i64 x0)], .val false [.sl false 8 (CV.frzEs (x1.map Pt.row))], .val false [.lit (.int .i64 x2)]] [.val false [.lit (.int .i64 r)]] [] := by
  refine LCall.of_body tOk Try.func170 rfl (c := (.seq (.region 0 (rg Try.f170 0) false) (.seq (.seq (.region 1 (rg Try.f170 1) false) (.cond (.tmp 22) (.seq (.region 2 (rg Try.f170 2) false) .ret) .skip)) (.seq (.region 3 (rg Try.f170 3) false) (.seq (.block 0 (.seq (.region 4 (rg Try.f170 4) false) (.cond (.tmp 29) (.seq (.region 5 (rg Try.f170 5) false) .ret) (.seq (.region 6 (rg Try.f170 6) true) (.cond (.tmp 33) (.seq (.region 7 (rg Try.f170 7) false) .ret) .skip))))) (.seq (.region 8 (rg Try.f170 8) false) .ret)))))) kr (Nat.le_of_ble_eq_true kr) 0 (rs := [.tmp 6]) rfl [] .nil [(false, [.lit (.int .i64 r)])] [] [] fun cx => ?_
  show Tr _ _ _ ⟨52, 0, [sI 0 x0, sC 1 (cF 8 x1 Pt.row), sI 2 x2], []⟩ _
  unfold spec_RoleOfF at H
  refine Tr.rs ?_
  refine LAt.runU tOk 1 kr ?_
  refine LAt.doneM 71 0 kr ?_
  refine Tr.seq ?_
  refine Tr.rs ?_
  refine LAt.runU tOk 2 kr ?_
  refine LAt.lenE tOk (t := 55) (ty := 3) (e := 114) (x := (.tmp 10)) (d := 11) (g := none) ⟨(.slot 10), [], 0, false, 8, (CV.frzEs (x1.map Pt.row))⟩ (x1).length _ kr kr kr kr kr (frz_len _ _) rfl ?_
  refine LAt.runU tOk 1 kr ?_
  obtain ⟨r1, er1, H⟩ := bind_some H
  refine LAt.callU tOk [.rd, .rd, .rd] (f := 65) (av := #[.tmp 9, .const (.int .i64 0), .tmp 12]) (ats := #[3, 3, 3]) (d := (some 13)) (ty := 4) (g := none) kr kr kr [] (spec_l1In n x2 0 (IntKind.wrap .i64 ((x1.length : Int) - 1)) r1 er1) kr (.inl rfl) ?_
  refine LAt.runU tOk 2 kr ?_
  refine LAt.to ⟨52, 0, [sB 15 (!r1), sB 14 (!r1), sB 13 r1, sI 12 (IntKind.wrap .i64 ((x1.length : Int) - 1)), sI 11 (x1.length : Int), sC 10 (cF 8 x1 Pt.row), sI 9 x2, sI 6 0, sI 0 x0, sC 1 (cF 8 x1 Pt.row), sI 2 x2], []⟩ kr ?_
  cases h1 : (!r1)
  · have H := bifF h1 H
    refine LAt.runU tOk 2 kr ?_
    obtain ⟨v2, ev2, H⟩ := bind_some H
    refine LAt.indexF tOk (t := 55) (ty := 0) (x := (.tmp 16)) (y := (.tmp 17)) (d := 18) (g := (some (6, false))) ⟨(.slot 16), [], 0, false, 8, (CV.frzEs (x1.map Pt.row))⟩ x2 (Pt.row v2) _ kr kr kr kr rfl (idx_isF ev2) rfl ?_
    refine LAt.runU tOk 4 kr ?_
    refine LAt.doneM 4194375 0 kr ?_
    refine Tr.to ⟨52, 0, [sB 22 (!v2.Up), sI 6 0, sI 0 x0, sC 1 (cF 8 x1 Pt.row), sI 2 x2], []⟩ kr ?_
    cases h2 : (!v2.Up)
    · have H := bifF h2 H
      refine Tr.cond (b := false) kr (fun h => nomatch h) (fun _ => ?_)
      refine Tr.skip ?_
      show Tr _ _ _ _ _
      refine Tr.rs ?_
      refine LAt.runU tOk 2 kr ?_
      obtain ⟨r3, er3, H⟩ := bind_some H
      refine LAt.callU tOk [.rd, .rd] (f := 185) (av := #[.tmp 24, .tmp 25]) (ats := #[3, 55]) (d := (some 26)) (ty := 181) (g := none) kr kr kr [] (spec_BestVec n x0 x1 r3 er3) kr (.inl rfl) ?_
      refine LAt.movT tOk (ty := 181) (t := 26) (d := 23) (g := none) [(true, (Vec.row r3.1)), (false, [cI r3.2])] _ kr (.inl rfl) kr kr kr kr rfl ?_
      refine LAt.runU tOk 5 kr ?_
      refine LAt.doneM 327 0 kr ?_
      refine Tr.seq ?_
      refine Tr.block ?_
      refine Tr.rs ?_
      refine LAt.runU tOk 4 kr ?_
      refine LAt.doneM 536870983 0 kr ?_
      refine Tr.to ⟨52, 0, [sB 29 (r3.2 == x2), sI 6 0, sI 0 x0, sC 1 (cF 8 x1 Pt.row), sI 2 x2], []⟩ kr ?_
      cases h3 : (r3.2 == x2)
      · have H := bifF h3 H
        refine Tr.cond (b := false) kr (fun h => nomatch h) (fun _ => ?_)
        obtain ⟨v4, ev4, H⟩ := bind_some H
        refine Tr.to ⟨52, 0, [sB 29 false, sI 6 0, sI 0 x0, sC 1 (cF 8 x1 Pt.row), sI 2 x2], []⟩ kr ?_
        cases h4 : (!v4.Has)
        · have H := bifF h4 H
          obtain ⟨r5, er5, H⟩ := bind_some H
          obtain ⟨v6, ev6, H⟩ := bind_some H
          obtain ⟨r7, er7, H⟩ := bind_some H
          refine Tr.draws mixed 19 kr ⟨52, 0, [sB 33 r7, sI 6 0], []⟩ (fun cx => ?_) ?_
          · refine AT.runU tOk [(0, []), (1, [])] 17 [] [1, 0] rfl kr (fun cx => ?_)
            refine AT.indexF tOk 2 (t := 55) (ty := 0) (x := (.tmp 34)) (y := (.tmp 35)) (d := 36) (g := none) ⟨(.slot 34), [], 0, false, 8, (CV.frzEs (x1.map Pt.row))⟩ x2 (Pt.row v4) _ kr kr kr kr kr kr rfl (idx_isF ev4) rfl (fun cx => ?_)
            refine AT.runU tOk [(3, []), (4, []), (5, []), (6, [])] 12 [] [6, 5, 4, 3, 2, 1, 0] rfl kr (fun cx => ?_)
            refine AT.to ⟨52, 0, [sB 40 (!v4.Has), sB 39 (!v4.Has), sB 38 v4.Has, (37, .fad (((Pt.row v4).drop 2))), (36, .fad ((Pt.row v4))), sI 35 x2, sC 34 (cF 8 x1 Pt.row), sB 29 false, sI 6 0, sI 0 x0, sC 1 (cF 8 x1 Pt.row), sI 2 x2], []⟩ kr ?_
            rw [h4]
            refine AT.runU tOk [(7, []), (8, []), (9, []), (11, []), (12, [])] 7 [] [12, 11, 9, 8, 7, 6, 5, 4, 3, 2, 1, 0] rfl kr (fun cx => ?_)
            refine AT.indexF tOk 13 (t := 55) (ty := 0) (x := (.tmp 45)) (y := (.tmp 46)) (d := 47) (g := (some (6, false))) ⟨(.slot 45), [], 0, false, 8, (CV.frzEs (x1.map Pt.row))⟩ x2 (Pt.row v6) _ kr kr kr kr kr kr rfl (idx_isF ev6) rfl (fun cx => ?_)
            refine AT.runU tOk [(14, []), (15, [])] 4 [] [15, 14, 13, 12, 11, 9, 8, 7, 6, 5, 4, 3, 2, 1, 0] rfl kr (fun cx => ?_)
            refine AT.big1 tOk 10 kr kr ?_
            refine LAt.callU tOk [.rd, .rd, .rd] (f := 174) (av := #[.tmp 41, .tmp 42, .tmp 43]) (ats := #[3, 55, 3]) (d := (some 44)) (ty := 70) (g := (some (6, false))) kr kr kr [] (spec_SayVec n x0 x1 x2 r5 er5) kr (.inl rfl) ?_
            refine LAt.fin kr (And.intro (And.intro kr kr) ?_)
            refine AT.big1 tOk 16 kr kr ?_
            refine LAt.callU tOk [.rd, .rd] (f := 186) (av := #[.tmp 44, .tmp 49]) (ats := #[70, 70]) (d := (some 50)) (ty := 4) (g := (some (6, false))) kr kr kr [] (spec_LessVec n r5 v6.Heard r7 er7) kr (.inl rfl) ?_
            refine LAt.fin kr (And.intro (And.intro kr kr) ?_)
            refine AT.runU tOk [(17, []), (18, [])] 0 [] [18, 17, 16, 10, 15, 14, 13, 12, 11, 9, 8, 7, 6, 5, 4, 3, 2, 1, 0] rfl kr (fun cx => ?_)
            exact AT.done [33, 6] [] _ kr kr rfl
          · refine Tr.to ⟨52, 0, [sB 33 r7, sI 6 0], []⟩ kr ?_
            cases h5 : r7
            · have H := bifF h5 H
              refine Tr.cond (b := false) kr (fun h => nomatch h) (fun _ => ?_)
              refine Tr.skip ?_
              show Tr _ _ _ _ _
              refine Tr.rs ?_
              refine LAt.runU tOk 1 kr ?_
              refine LAt.doneM 64 0 kr ?_
              refine Tr.ret ?_
              have H := Option.some.inj H
              subst H
              exact Fin.of _ [(false, [cI 3])] kr rfl rfl
            · have H := bifT h5 H
              refine Tr.cond (b := true) kr (fun _ => ?_) (fun h => nomatch h)
              refine Tr.rs ?_
              refine LAt.runU tOk 1 kr ?_
              refine LAt.doneM 64 0 kr ?_
              refine Tr.ret ?_
              have H := Option.some.inj H
              subst H
              exact Fin.of _ [(false, [cI 2])] kr rfl rfl
        · have H := bifT h4 H
          refine Tr.draws mixed 19 kr ⟨52, 0, [sB 33 true, sI 6 0], []⟩ (fun cx => ?_) ?_
          · refine AT.runU tOk [(0, []), (1, [])] 17 [] [1, 0] rfl kr (fun cx => ?_)
            refine AT.indexF tOk 2 (t := 55) (ty := 0) (x := (.tmp 34)) (y := (.tmp 35)) (d := 36) (g := none) ⟨(.slot 34), [], 0, false, 8, (CV.frzEs (x1.map Pt.row))⟩ x2 (Pt.row v4) _ kr kr kr kr kr kr rfl (idx_isF ev4) rfl (fun cx => ?_)
            refine AT.runU tOk [(3, []), (4, []), (5, []), (6, [])] 12 [] [6, 5, 4, 3, 2, 1, 0] rfl kr (fun cx => ?_)
            refine AT.to ⟨52, 0, [sB 40 (!v4.Has), sB 39 (!v4.Has), sB 38 v4.Has, (37, .fad (((Pt.row v4).drop 2))), (36, .fad ((Pt.row v4))), sI 35 x2, sC 34 (cF 8 x1 Pt.row), sB 29 false, sI 6 0, sI 0 x0, sC 1 (cF 8 x1 Pt.row), sI 2 x2], []⟩ kr ?_
            rw [h4]
            refine AT.runU tOk [(7, []), (8, []), (9, []), (10, []), (11, []), (12, []), (13, []), (14, []), (15, []), (16, []), (17, []), (18, [])] 0 [] [18, 17, 16, 15, 14, 13, 12, 11, 10, 9, 8, 7, 6, 5, 4, 3, 2, 1, 0] rfl kr (fun cx => ?_)
            exact AT.done [33, 6] [] _ kr kr rfl
          · refine Tr.cond (b := true) kr (fun _ => ?_) (fun h => nomatch h)
            refine Tr.rs ?_
            refine LAt.runU tOk 1 kr ?_
            refine LAt.doneM 64 0 kr ?_
            refine Tr.ret ?_
            have H := Option.some.inj H
            subst H
            exact Fin.of _ [(false, [cI 2])] kr rfl rfl
      · have H := bifT h3 H
        refine Tr.cond (b := true) kr (fun _ => ?_) (fun h => nomatch h)
        refine Tr.rs ?_
        refine LAt.runU tOk 1 kr ?_
        refine LAt.doneM 64 0 kr ?_
        refine Tr.ret ?_
        have H := Option.some.inj H
        subst H
        exact Fin.of _ [(false, [cI 1])] kr rfl rfl
    · have H := bifT h2 H
      refine Tr.cond (b := true) kr (fun _ => ?_) (fun h => nomatch h)
      refine Tr.rs ?_
      refine LAt.runU tOk 1 kr ?_
      refine LAt.doneM 71 0 kr ?_
      refine Tr.ret ?_
      have H := Option.some.inj H
      subst H
      exact Fin.of _ [(false, [cI 4])] kr rfl rfl
  · have H := bifT h1 H
    refine LAt.runU tOk 7 kr ?_
    refine LAt.doneM 4194375 0 kr ?_
    refine Tr.cond (b := true) kr (fun _ => ?_) (fun h => nomatch h)
    refine Tr.rs ?_
    refine LAt.runU tOk 1 kr ?_
    refine LAt.doneM 71 0 kr ?_
    refine Tr.ret ?_
    have H := Option.some.inj H
    subst H
    exact Fin.of _ [(false, [cI 4])] kr rfl rfl

def spec_Sends_J1 (n : Nat) (y3 : Int) : Option (Int) :=
  (some y3)
def spec_Sends_L2 (n : Nat) : Nat → Int → (List Pt) → Int → Int → Option ((Int) ⊕ (Int))
  | 0, _, _, _, _ => none
  | mo4 + 1, x0, x1, y1, y2 => (bif (decide (y1 < (x1.length : Int))) then (bif (decide (y1 < 6)) then ((spec_RoleOfF n x0 x1 y1).bind fun r5 => (bif (decide (r5 ≤ 2)) then (bif (decide ((0 : Int) ≤ (IntKind.wrap .u64 y1))) then (spec_Sends_L2 n mo4 x0 x1 (IntKind.wrap .i64 (y1 + 1)) (IntKind.wrap .i64 (BitVec.ofInt (IntKind.bits .i64) y2 ||| BitVec.ofInt (IntKind.bits .i64) (IntKind.wrap .i64 (1 * 2 ^ min (((IntKind.wrap .u64 y1) : Int)).toNat (IntKind.bits .i64)))).toNat)) else none) else (spec_Sends_L2 n mo4 x0 x1 (IntKind.wrap .i64 (y1 + 1)) y2))) else (some (Sum.inl y2))) else (some (Sum.inl y2)))
def spec_SendsF (n : Nat) (x0 : Int) (x1 : (List Pt)) : Option (Int) :=
  ((spec_Sends_L2 n n x0 x1 0 0).bind fun o => match o with | .inl y3 => (spec_Sends_J1 n y3) | .inr r => some r)
/-- loop.example/g00326/spec.Sends -/
theorem spec_Sends (n : Nat) (x0 : Int) (x1 : (List Pt)) (r : Int) (H : spec_SendsF n x0 x1 = some r) : LCall Try.prog 147 [.val false [.lit (.int .i64 x0)], .val false [.sl false 8 (CV.frzEs (x1.map Pt.row))]] [.val false [.lit (.int .i64 r)]] [] := by
  refine LCall.of_body tOk Try.func147 rfl (c := (.seq (.region 0 (rg Try.f147 0) false) (.seq (.region 1 (rg Try.f147 1) false) (.seq (.seq (.region 2 (rg Try.f147 2) false) (.block 0 (.loop (.seq (.seq (.region 3 (rg Try.f147 3) false) (.cond (.tmp 14) .skip (.exit 0))) (.seq (.block 1 (.seq (.region 5 (rg Try.f147 5) false) (.cond (.tmp 21) (.region 6 (rg Try.f147 6) false) .skip))) (.region 4 (rg Try.f147 4) false)))))) (.seq (.region 7 (rg Try.f147 7) false) .ret))))) kr (Nat.le_of_ble_eq_true kr) 0 (rs := [.tmp 4]) rfl [] .nil [(false, [.lit (.int .i64 r)])] [] [] fun cx => ?_
  show Tr _ _ _ ⟨28, 0, [sI 0 x0, sC 1 (cF 8 x1 Pt.row)], []⟩ _
  unfold spec_SendsF at H
  refine Tr.rs ?_
  refine LAt.runU tOk 1 kr ?_
  refine LAt.doneM 19 0 kr ?_
  refine Tr.rs ?_
  refine LAt.runU tOk 1 kr ?_
  refine LAt.doneM 51 0 kr ?_
  refine Tr.seq ?_
  refine Tr.rs ?_
  refine LAt.runU tOk 1 kr ?_
  refine LAt.doneM 115 0 kr ?_
  obtain ⟨o4, eo4, Ho4⟩ := bind_some H
  clear H
  refine Tr.mid (ι := Int) (fun v => ⟨28, 0, [sI 5 v, sI 4 0], []⟩) (fun v => spec_Sends_J1 n v = some r) ?_ ?_
  · refine Tr.block ?_
    refine Tr.loop (ι := Nat × (Int × Int)) (fun v => ⟨28, 0, [sI 6 v.2.1, sI 5 v.2.2, sI 4 0, sI 0 x0, sC 1 (cF 8 x1 Pt.row)], []⟩) (fun v => spec_Sends_L2 n v.1 x0 x1 v.2.1 v.2.2 = some o4) (fun v => v.1) (n, (0, 0)) eo4 (St.sub_of [6, 5, 4, 0, 1] [] kr) ?_
    rintro ⟨mo4, y1, y2⟩ H
    have H : spec_Sends_L2 n mo4 x0 x1 y1 y2 = some o4 := H
    obtain _ | mo4 := mo4
    · cases (show (none : Option _) = some o4 from H)
    · rw [spec_Sends_L2] at H
      refine Tr.seq ?_
      refine Tr.rs ?_
      refine LAt.runU tOk 2 kr ?_
      refine LAt.lenE tOk (t := 55) (ty := 3) (e := 114) (x := (.tmp 8)) (d := 9) (g := none) ⟨(.slot 8), [], 0, false, 8, (CV.frzEs (x1.map Pt.row))⟩ (x1).length _ kr kr kr kr kr (frz_len _ _) rfl ?_
      refine LAt.runU tOk 2 kr ?_
      refine LAt.to ⟨28, 0, [sB 11 (decide (y1 < (x1.length : Int))), sB 10 (decide (y1 < (x1.length : Int))), sI 9 (x1.length : Int), sC 8 (cF 8 x1 Pt.row), sI 7 y1, sI 6 y1, sI 5 y2, sI 4 0, sI 0 x0, sC 1 (cF 8 x1 Pt.row)], []⟩ kr ?_
      cases h1 : (decide (y1 < (x1.length : Int)))
      · have H := bifF h1 H
        refine LAt.runU tOk 3 kr ?_
        refine LAt.doneM 32755 0 kr ?_
        refine Tr.cond (b := false) kr (fun h => nomatch h) (fun _ => ?_)
        refine Tr.exit ?_
        refine And.intro (fun _ => ?_) (fun h => absurd rfl h)
        have H := Option.some.inj H
        subst H
        have H := Ho4
        dsimp only at H
        exact Exists.intro y2 (And.intro H (St.sub_of [5, 4] [] kr))
      · have H := bifT h1 H
        refine LAt.runU tOk 3 kr ?_
        refine LAt.doneM 32755 0 kr ?_
        refine Tr.to ⟨28, 0, [sB 14 (decide (y1 < 6)), sB 13 (decide (y1 < 6)), sI 12 y1, sB 11 true, sB 10 true, sI 9 (x1.length : Int), sC 8 (cF 8 x1 Pt.row), sI 7 y1, sI 6 y1, sI 5 y2, sI 4 0, sI 0 x0, sC 1 (cF 8 x1 Pt.row)], []⟩ kr ?_
        cases h2 : (decide (y1 < 6))
        · have H := bifF h2 H
          refine Tr.cond (b := false) kr (fun h => nomatch h) (fun _ => ?_)
          refine Tr.exit ?_
          refine And.intro (fun _ => ?_) (fun h => absurd rfl h)
          have H := Option.some.inj H
          subst H
          have H := Ho4
          dsimp only at H
          exact Exists.intro y2 (And.intro H (St.sub_of [5, 4] [] kr))
        · have H := bifT h2 H
          refine Tr.cond (b := true) kr (fun _ => ?_) (fun h => nomatch h)
          refine Tr.skip ?_
          show Tr _ _ _ _ _
          refine Tr.seq ?_
          refine Tr.block ?_
          refine Tr.rs ?_
          refine LAt.runU tOk 3 kr ?_
          obtain ⟨r5, er5, H⟩ := bind_some H
          refine LAt.callU tOk [.rd, .rd, .rd] (f := 170) (av := #[.tmp 17, .tmp 18, .tmp 19]) (ats := #[3, 55, 3]) (d := (some 20)) (ty := 3) (g := none) kr kr kr [] (spec_RoleOf n x0 x1 y1 r5 er5) kr (.inl rfl) ?_
          refine LAt.runU tOk 1 kr ?_
          refine LAt.doneM 4095987 0 kr ?_
          refine Tr.to ⟨28, 0, [sB 21 (decide (r5 ≤ 2)), sI 20 r5, sI 19 y1, sC 18 (cF 8 x1 Pt.row), sI 17 x0, sB 14 true, sB 13 true, sI 12 y1, sB 11 true, sB 10 true, sI 9 (x1.length : Int), sC 8 (cF 8 x1 Pt.row), sI 7 y1, sI 6 y1, sI 5 y2, sI 4 0, sI 0 x0, sC 1 (cF 8 x1 Pt.row)], []⟩ kr ?_
          cases h3 : (decide (r5 ≤ 2))
          · have H := bifF h3 H
            refine Tr.cond (b := false) kr (fun h => nomatch h) (fun _ => ?_)
            refine Tr.skip ?_
            show Tr _ _ _ _ _
            refine Tr.at ?_
            refine LAt.runU tOk 3 kr ?_
            refine LAt.doneM 4194291 0 kr ?_
            exact Exists.intro (mo4, ((IntKind.wrap .i64 (y1 + 1)), y2)) (And.intro H (And.intro (Nat.lt_succ_self mo4) (St.sub_of [6, 5, 4, 0, 1] [] kr)))
          · have H := bifT h3 H
            refine Tr.cond (b := true) kr (fun _ => ?_) (fun h => nomatch h)
            refine Tr.at ?_
            refine LAt.runU tOk 3 kr ?_
            obtain ⟨hg6, H⟩ := guard_some H
            refine LAt.binC tOk (op := .shl) (t := 3) (ty := 185) (ty' := 3) (x := (.const (.int .i64 1))) (y := (.tmp 24)) (d := 25) (g := none) (.int .i64 1) (.int .u64 (IntKind.wrap .u64 y1)) (.int .i64 (IntKind.wrap .i64 (1 * 2 ^ min (((IntKind.wrap .u64 y1) : Int)).toNat (IntKind.bits .i64)))) _ kr kr kr kr kr (φ := (0 : Int) ≤ (IntKind.wrap .u64 y1)) kr (of_decide_eq_true hg6) rfl ?_
            refine LAt.runU tOk 2 kr ?_
            refine LAt.doneM 134119411 0 kr ?_
            show Tr _ _ _ _ _
            refine Tr.at ?_
            refine LAt.runU tOk 3 kr ?_
            refine LAt.doneM 134217715 0 kr ?_
            exact Exists.intro (mo4, ((IntKind.wrap .i64 (y1 + 1)), (IntKind.wrap .i64 (BitVec.ofInt (IntKind.bits .i64) y2 ||| BitVec.ofInt (IntKind.bits .i64) (IntKind.wrap .i64 (1 * 2 ^ min (((IntKind.wrap .u64 y1) : Int)).toNat (IntKind.bits .i64)))).toNat))) (And.intro H (And.intro (Nat.lt_succ_self mo4) (St.sub_of [6, 5, 4, 0, 1] [] kr)))
  · rintro y3 H
    have H : (spec_Sends_J1 n y3) = some r := H
    unfold spec_Sends_J1 at H
    show Tr _ _ _ _ _
    refine Tr.rs ?_
    refine LAt.runU tOk 2 kr ?_
    refine LAt.doneM 16 0 kr ?_
    refine Tr.ret ?_
    have H := Option.some.inj H
    subst H
    exact Fin.of _ [(false, [cI y3])] kr rfl rfl

def spec_l9BitF (n : Nat) (x0 : Int) (x1 : Int) : Option (Bool) :=
  ((spec_l1InF n x1 0 7).bind fun r1 => (bif r1 then (bif (decide ((0 : Int) ≤ (IntKind.wrap .u64 x1))) then (some ((IntKind.wrap .i64 (BitVec.ofInt (IntKind.bits .i64) (Int.fdiv x0 (2 ^ min (((IntKind.wrap .u64 x1) : Int)).toNat (IntKind.bits .i64))) &&& BitVec.ofInt (IntKind.bits .i64) 1).toNat) == 1)) else none) else (some false)))
/-- loop.example/g00326/spec.l9Bit -/
theorem spec_l9Bit (n : Nat) (x0 : Int) (x1 : Int) (r : Bool) (H : spec_l9BitF n x0 x1 = some r) : LCall Try.prog 146 [.val false [.lit (.int .i64 x0)], .val false [.lit (.int .i64 x1)]] [.val false [.lit (.bool r)]] [] := by
  refine LCall.of_body tOk Try.func146 rfl (c := (.seq (.region 0 (rg Try.f146 0) false) (.seq (.region 1 (rg Try.f146 1) false) .ret))) kr (Nat.le_of_ble_eq_true kr) 0 (rs := [.tmp 4]) rfl [] .nil [(false, [.lit (.bool r)])] [] [] fun cx => ?_
  show Tr _ _ _ ⟨15, 0, [sI 0 x0, sI 1 x1], []⟩ _
  unfold spec_l9BitF at H
  refine Tr.rs ?_
  refine LAt.runU tOk 1 kr ?_
  refine LAt.doneM 19 0 kr ?_
  refine Tr.rs ?_
  refine LAt.runU tOk 1 kr ?_
  obtain ⟨r1, er1, H⟩ := bind_some H
  refine LAt.callU tOk [.rd, .rd, .rd] (f := 65) (av := #[.tmp 5, .const (.int .i64 0), .const (.int .i64 7)]) (ats := #[3, 3, 3]) (d := (some 6)) (ty := 4) (g := none) kr kr kr [] (spec_l1In n x1 0 7 r1 er1) kr (.inl rfl) ?_
  refine LAt.runU tOk 1 kr ?_
  refine LAt.to ⟨15, 0, [sB 7 r1, sB 6 r1, sI 5 x1, sB 4 false, sI 0 x0, sI 1 x1], []⟩ kr ?_
  cases h1 : r1
  · have H := bifF h1 H
    refine LAt.runU tOk 8 kr ?_
    refine LAt.doneM 16 0 kr ?_
    refine Tr.ret ?_
    have H := Option.some.inj H
    subst H
    exact Fin.of _ [(false, [cB false])] kr rfl rfl
  · have H := bifT h1 H
    refine LAt.runU tOk 3 kr ?_
    obtain ⟨hg2, H⟩ := guard_some H
    refine LAt.binC tOk (op := .shr) (t := 3) (ty := 185) (ty' := 3) (x := (.tmp 8)) (y := (.tmp 10)) (d := 11) (g := (some (2, true))) (.int .i64 x0) (.int .u64 (IntKind.wrap .u64 x1)) (.int .i64 (Int.fdiv x0 (2 ^ min (((IntKind.wrap .u64 x1) : Int)).toNat (IntKind.bits .i64)))) _ kr kr kr kr kr (φ := (0 : Int) ≤ (IntKind.wrap .u64 x1)) kr (of_decide_eq_true hg2) rfl ?_
    refine LAt.runU tOk 4 kr ?_
    refine LAt.doneM 16 0 kr ?_
    refine Tr.ret ?_
    have H := Option.some.inj H
    subst H
    exact Fin.of _ [(false, [cB ((IntKind.wrap .i64 (BitVec.ofInt (IntKind.bits .i64) (Int.fdiv x0 (2 ^ min (((IntKind.wrap .u64 x1) : Int)).toNat (IntKind.bits .i64))) &&& BitVec.ofInt (IntKind.bits .i64) 1).toNat) == 1)])] kr rfl rfl

def spec_FlushPort_J1 (n : Nat) (y3 : (List Fent)) : Option ((List Fent)) :=
  (some y3)
def spec_FlushPort_L2 (n : Nat) : Nat → (List Fent) → Int → Int → (List Fent) → Option (((List Fent)) ⊕ ((List Fent)))
  | 0, _, _, _, _ => none
  | mo4 + 1, x0, x1, y1, y2 => (bif (decide (y1 < (x0.length : Int))) then ((idx x0 y1).bind fun v5 => (bif v5.Static then ((idx x0 y1).bind fun v9 => (bif (decide (y2.length + [v9].length ≤ 268435456)) then (spec_FlushPort_L2 n mo4 x0 x1 (IntKind.wrap .i64 (y1 + 1)) (y2 ++ [v9])) else none)) else ((idx x0 y1).bind fun v6 => (bif (v6.Port != x1) then ((idx x0 y1).bind fun v7 => (bif (decide (y2.length + [v7].length ≤ 268435456)) then (spec_FlushPort_L2 n mo4 x0 x1 (IntKind.wrap .i64 (y1 + 1)) (y2 ++ [v7])) else none)) else (spec_FlushPort_L2 n mo4 x0 x1 (IntKind.wrap .i64 (y1 + 1)) y2))))) else (some (Sum.inl y2)))
def spec_FlushPortF (n : Nat) (x0 : (List Fent)) (x1 : Int) : Option ((List Fent)) :=
  ((spec_FlushPort_L2 n n x0 x1 0 ([] : List Fent)).bind fun o => match o with | .inl y3 => (spec_FlushPort_J1 n y3) | .inr r => some r)
/-- loop.example/g00326/spec.FlushPort -/
theorem spec_FlushPort (n : Nat) (x0 : (List Fent)) (x1 : Int) (r : (List Fent)) (H : spec_FlushPortF n x0 x1 = some r) : LCall Try.prog 154 [.val false [.sl false 5 (CV.frzEs (x0.map Fent.row))], .val false [.lit (.int .i64 x1)]] [.val false [.sl true 5 (r.map Fent.row)]] [] := by
  refine LCall.of_body tOk Try.func154 rfl (c := (.seq (.region 0 (rg Try.f154 0) false) (.seq (.region 1 (rg Try.f154 1) false) (.seq (.seq (.region 2 (rg Try.f154 2) false) (.block 0 (.loop (.seq (.seq (.region 3 (rg Try.f154 3) false) (.cond (.tmp 11) .skip (.exit 0))) (.seq (.block 1 (.seq (.region 5 (rg Try.f154 5) false) (.cond (.tmp 27) (.region 6 (rg Try.f154 6) false) .skip))) (.region 4 (rg Try.f154 4) false)))))) (.seq (.region 7 (rg Try.f154 7) false) .ret))))) kr (Nat.le_of_ble_eq_true kr) 0 (rs := [.tmp 4]) rfl [] .nil [(false, [.sl true 5 (r.map Fent.row)])] [] [] fun cx => ?_
  show Tr _ _ _ ⟨36, 0, [sC 0 (cF 5 x0 Fent.row), sI 1 x1], []⟩ _
  unfold spec_FlushPortF at H
  refine Tr.rs ?_
  refine LAt.runU tOk 1 kr ?_
  refine LAt.doneM 19 0 kr ?_
  refine Tr.rs ?_
  refine LAt.runU tOk 1 kr ?_
  refine LAt.moveU (T := lk tab) (ty := 56) (x := (.tmp 7)) (d := 5) (g := none) false [cL 5 ([] : List Fent) Fent.row] kr kr kr kr kr ?_
  refine LAt.doneM 51 0 kr ?_
  refine Tr.seq ?_
  refine Tr.rs ?_
  refine LAt.runU tOk 1 kr ?_
  refine LAt.doneM 115 0 kr ?_
  obtain ⟨o4, eo4, Ho4⟩ := bind_some H
  clear H
  refine Tr.mid (ι := (List Fent)) (fun v => ⟨36, 0, [sC 5 (cL 5 v Fent.row), sC 4 (cL 5 ([] : List Fent) Fent.row)], []⟩) (fun v => spec_FlushPort_J1 n v = some r) ?_ ?_
  · refine Tr.block ?_
    refine Tr.loop (ι := Nat × (Int × (List Fent))) (fun v => ⟨36, 0, [sI 6 v.2.1, sC 5 (cL 5 v.2.2 Fent.row), sC 4 (cL 5 ([] : List Fent) Fent.row), sC 0 (cF 5 x0 Fent.row), sI 1 x1], []⟩) (fun v => spec_FlushPort_L2 n v.1 x0 x1 v.2.1 v.2.2 = some o4) (fun v => v.1) (n, (0, ([] : List Fent))) eo4 (St.sub_of [6, 5, 4, 0, 1] [] kr) ?_
    rintro ⟨mo4, y1, y2⟩ H
    have H : spec_FlushPort_L2 n mo4 x0 x1 y1 y2 = some o4 := H
    obtain _ | mo4 := mo4
    · cases (show (none : Option _) = some o4 from H)
    · rw [spec_FlushPort_L2] at H
      refine Tr.seq ?_
      refine Tr.rs ?_
      refine LAt.runU tOk 2 kr ?_
      refine LAt.lenE tOk (t := 56) (ty := 3) (e := 141) (x := (.tmp 9)) (d := 10) (g := none) ⟨(.slot 9), [], 0, false, 5, (CV.frzEs (x0.map Fent.row))⟩ (x0).length _ kr kr kr kr kr (frz_len _ _) rfl ?_
      refine LAt.runU tOk 1 kr ?_
      refine LAt.doneM 3955 0 kr ?_
      refine Tr.to ⟨36, 0, [sB 11 (decide (y1 < (x0.length : Int))), sI 10 (x0.length : Int), sC 9 (cF 5 x0 Fent.row), sI 8 y1, sI 6 y1, sC 5 (cL 5 y2 Fent.row), sC 4 (cL 5 ([] : List Fent) Fent.row), sC 0 (cF 5 x0 Fent.row), sI 1 x1], []⟩ kr ?_
      cases h1 : (decide (y1 < (x0.length : Int)))
      · have H := bifF h1 H
        refine Tr.cond (b := false) kr (fun h => nomatch h) (fun _ => ?_)
        refine Tr.exit ?_
        refine And.intro (fun _ => ?_) (fun h => absurd rfl h)
        have H := Option.some.inj H
        subst H
        have H := Ho4
        dsimp only at H
        exact Exists.intro y2 (And.intro H (St.sub_of [5, 4] [] kr))
      · have H := bifT h1 H
        refine Tr.cond (b := true) kr (fun _ => ?_) (fun h => nomatch h)
        refine Tr.skip ?_
        show Tr _ _ _ _ _
        refine Tr.seq ?_
        refine Tr.block ?_
        refine Tr.seq ?_
        refine Tr.at ?_
        refine LAt.runU tOk 2 kr ?_
        obtain ⟨v5, ev5, H⟩ := bind_some H
        refine LAt.indexF tOk (t := 56) (ty := 0) (x := (.tmp 14)) (y := (.tmp 15)) (d := 16) (g := none) ⟨(.slot 14), [], 0, false, 5, (CV.frzEs (x0.map Fent.row))⟩ y1 (Fent.row v5) _ kr kr kr kr rfl (idx_isF ev5) rfl ?_
        refine LAt.runU tOk 3 kr ?_
        refine LAt.to ⟨36, 0, [sB 19 v5.Static, sB 18 v5.Static, (17, .fad ([cB v5.Static])), (16, .fad ((Fent.row v5))), sI 15 y1, sC 14 (cF 5 x0 Fent.row), sB 11 true, sI 10 (x0.length : Int), sC 9 (cF 5 x0 Fent.row), sI 8 y1, sI 6 y1, sC 5 (cL 5 y2 Fent.row), sC 4 (cL 5 ([] : List Fent) Fent.row), sC 0 (cF 5 x0 Fent.row), sI 1 x1], []⟩ kr ?_
        cases h2 : v5.Static
        · have H := bifF h2 H
          refine LAt.runU tOk 2 kr ?_
          obtain ⟨v6, ev6, H⟩ := bind_some H
          refine LAt.indexF tOk (t := 56) (ty := 0) (x := (.tmp 20)) (y := (.tmp 21)) (d := 22) (g := (some (5, false))) ⟨(.slot 20), [], 0, false, 5, (CV.frzEs (x0.map Fent.row))⟩ y1 (Fent.row v6) _ kr kr kr kr rfl (idx_isF ev6) rfl ?_
          refine LAt.runU tOk 5 kr ?_
          refine LAt.doneM 268423027 0 kr ?_
          show Tr _ _ _ _ _
          refine Tr.to ⟨36, 0, [sB 27 (v6.Port != x1), sB 26 (v6.Port != x1), sI 25 x1, sI 24 v6.Port, (23, .fad (((Fent.row v6).drop 2))), (22, .fad ((Fent.row v6))), sI 21 y1, sC 20 (cF 5 x0 Fent.row), sB 19 false, sB 18 false, (17, .fad ([cB false])), (16, .fad ((Fent.row v5))), sI 15 y1, sC 14 (cF 5 x0 Fent.row), sB 11 true, sI 10 (x0.length : Int), sC 9 (cF 5 x0 Fent.row), sI 8 y1, sI 6 y1, sC 5 (cL 5 y2 Fent.row), sC 4 (cL 5 ([] : List Fent) Fent.row), sC 0 (cF 5 x0 Fent.row), sI 1 x1], []⟩ kr ?_
          cases h3 : (v6.Port != x1)
          · have H := bifF h3 H
            refine Tr.cond (b := false) kr (fun h => nomatch h) (fun _ => ?_)
            refine Tr.skip ?_
            show Tr _ _ _ _ _
            refine Tr.at ?_
            refine LAt.runU tOk 3 kr ?_
            refine LAt.doneM 268435315 0 kr ?_
            exact Exists.intro (mo4, ((IntKind.wrap .i64 (y1 + 1)), y2)) (And.intro H (And.intro (Nat.lt_succ_self mo4) (St.sub_of [6, 5, 4, 0, 1] [] kr)))
          · have H := bifT h3 H
            refine Tr.cond (b := true) kr (fun _ => ?_) (fun h => nomatch h)
            refine Tr.at ?_
            refine LAt.runU tOk 3 kr ?_
            obtain ⟨v7, ev7, H⟩ := bind_some H
            refine LAt.indexF tOk (t := 56) (ty := 0) (x := (.tmp 29)) (y := (.tmp 30)) (d := 31) (g := none) ⟨(.slot 29), [], 0, false, 5, (CV.frzEs (x0.map Fent.row))⟩ y1 (Fent.row v7) _ kr kr kr kr rfl (idx_isF ev7) rfl ?_
            refine LAt.runU tOk 2 kr ?_
            obtain ⟨hg8, H⟩ := guard_some H
            refine LAt.appMU tOk (t := 56) (ty := 56) (e := 141) (x := (.tmp 28)) (y := (.tmp 33)) (d := 34) (g := none) ⟨.st [(0, 1, 3), (1, 1, 3), (2, 1, 3), (3, 1, 3), (4, 1, 4)], 5, 40, [.lit (.int .i64 0), .lit (.int .i64 0), .lit (.int .i64 0), .lit (.int .i64 0), .lit (.bool false)]⟩ Fent.row y2 [v7] kr kr kr kr kr kr kr kr kr kr hg8 ?_
            refine LAt.moveU (T := lk tab) (ty := 56) (x := (.tmp 34)) (d := 5) (g := none) false [cL 5 (y2 ++ [v7]) Fent.row] kr kr kr kr kr ?_
            refine LAt.doneM 8321486707 0 kr ?_
            show Tr _ _ _ _ _
            refine Tr.at ?_
            refine LAt.runU tOk 3 kr ?_
            refine LAt.doneM 8321498995 0 kr ?_
            exact Exists.intro (mo4, ((IntKind.wrap .i64 (y1 + 1)), (y2 ++ [v7]))) (And.intro H (And.intro (Nat.lt_succ_self mo4) (St.sub_of [6, 5, 4, 0, 1] [] kr)))
        · have H := bifT h2 H
          refine LAt.runU tOk 8 kr ?_
          refine LAt.doneM 268423027 0 kr ?_
          show Tr _ _ _ _ _
          refine Tr.cond (b := true) kr (fun _ => ?_) (fun h => nomatch h)
          refine Tr.at ?_
          refine LAt.runU tOk 3 kr ?_
          obtain ⟨v9, ev9, H⟩ := bind_some H
          refine LAt.indexF tOk (t := 56) (ty := 0) (x := (.tmp 29)) (y := (.tmp 30)) (d := 31) (g := none) ⟨(.slot 29), [], 0, false, 5, (CV.frzEs (x0.map Fent.row))⟩ y1 (Fent.row v9) _ kr kr kr kr rfl (idx_isF ev9) rfl ?_
          refine LAt.runU tOk 2 kr ?_
          obtain ⟨hg10, H⟩ := guard_some H
          refine LAt.appMU tOk (t := 56) (ty := 56) (e := 141) (x := (.tmp 28)) (y := (.tmp 33)) (d := 34) (g := none) ⟨.st [(0, 1, 3), (1, 1, 3), (2, 1, 3), (3, 1, 3), (4, 1, 4)], 5, 40, [.lit (.int .i64 0), .lit (.int .i64 0), .lit (.int .i64 0), .lit (.int .i64 0), .lit (.bool false)]⟩ Fent.row y2 [v9] kr kr kr kr kr kr kr kr kr kr hg10 ?_
          refine LAt.moveU (T := lk tab) (ty := 56) (x := (.tmp 34)) (d := 5) (g := none) false [cL 5 (y2 ++ [v9]) Fent.row] kr kr kr kr kr ?_
          refine LAt.doneM 8321486707 0 kr ?_
          show Tr _ _ _ _ _
          refine Tr.at ?_
          refine LAt.runU tOk 3 kr ?_
          refine LAt.doneM 8321498995 0 kr ?_
          exact Exists.intro (mo4, ((IntKind.wrap .i64 (y1 + 1)), (y2 ++ [v9]))) (And.intro H (And.intro (Nat.lt_succ_self mo4) (St.sub_of [6, 5, 4, 0, 1] [] kr)))
  · rintro y3 H
    have H : (spec_FlushPort_J1 n y3) = some r := H
    unfold spec_FlushPort_J1 at H
    show Tr _ _ _ _ _
    refine Tr.rs ?_
    refine LAt.runU tOk 2 kr ?_
    refine LAt.doneM 48 0 kr ?_
    refine Tr.ret ?_
    have H := Option.some.inj H
    subst H
    exact Fin.of _ [(false, [cL 5 y3 Fent.row])] kr rfl rfl

def spec_l11Turned_J1 (n : Nat) (r1 : Int) (x0 : Bridge) (y5 : (List Fent)) : Option (Bridge) :=
  (some (⟨x0.Id, x0.Name, x0.Ports, y5, x0.V, x0.Ticks, x0.Parse, x0.Word, x0.Drops, r1⟩ : Bridge))
def spec_l11Turned_L2 (n : Nat) : Nat → Int → Bridge → Int → (List Fent) → Option (((List Fent)) ⊕ (Bridge))
  | 0, _, _, _, _ => none
  | mo6 + 1, r2, x0, y3, y4 => (bif (decide (y3 < (x0.Ports.length : Int))) then ((spec_l9BitF n r2 y3).bind fun r7 => (bif (!r7) then ((spec_FlushPortF n y4 y3).bind fun r8 => (spec_l11Turned_L2 n mo6 r2 x0 (IntKind.wrap .i64 (y3 + 1)) r8)) else (spec_l11Turned_L2 n mo6 r2 x0 (IntKind.wrap .i64 (y3 + 1)) y4))) else (some (Sum.inl y4)))
def spec_l11TurnedF (n : Nat) (x0 : Bridge) : Option (Bridge) :=
  ((spec_l11OneF n x0.Vers).bind fun r1 => ((spec_SendsF n x0.Id x0.Ports).bind fun r2 => ((spec_l11Turned_L2 n n r2 x0 0 x0.F).bind fun o => match o with | .inl y5 => (spec_l11Turned_J1 n r1 x0 y5) | .inr r => some r)))
/-- loop.example/g00326/spec.l11Turned -/
theorem spec_l11Turned (n : Nat) (x0 : Bridge) (r : Bridge) (H : spec_l11TurnedF n x0 = some r) : LCall Try.prog 99 [.own true (Bridge.row x0)] [.val true (Bridge.row r)] [] := by
  refine LCall.of_body tOk Try.func99 rfl (c := (.seq (.region 0 (rg Try.f99 0) false) (.seq (.region 1 (rg Try.f99 1) false) (.seq (.region 2 (rg Try.f99 2) false) (.seq (.seq (.region 3 (rg Try.f99 3) false) (.block 0 (.loop (.seq (.seq (.region 4 (rg Try.f99 4) false) (.cond (.tmp 18) .skip (.exit 0))) (.seq (.block 1 (.seq (.region 6 (rg Try.f99 6) false) (.cond (.tmp 24) (.region 7 (rg Try.f99 7) false) .skip))) (.region 5 (rg Try.f99 5) false)))))) (.seq (.region 8 (rg Try.f99 8) false) .ret)))))) kr (Nat.le_of_ble_eq_true kr) 0 (rs := [.cell 2 61]) rfl [] .nil [(true, (Bridge.row r))] [] [] fun cx => ?_
  show Tr _ _ _ ⟨31, 0, [sV 0 (Bridge.row x0)], []⟩ _
  unfold spec_l11TurnedF at H
  refine Tr.rs ?_
  refine LAt.runU tOk 2 kr ?_
  refine LAt.doneM 6 6 kr ?_
  refine Tr.rs ?_
  refine LAt.runU tOk 2 kr ?_
  obtain ⟨r1, er1, H⟩ := bind_some H
  refine LAt.callU tOk [.rd] (f := 116) (av := #[.tmp 6]) (ats := #[3]) (d := (some 7)) (ty := 3) (g := none) kr kr kr [] (spec_l11One n x0.Vers r1 er1) kr (.inl rfl) ?_
  refine LAt.runU tOk 2 kr ?_
  refine LAt.doneM 6 6 kr ?_
  refine Tr.rs ?_
  refine LAt.runU tOk 4 kr ?_
  obtain ⟨r2, er2, H⟩ := bind_some H
  refine LAt.callU tOk [.rd, .rd] (f := 147) (av := #[.tmp 10, .tmp 12]) (ats := #[3, 55]) (d := (some 13)) (ty := 3) (g := none) kr kr kr [.box 1] (spec_Sends n x0.Id x0.Ports r2 er2) kr (.inr (rets_cons (mine_cons mine_lit mine_nil) rets_nil)) ?_
  refine LAt.runU tOk 1 kr ?_
  refine LAt.doneM 14 6 kr ?_
  refine Tr.seq ?_
  refine Tr.rs ?_
  refine LAt.runU tOk 1 kr ?_
  refine LAt.doneM 30 6 kr ?_
  obtain ⟨o6, eo6, Ho6⟩ := bind_some H
  clear H
  refine Tr.mid (ι := (List Fent)) (fun v => ⟨31, 0, [sA 2 2 11 0, sA 1 1 11 0], [(1, [cI x0.Id, cS x0.Name, cL 8 x0.Ports Pt.row, cL 5 v Fent.row, cL 3 x0.V.Rows Vrow.row, cL 1 x0.V.Pvid intRow, cI x0.Ticks, cI x0.Parse, cI x0.Word, cI x0.Drops, cI r1]), (2, [cI 0, cS (⟨#[]⟩ : ByteArray), cL 8 ([] : List Pt) Pt.row, cL 5 ([] : List Fent) Fent.row, cL 3 ([] : List Vrow) Vrow.row, cL 1 ([] : List Int) intRow, cI 0, cI 0, cI 0, cI 0, cI 0])]⟩) (fun v => spec_l11Turned_J1 n r1 x0 v = some r) ?_ ?_
  · refine Tr.block ?_
    refine Tr.loop (ι := Nat × (Int × (List Fent))) (fun v => ⟨31, 0, [sI 4 v.2.1, sI 3 r2, sA 2 2 11 0, sA 1 1 11 0], [(1, [cI x0.Id, cS x0.Name, cL 8 x0.Ports Pt.row, cL 5 v.2.2 Fent.row, cL 3 x0.V.Rows Vrow.row, cL 1 x0.V.Pvid intRow, cI x0.Ticks, cI x0.Parse, cI x0.Word, cI x0.Drops, cI r1]), (2, [cI 0, cS (⟨#[]⟩ : ByteArray), cL 8 ([] : List Pt) Pt.row, cL 5 ([] : List Fent) Fent.row, cL 3 ([] : List Vrow) Vrow.row, cL 1 ([] : List Int) intRow, cI 0, cI 0, cI 0, cI 0, cI 0])]⟩) (fun v => spec_l11Turned_L2 n v.1 r2 x0 v.2.1 v.2.2 = some o6) (fun v => v.1) (n, (0, x0.F)) eo6 (St.sub_of [4, 3, 2, 1] [1, 2] kr) ?_
    rintro ⟨mo6, y3, y4⟩ H
    have H : spec_l11Turned_L2 n mo6 r2 x0 y3 y4 = some o6 := H
    obtain _ | mo6 := mo6
    · cases (show (none : Option _) = some o6 from H)
    · rw [spec_l11Turned_L2] at H
      refine Tr.seq ?_
      refine Tr.rs ?_
      refine LAt.runU tOk 3 kr ?_
      refine LAt.lenE tOk (t := 55) (ty := 3) (e := 114) (x := (.tmp 16)) (d := 17) (g := none) ⟨(.box 1), [(0, 0)], 2, true, 8, (x0.Ports.map Pt.row)⟩ (x0.Ports).length _ kr kr kr kr kr (map_len _ _) rfl ?_
      refine LAt.runU tOk 1 kr ?_
      refine LAt.doneM 507934 6 kr ?_
      refine Tr.to ⟨31, 0, [sB 18 (decide (y3 < (x0.Ports.length : Int))), sI 17 (x0.Ports.length : Int), sR 16 1 11 2 1 false, sA 15 1 11 2, sI 14 y3, sI 4 y3, sI 3 r2, sA 2 2 11 0, sA 1 1 11 0], [(1, [cI x0.Id, cS x0.Name, cL 8 x0.Ports Pt.row, cL 5 y4 Fent.row, cL 3 x0.V.Rows Vrow.row, cL 1 x0.V.Pvid intRow, cI x0.Ticks, cI x0.Parse, cI x0.Word, cI x0.Drops, cI r1]), (2, [cI 0, cS (⟨#[]⟩ : ByteArray), cL 8 ([] : List Pt) Pt.row, cL 5 ([] : List Fent) Fent.row, cL 3 ([] : List Vrow) Vrow.row, cL 1 ([] : List Int) intRow, cI 0, cI 0, cI 0, cI 0, cI 0])]⟩ kr ?_
      cases h1 : (decide (y3 < (x0.Ports.length : Int)))
      · have H := bifF h1 H
        refine Tr.cond (b := false) kr (fun h => nomatch h) (fun _ => ?_)
        refine Tr.exit ?_
        refine And.intro (fun _ => ?_) (fun h => absurd rfl h)
        have H := Option.some.inj H
        subst H
        have H := Ho6
        dsimp only at H
        exact Exists.intro y4 (And.intro H (St.sub_of [2, 1] [1, 2] kr))
      · have H := bifT h1 H
        refine Tr.cond (b := true) kr (fun _ => ?_) (fun h => nomatch h)
        refine Tr.skip ?_
        show Tr _ _ _ _ _
        refine Tr.seq ?_
        refine Tr.block ?_
        refine Tr.rs ?_
        refine LAt.runU tOk 2 kr ?_
        obtain ⟨r7, er7, H⟩ := bind_some H
        refine LAt.callU tOk [.rd, .rd] (f := 146) (av := #[.tmp 21, .tmp 22]) (ats := #[3, 3]) (d := (some 23)) (ty := 4) (g := none) kr kr kr [] (spec_l9Bit n r2 y3 r7 er7) kr (.inl rfl) ?_
        refine LAt.runU tOk 1 kr ?_
        refine LAt.doneM 31965214 6 kr ?_
        refine Tr.to ⟨31, 0, [sB 24 (!r7), sB 23 r7, sI 22 y3, sI 21 r2, sB 18 true, sI 17 (x0.Ports.length : Int), sR 16 1 11 2 1 false, sA 15 1 11 2, sI 14 y3, sI 4 y3, sI 3 r2, sA 2 2 11 0, sA 1 1 11 0], [(1, [cI x0.Id, cS x0.Name, cL 8 x0.Ports Pt.row, cL 5 y4 Fent.row, cL 3 x0.V.Rows Vrow.row, cL 1 x0.V.Pvid intRow, cI x0.Ticks, cI x0.Parse, cI x0.Word, cI x0.Drops, cI r1]), (2, [cI 0, cS (⟨#[]⟩ : ByteArray), cL 8 ([] : List Pt) Pt.row, cL 5 ([] : List Fent) Fent.row, cL 3 ([] : List Vrow) Vrow.row, cL 1 ([] : List Int) intRow, cI 0, cI 0, cI 0, cI 0, cI 0])]⟩ kr ?_
        cases h2 : (!r7)
        · have H := bifF h2 H
          refine Tr.cond (b := false) kr (fun h => nomatch h) (fun _ => ?_)
          refine Tr.skip ?_
          show Tr _ _ _ _ _
          refine Tr.at ?_
          refine LAt.runU tOk 3 kr ?_
          refine LAt.doneM 33538078 6 kr ?_
          exact Exists.intro (mo6, ((IntKind.wrap .i64 (y3 + 1)), y4)) (And.intro H (And.intro (Nat.lt_succ_self mo6) (St.sub_of [4, 3, 2, 1] [1, 2] kr)))
        · have H := bifT h2 H
          refine Tr.cond (b := true) kr (fun _ => ?_) (fun h => nomatch h)
          refine Tr.at ?_
          refine LAt.runU tOk 3 kr ?_
          obtain ⟨r8, er8, H⟩ := bind_some H
          refine LAt.callU tOk [.rd, .rd] (f := 154) (av := #[.tmp 26, .tmp 27]) (ats := #[56, 3]) (d := (some 28)) (ty := 56) (g := none) kr kr kr [.box 1] (spec_FlushPort n y4 y3 r8 er8) kr (.inr (rets_cons (mine_cons (mine_sl (mine_map Fent.row_mine _)) mine_nil) rets_nil)) ?_
          refine LAt.runU tOk 2 kr ?_
          refine LAt.doneM 736542750 6 kr ?_
          show Tr _ _ _ _ _
          refine Tr.at ?_
          refine LAt.runU tOk 3 kr ?_
          refine LAt.doneM 738115614 6 kr ?_
          exact Exists.intro (mo6, ((IntKind.wrap .i64 (y3 + 1)), r8)) (And.intro H (And.intro (Nat.lt_succ_self mo6) (St.sub_of [4, 3, 2, 1] [1, 2] kr)))
  · rintro y5 H
    have H : (spec_l11Turned_J1 n r1 x0 y5) = some r := H
    unfold spec_l11Turned_J1 at H
    show Tr _ _ _ _ _
    refine Tr.rs ?_
    refine LAt.runU tOk 2 kr ?_
    refine LAt.doneM 4 4 kr ?_
    refine Tr.ret ?_
    have H := Option.some.inj H
    subst H
    exact Fin.of _ [(true, [cI x0.Id, cS x0.Name, cL 8 x0.Ports Pt.row, cL 5 y5 Fent.row, cL 3 x0.V.Rows Vrow.row, cL 1 x0.V.Pvid intRow, cI x0.Ticks, cI x0.Parse, cI x0.Word, cI x0.Drops, cI r1])] kr rfl rfl

def spec_HearVecF (n : Nat) (x0 : Bridge) (x1 : Int) (x2 : Vec) : Option (Bridge) :=
  ((spec_l11CopyF n x0).bind fun r1 => ((spec_l11ThereF n x0 x1).bind fun r2 => (bif (!r2) then (some r1) else ((idx x0.Ports x1).bind fun v3 => (bif (!v3.Up) then (some r1) else ((spec_VecOkF n x2).bind fun r4 => (bif (!r4) then (some r1) else ((idx r1.Ports x1).bind fun v5 => ((idx (r1.Ports.set (x1.toNat) (⟨v5.Up, v5.Cost, true, v5.Heard⟩ : Pt)) x1).bind fun v6 => ((spec_l11TurnedF n (⟨r1.Id, r1.Name, ((r1.Ports.set (x1.toNat) (⟨v5.Up, v5.Cost, true, v5.Heard⟩ : Pt)).set (x1.toNat) (⟨v6.Up, v6.Cost, v6.Has, x2⟩ : Pt)), r1.F, r1.V, r1.Ticks, r1.Parse, r1.Word, r1.Drops, r1.Vers⟩ : Bridge)).bind fun r7 => (some r7)))))))))))
/-- loop.example/g00326/spec.HearVec -/
theorem spec_HearVec (n : Nat) (x0 : Bridge) (x1 : Int) (x2 : Vec) (r : Bridge) (H : spec_HearVecF n x0 x1 x2 = some r) : LCall Try.prog 42 [.val true (CV.frzRow (Bridge.row x0)), .val false [.lit (.int .i64 x1)], .val true (CV.frzRow (Vec.row x2))] [.val true (Bridge.row r)] [] := by
  refine LCall.of_body tOk Try.func42 rfl (c := (.seq (.region 0 (rg Try.f42 0) false) (.seq (.region 1 (rg Try.f42 1) false) (.seq (.seq (.region 2 (rg Try.f42 2) false) (.cond (.tmp 27) (.seq (.region 3 (rg Try.f42 3) false) .ret) .skip)) (.seq (.region 4 (rg Try.f42 4) false) (.seq (.region 5 (rg Try.f42 5) false) (.seq (.region 6 (rg Try.f42 6) false) .ret))))))) kr (Nat.le_of_ble_eq_true kr) 0 (rs := [.cell 6 61]) rfl [] .nil [(true, (Bridge.row r))] [] [] fun cx => ?_
  show Tr _ _ _ ⟨42, 0, [sV 0 (CV.frzRow (Bridge.row x0)), sI 1 x1, sV 2 (Vec.row x2)], []⟩ _
  unfold spec_HearVecF at H
  refine Tr.rs ?_
  refine LAt.runU tOk 3 kr ?_
  refine LAt.doneM 106 104 kr ?_
  refine Tr.rs ?_
  refine LAt.runU tOk 1 kr ?_
  obtain ⟨r1, er1, H⟩ := bind_some H
  refine LAt.callU tOk [.rd] (f := 97) (av := #[.tmp 8]) (ats := #[61]) (d := (some 9)) (ty := 61) (g := none) kr kr kr [] (spec_l11Copy n x0 r1 er1) kr (.inl rfl) ?_
  refine LAt.runU tOk 2 kr ?_
  refine LAt.doneM 234 232 kr ?_
  refine Tr.seq ?_
  refine Tr.rs ?_
  refine LAt.runU tOk 2 kr ?_
  obtain ⟨r2, er2, H⟩ := bind_some H
  refine LAt.callU tOk [.rd, .rd] (f := 98) (av := #[.tmp 10, .tmp 11]) (ats := #[61, 3]) (d := (some 12)) (ty := 4) (g := none) kr kr kr [] (spec_l11There n x0 x1 r2 er2) kr (.inl rfl) ?_
  refine LAt.runU tOk 2 kr ?_
  refine LAt.to ⟨42, 0, [sB 14 (!r2), sB 13 (!r2), sB 12 r2, sI 11 x1, sV 10 (CV.frzRow (Bridge.row x0)), sA 7 7 11 0, sA 6 6 11 0, sA 5 5 5 0, sA 3 3 11 0, sI 1 x1], [(7, (Bridge.row r1)), (6, [cI 0, cS (⟨#[]⟩ : ByteArray), cL 8 ([] : List Pt) Pt.row, cL 5 ([] : List Fent) Fent.row, cL 3 ([] : List Vrow) Vrow.row, cL 1 ([] : List Int) intRow, cI 0, cI 0, cI 0, cI 0, cI 0]), (5, (Vec.row x2)), (3, (CV.frzRow (Bridge.row x0)))]⟩ kr ?_
  cases h1 : (!r2)
  · have H := bifF h1 H
    refine LAt.runU tOk 3 kr ?_
    obtain ⟨v3, ev3, H⟩ := bind_some H
    refine LAt.indexF tOk (t := 55) (ty := 0) (x := (.tmp 16)) (y := (.tmp 17)) (d := 18) (g := (some (4, false))) ⟨(.slot 16), [], 0, false, 8, (CV.frzEs (x0.Ports.map Pt.row))⟩ x1 (Pt.row v3) _ kr kr kr kr rfl (idx_isF ev3) rfl ?_
    refine LAt.runU tOk 5 kr ?_
    refine LAt.to ⟨42, 0, [sB 23 (!v3.Up), sB 22 (!v3.Up), sB 21 (!v3.Up), sB 20 v3.Up, (19, .fad ((Pt.row v3))), (18, .fad ((Pt.row v3))), sI 17 x1, sC 16 (cF 8 x0.Ports Pt.row), sA 15 3 11 2, sB 14 false, sB 13 false, sB 12 r2, sI 11 x1, sV 10 (CV.frzRow (Bridge.row x0)), sA 7 7 11 0, sA 6 6 11 0, sA 5 5 5 0, sA 3 3 11 0, sI 1 x1], [(7, (Bridge.row r1)), (6, [cI 0, cS (⟨#[]⟩ : ByteArray), cL 8 ([] : List Pt) Pt.row, cL 5 ([] : List Fent) Fent.row, cL 3 ([] : List Vrow) Vrow.row, cL 1 ([] : List Int) intRow, cI 0, cI 0, cI 0, cI 0, cI 0]), (5, (Vec.row x2)), (3, (CV.frzRow (Bridge.row x0)))]⟩ kr ?_
    cases h2 : (!v3.Up)
    · have H := bifF h2 H
      refine LAt.runU tOk 1 kr ?_
      obtain ⟨r4, er4, H⟩ := bind_some H
      refine LAt.callU tOk [.rd] (f := 87) (av := #[.tmp 24]) (ats := #[70]) (d := (some 25)) (ty := 4) (g := (some (13, false))) kr kr kr [] (spec_VecOk n x2 r4 er4) kr (.inl rfl) ?_
      refine LAt.runU tOk 2 kr ?_
      refine LAt.doneM 134217954 224 kr ?_
      refine Tr.to ⟨42, 0, [sB 27 (!r4), sA 7 7 11 0, sA 6 6 11 0, sA 5 5 5 0, sI 1 x1], [(7, (Bridge.row r1)), (6, [cI 0, cS (⟨#[]⟩ : ByteArray), cL 8 ([] : List Pt) Pt.row, cL 5 ([] : List Fent) Fent.row, cL 3 ([] : List Vrow) Vrow.row, cL 1 ([] : List Int) intRow, cI 0, cI 0, cI 0, cI 0, cI 0]), (5, (Vec.row x2))]⟩ kr ?_
      cases h3 : (!r4)
      · have H := bifF h3 H
        refine Tr.cond (b := false) kr (fun h => nomatch h) (fun _ => ?_)
        refine Tr.skip ?_
        show Tr _ _ _ _ _
        refine Tr.rs ?_
        refine LAt.runU tOk 3 kr ?_
        obtain ⟨v5, ev5, H⟩ := bind_some H
        refine LAt.indexO tOk (t := 55) (ty := 0) (x := (.tmp 30)) (y := (.tmp 31)) (d := 32) (g := none) ⟨(.box 7), [(0, 0)], 2, true, 8, (r1.Ports.map Pt.row)⟩ x1 (x1.toNat) (Pt.row v5) _ kr kr kr kr rfl kr (idx_isE ev5) rfl rfl ?_
        refine LAt.runU tOk 1 kr ?_
        refine LAt.storeK tOk (t := 4) (ty := 0) (ad := (.tmp 33)) (x := (.const (.bool true))) (g := none) ⟨.bool, 1, 1, [.lit (.bool false)]⟩ false [cB true] (.box 7) [(0, 0), (2, (x1.toNat))] [(2, (x1.toNat))] 8 2 [.sl true 11 [(Bridge.row r1)]] (Pt.row v5) (Bridge.row r1) [cI r1.Id, cS r1.Name, cL 8 (r1.Ports.set (x1.toNat) (⟨v5.Up, v5.Cost, true, v5.Heard⟩ : Pt)) Pt.row, cL 5 r1.F Fent.row, cL 3 r1.V.Rows Vrow.row, cL 1 r1.V.Pvid intRow, cI r1.Ticks, cI r1.Parse, cI r1.Word, cI r1.Drops, cI r1.Vers] kr kr kr kr kr kr (getQ_elemB rfl (idx_get ev5).2) rfl (by intro h; cases h) kr kr kr (modQ_elem (new := (⟨v5.Up, v5.Cost, true, v5.Heard⟩ : Pt)) rfl (idx_get ev5).2 rfl) kr ?_
        refine LAt.doneM 226 224 kr ?_
        refine Tr.rs ?_
        refine LAt.runU tOk 4 kr ?_
        obtain ⟨v6, ev6, H⟩ := bind_some H
        refine LAt.indexO tOk (t := 55) (ty := 0) (x := (.tmp 35)) (y := (.tmp 36)) (d := 38) (g := none) ⟨(.box 7), [(0, 0)], 2, true, 8, ((r1.Ports.set (x1.toNat) (⟨v5.Up, v5.Cost, true, v5.Heard⟩ : Pt)).map Pt.row)⟩ x1 (x1.toNat) (Pt.row v6) _ kr kr kr kr rfl kr (idx_isE ev6) rfl rfl ?_
        refine LAt.runU tOk 1 kr ?_
        refine LAt.storeK tOk (t := 70) (ty := 0) (ad := (.tmp 39)) (x := (.tmp 37)) (g := none) ⟨.st [(0, 1, 3), (1, 1, 3), (2, 1, 3), (3, 1, 3), (4, 1, 3)], 5, 40, [.lit (.int .i64 0), .lit (.int .i64 0), .lit (.int .i64 0), .lit (.int .i64 0), .lit (.int .i64 0)]⟩ true (Vec.row x2) (.box 7) [(0, 0), (2, (x1.toNat))] [(2, (x1.toNat))] 8 3 [.sl true 11 [[cI r1.Id, cS r1.Name, cL 8 (r1.Ports.set (x1.toNat) (⟨v5.Up, v5.Cost, true, v5.Heard⟩ : Pt)) Pt.row, cL 5 r1.F Fent.row, cL 3 r1.V.Rows Vrow.row, cL 1 r1.V.Pvid intRow, cI r1.Ticks, cI r1.Parse, cI r1.Word, cI r1.Drops, cI r1.Vers]]] (Pt.row v6) [cI r1.Id, cS r1.Name, cL 8 (r1.Ports.set (x1.toNat) (⟨v5.Up, v5.Cost, true, v5.Heard⟩ : Pt)) Pt.row, cL 5 r1.F Fent.row, cL 3 r1.V.Rows Vrow.row, cL 1 r1.V.Pvid intRow, cI r1.Ticks, cI r1.Parse, cI r1.Word, cI r1.Drops, cI r1.Vers] [cI r1.Id, cS r1.Name, cL 8 ((r1.Ports.set (x1.toNat) (⟨v5.Up, v5.Cost, true, v5.Heard⟩ : Pt)).set (x1.toNat) (⟨v6.Up, v6.Cost, v6.Has, x2⟩ : Pt)) Pt.row, cL 5 r1.F Fent.row, cL 3 r1.V.Rows Vrow.row, cL 1 r1.V.Pvid intRow, cI r1.Ticks, cI r1.Parse, cI r1.Word, cI r1.Drops, cI r1.Vers] kr kr kr kr kr kr (getQ_elemB rfl (idx_get ev6).2) rfl (by intro h; cases h) kr kr kr (modQ_elem (new := (⟨v6.Up, v6.Cost, v6.Has, x2⟩ : Pt)) rfl (idx_get ev6).2 rfl) kr ?_
        refine LAt.doneM 192 192 kr ?_
        refine Tr.rs ?_
        refine LAt.runU tOk 1 kr ?_
        obtain ⟨r7, er7, H⟩ := bind_some H
        refine LAt.callU tOk [.own] (f := 99) (av := #[.tmp 40]) (ats := #[61]) (d := (some 41)) (ty := 61) (g := none) kr kr kr [] (spec_l11Turned n (⟨r1.Id, r1.Name, ((r1.Ports.set (x1.toNat) (⟨v5.Up, v5.Cost, true, v5.Heard⟩ : Pt)).set (x1.toNat) (⟨v6.Up, v6.Cost, v6.Has, x2⟩ : Pt)), r1.F, r1.V, r1.Ticks, r1.Parse, r1.Word, r1.Drops, r1.Vers⟩ : Bridge) r7 er7) kr (.inl rfl) ?_
        refine LAt.runU tOk 1 kr ?_
        refine LAt.doneM 64 64 kr ?_
        refine Tr.ret ?_
        have H := Option.some.inj H
        subst H
        exact Fin.of _ [(true, (Bridge.row r7))] kr rfl rfl
      · have H := bifT h3 H
        refine Tr.cond (b := true) kr (fun _ => ?_) (fun h => nomatch h)
        refine Tr.rs ?_
        refine LAt.runU tOk 2 kr ?_
        refine LAt.doneM 226 224 kr ?_
        refine Tr.ret ?_
        have H := Option.some.inj H
        subst H
        exact Fin.of _ [(true, (Bridge.row r1))] kr rfl rfl
    · have H := bifT h2 H
      refine LAt.runU tOk 4 kr ?_
      refine LAt.doneM 134217954 224 kr ?_
      refine Tr.cond (b := true) kr (fun _ => ?_) (fun h => nomatch h)
      refine Tr.rs ?_
      refine LAt.runU tOk 2 kr ?_
      refine LAt.doneM 226 224 kr ?_
      refine Tr.ret ?_
      have H := Option.some.inj H
      subst H
      exact Fin.of _ [(true, (Bridge.row r1))] kr rfl rfl
  · have H := bifT h1 H
    refine LAt.runU tOk 13 kr ?_
    refine LAt.doneM 134217954 224 kr ?_
    refine Tr.cond (b := true) kr (fun _ => ?_) (fun h => nomatch h)
    refine Tr.rs ?_
    refine LAt.runU tOk 2 kr ?_
    refine LAt.doneM 226 224 kr ?_
    refine Tr.ret ?_
    have H := Option.some.inj H
    subst H
    exact Fin.of _ [(true, (Bridge.row r1))] kr rfl rfl

def impl_copyFdbF (n : Nat) (x0 : (List Fent)) : Option ((List Fent)) :=
  (bif (decide (([] : List Fent).length + x0.length ≤ 268435456)) then (some (([] : List Fent) ++ x0)) else none)
/-- loop.example/g00326/impl.copyFdb -/
theorem impl_copyFdb (n : Nat) (x0 : (List Fent)) (r : (List Fent)) (H : impl_copyFdbF n x0 = some r) : LCall Try.prog 158 [.val false [.sl false 5 (CV.frzEs (x0.map Fent.row))]] [.val false [.sl true 5 (r.map Fent.row)]] [] := by
  refine LCall.of_body tOk Try.func158 rfl (c := (.seq (.region 0 (rg Try.f158 0) false) (.seq (.region 1 (rg Try.f158 1) false) .ret))) kr (Nat.le_of_ble_eq_true kr) 0 (rs := [.tmp 2]) rfl [] .nil [(false, [.sl true 5 (r.map Fent.row)])] [] [] fun cx => ?_
  show Tr _ _ _ ⟨5, 0, [sC 0 (cF 5 x0 Fent.row)], []⟩ _
  unfold impl_copyFdbF at H
  refine Tr.rs ?_
  refine LAt.runU tOk 1 kr ?_
  refine LAt.doneM 5 0 kr ?_
  refine Tr.rs ?_
  refine LAt.runU tOk 1 kr ?_
  obtain ⟨hg1, H⟩ := guard_some H
  refine LAt.appCU tOk (t := 56) (ty := 56) (e := 141) (x := (.const (.slice none 0 0))) (y := (.tmp 3)) (d := 4) (g := none) ⟨.st [(0, 1, 3), (1, 1, 3), (2, 1, 3), (3, 1, 3), (4, 1, 4)], 5, 40, [.lit (.int .i64 0), .lit (.int .i64 0), .lit (.int .i64 0), .lit (.int .i64 0), .lit (.bool false)]⟩ Fent.row ([] : List Fent) x0 ⟨(.slot 3), [], 0, false, 5, (CV.frzEs (x0.map Fent.row))⟩ kr kr kr kr kr kr kr kr kr kr kr (.inr rfl) (fun _ => rfl) (fun _ => rfl) hg1 ?_
  refine LAt.moveU (T := lk tab) (ty := 56) (x := (.tmp 4)) (d := 2) (g := none) false [cL 5 (([] : List Fent) ++ x0) Fent.row] kr kr kr kr kr ?_
  refine LAt.doneM 4 0 kr ?_
  refine Tr.ret ?_
  have H := Option.some.inj H
  subst H
  exact Fin.of _ [(false, [cL 5 (([] : List Fent) ++ x0) Fent.row])] kr rfl rfl

def impl_copyIntsF (n : Nat) (x0 : (List Int)) : Option ((List Int)) :=
  (bif (decide (([] : List Int).length + x0.length ≤ 268435456)) then (some (([] : List Int) ++ x0)) else none)
/-- loop.example/g00326/impl.copyInts -/
theorem impl_copyInts (n : Nat) (x0 : (List Int)) (r : (List Int)) (H : impl_copyIntsF n x0 = some r) : LCall Try.prog 71 [.val false [.sl false 1 (CV.frzEs (x0.map intRow))]] [.val false [.sl true 1 (r.map intRow)]] [] := by
  refine LCall.of_body tOk Try.func71 rfl (c := (.seq (.region 0 (rg Try.f71 0) false) (.seq (.region 1 (rg Try.f71 1) false) .ret))) kr (Nat.le_of_ble_eq_true kr) 0 (rs := [.tmp 2]) rfl [] .nil [(false, [.sl true 1 (r.map intRow)])] [] [] fun cx => ?_
  show Tr _ _ _ ⟨5, 0, [sC 0 (cF 1 x0 intRow)], []⟩ _
  unfold impl_copyIntsF at H
  refine Tr.rs ?_
  refine LAt.runU tOk 1 kr ?_
  refine LAt.doneM 5 0 kr ?_
  refine Tr.rs ?_
  refine LAt.runU tOk 1 kr ?_
  obtain ⟨hg1, H⟩ := guard_some H
  refine LAt.appCU tOk (t := 27) (ty := 27) (e := 3) (x := (.const (.slice none 0 0))) (y := (.tmp 3)) (d := 4) (g := none) ⟨.int .i64, 1, 8, [.lit (.int .i64 0)]⟩ intRow ([] : List Int) x0 ⟨(.slot 3), [], 0, false, 1, (CV.frzEs (x0.map intRow))⟩ kr kr kr kr kr kr kr kr kr kr kr (.inr rfl) (fun _ => rfl) (fun _ => rfl) hg1 ?_
  refine LAt.moveU (T := lk tab) (ty := 27) (x := (.tmp 4)) (d := 2) (g := none) false [cL 1 (([] : List Int) ++ x0) intRow] kr kr kr kr kr ?_
  refine LAt.doneM 4 0 kr ?_
  refine Tr.ret ?_
  have H := Option.some.inj H
  subst H
  exact Fin.of _ [(false, [cL 1 (([] : List Int) ++ x0) intRow])] kr rfl rfl

def impl_copyVtabF (n : Nat) (x0 : Vtab) : Option (Vtab) :=
  (bif (decide (([] : List Vrow).length + x0.Rows.length ≤ 268435456)) then ((impl_copyIntsF n x0.Pvid).bind fun r2 => (some (⟨(([] : List Vrow) ++ x0.Rows), r2⟩ : Vtab))) else none)
/-- loop.example/g00326/impl.copyVtab -/
theorem impl_copyVtab (n : Nat) (x0 : Vtab) (r : Vtab) (H : impl_copyVtabF n x0 = some r) : LCall Try.prog 159 [.val true (CV.frzRow (Vtab.row x0))] [.val true (Vtab.row r)] [] := by
  refine LCall.of_body tOk Try.func159 rfl (c := (.seq (.region 0 (rg Try.f159 0) false) (.seq (.region 1 (rg Try.f159 1) true) .ret))) kr (Nat.le_of_ble_eq_true kr) 0 (rs := [.cell 2 59]) rfl [] .nil [(true, (Vtab.row r))] [] [] fun cx => ?_
  show Tr _ _ _ ⟨10, 0, [sV 0 (CV.frzRow (Vtab.row x0))], []⟩ _
  unfold impl_copyVtabF at H
  refine Tr.rs ?_
  refine LAt.runU tOk 2 kr ?_
  refine LAt.doneM 6 6 kr ?_
  obtain ⟨hg1, H⟩ := guard_some H
  obtain ⟨r2, er2, H⟩ := bind_some H
  refine Tr.draws mixed 8 kr ⟨10, 0, [sA 2 2 2 0], [(2, [cL 3 (([] : List Vrow) ++ x0.Rows) Vrow.row, cL 1 r2 intRow])]⟩ (fun cx => ?_) ?_
  · refine AT.runU tOk [(0, []), (1, [2, 5, 6, 7]), (3, []), (4, [5, 6, 7])] 4 [⟨[5, 6, 7], 27, 6, 7⟩, ⟨[2, 5, 6, 7], 57, 3, 4⟩] [4, 3, 1, 0] rfl kr (fun cx => ?_)
    refine AT.big1 tOk 2 kr kr ?_
    refine LAt.appCU tOk (t := 57) (ty := 57) (e := 138) (x := (.const (.slice none 0 0))) (y := (.tmp 4)) (d := 5) (g := none) ⟨.st [(0, 1, 3), (1, 1, 3), (2, 1, 3)], 3, 24, [.lit (.int .i64 0), .lit (.int .i64 0), .lit (.int .i64 0)]⟩ Vrow.row ([] : List Vrow) x0.Rows ⟨(.box 1), [(0, 0)], 0, false, 3, (CV.frzEs (x0.Rows.map Vrow.row))⟩ kr kr kr kr kr kr kr kr kr kr kr (.inr rfl) (fun _ => rfl) (fun _ => rfl) hg1 ?_
    refine LAt.fin kr (And.intro (And.intro kr kr) ?_)
    refine AT.big1 tOk 5 kr kr ?_
    refine LAt.callU tOk [.rd] (f := 71) (av := #[.tmp 7]) (ats := #[27]) (d := (some 8)) (ty := 27) (g := none) kr kr kr [] (impl_copyInts n x0.Pvid r2 er2) kr (.inl rfl) ?_
    refine LAt.fin kr (And.intro (And.intro kr kr) ?_)
    refine AT.big1 tOk 6 kr kr ?_
    refine LAt.runU tOk 1 kr ?_
    refine LAt.fin kr (And.intro (And.intro kr kr) ?_)
    refine AT.big1 tOk 7 kr kr ?_
    refine LAt.runU tOk 1 kr ?_
    refine LAt.fin kr (And.intro (And.intro kr kr) ?_)
    exact AT.done [2] [2] _ kr kr rfl
  · refine Tr.ret ?_
    have H := Option.some.inj H
    subst H
    exact Fin.of _ [(true, [cL 3 (([] : List Vrow) ++ x0.Rows) Vrow.row, cL 1 r2 intRow])] kr rfl rfl

def impl_copyBridgeF (n : Nat) (x0 : Bridge) : Option (Bridge) :=
  (bif (decide (([] : List Pt).length + x0.Ports.length ≤ 268435456)) then ((impl_copyFdbF n x0.F).bind fun r2 => ((impl_copyVtabF n x0.V).bind fun r3 => (some (⟨x0.Id, x0.Name, (([] : List Pt) ++ x0.Ports), r2, r3, x0.Ticks, x0.Parse, x0.Word, x0.Drops, x0.Vers⟩ : Bridge)))) else none)
/-- loop.example/g00326/impl.copyBridge -/
theorem impl_copyBridge (n : Nat) (x0 : Bridge) (r : Bridge) (H : impl_copyBridgeF n x0 = some r) : LCall Try.prog 103 [.val true (CV.frzRow (Bridge.row x0))] [.val true (Bridge.row r)] [] := by
  refine LCall.of_body tOk Try.func103 rfl (c := (.seq (.region 0 (rg Try.f103 0) false) (.seq (.region 1 (rg Try.f103 1) false) (.seq (.region 2 (rg Try.f103 2) true) (.seq (.region 3 (rg Try.f103 3) false) .ret))))) kr (Nat.le_of_ble_eq_true kr) 0 (rs := [.cell 2 61]) rfl [] .nil [(true, (Bridge.row r))] [] [] fun cx => ?_
  show Tr _ _ _ ⟨16, 0, [sV 0 (CV.frzRow (Bridge.row x0))], []⟩ _
  unfold impl_copyBridgeF at H
  refine Tr.rs ?_
  refine LAt.runU tOk 2 kr ?_
  refine LAt.doneM 6 6 kr ?_
  refine Tr.rs ?_
  refine LAt.runU tOk 2 kr ?_
  obtain ⟨hg1, H⟩ := guard_some H
  refine LAt.appCU tOk (t := 55) (ty := 55) (e := 114) (x := (.const (.slice none 0 0))) (y := (.tmp 4)) (d := 5) (g := none) ⟨.st [(0, 1, 4), (1, 1, 3), (2, 1, 4), (3, 5, 70)], 8, 64, [.lit (.bool false), .lit (.int .i64 0), .lit (.bool false), .lit (.int .i64 0), .lit (.int .i64 0), .lit (.int .i64 0), .lit (.int .i64 0), .lit (.int .i64 0)]⟩ Pt.row ([] : List Pt) x0.Ports ⟨(.slot 4), [], 0, false, 8, (CV.frzEs (x0.Ports.map Pt.row))⟩ kr kr kr kr kr kr kr kr kr kr kr (.inr rfl) (fun _ => rfl) (fun _ => rfl) hg1 ?_
  refine LAt.runU tOk 2 kr ?_
  refine LAt.doneM 6 6 kr ?_
  obtain ⟨r2, er2, H⟩ := bind_some H
  obtain ⟨r3, er3, H⟩ := bind_some H
  refine Tr.draws mixed 10 kr ⟨16, 0, [sA 2 2 11 0, sA 1 1 11 0], [(1, [cI x0.Id, cS x0.Name, cL 8 (([] : List Pt) ++ x0.Ports) Pt.row, cL 5 r2 Fent.row, cL 3 r3.Rows Vrow.row, cL 1 r3.Pvid intRow, cI x0.Ticks, cI x0.Parse, cI x0.Word, cI x0.Drops, cI x0.Vers]), (2, [cI 0, cS (⟨#[]⟩ : ByteArray), cL 8 ([] : List Pt) Pt.row, cL 5 ([] : List Fent) Fent.row, cL 3 ([] : List Vrow) Vrow.row, cL 1 ([] : List Int) intRow, cI 0, cI 0, cI 0, cI 0, cI 0])]⟩ (fun cx => ?_) ?_
  · refine AT.runU tOk [(0, []), (1, [2, 5, 7, 9]), (3, []), (4, [5, 7, 9])] 6 [⟨[5, 7, 9], 59, 10, 11⟩, ⟨[2, 5, 7, 9], 56, 7, 8⟩] [4, 3, 1, 0] rfl kr (fun cx => ?_)
    refine AT.big1 tOk 2 kr kr ?_
    refine LAt.callU tOk [.rd] (f := 158) (av := #[.tmp 8]) (ats := #[56]) (d := (some 9)) (ty := 56) (g := none) kr kr kr [] (impl_copyFdb n x0.F r2 er2) kr (.inl rfl) ?_
    refine LAt.fin kr (And.intro (And.intro kr kr) ?_)
    refine AT.runU tOk [(6, [])] 4 [⟨[5, 7, 9], 59, 10, 11⟩, ⟨[2, 5, 7, 9], 56, 7, 8⟩] [6, 2, 4, 3, 1, 0] rfl kr (fun cx => ?_)
    refine AT.big1 tOk 5 kr kr ?_
    refine LAt.callU tOk [.rd] (f := 159) (av := #[.tmp 11]) (ats := #[59]) (d := (some 12)) (ty := 59) (g := none) kr kr kr [] (impl_copyVtab n x0.V r3 er3) kr (.inl rfl) ?_
    refine LAt.fin kr (And.intro (And.intro kr kr) ?_)
    refine AT.big1 tOk 7 kr kr ?_
    refine LAt.runU tOk 1 kr ?_
    refine LAt.fin kr (And.intro (And.intro kr kr) ?_)
    refine AT.runU tOk [(8, [])] 1 [⟨[5, 7, 9], 59, 10, 11⟩, ⟨[2, 5, 7, 9], 56, 7, 8⟩] [8, 7, 5, 6, 2, 4, 3, 1, 0] rfl kr (fun cx => ?_)
    refine AT.big1 tOk 9 kr kr ?_
    refine LAt.runU tOk 1 kr ?_
    refine LAt.fin kr (And.intro (And.intro kr kr) ?_)
    exact AT.done [2, 1] [1, 2] _ kr kr rfl
  · refine Tr.rs ?_
    refine LAt.runU tOk 2 kr ?_
    refine LAt.doneM 4 4 kr ?_
    refine Tr.ret ?_
    have H := Option.some.inj H
    subst H
    exact Fin.of _ [(true, [cI x0.Id, cS x0.Name, cL 8 (([] : List Pt) ++ x0.Ports) Pt.row, cL 5 r2 Fent.row, cL 3 r3.Rows Vrow.row, cL 1 r3.Pvid intRow, cI x0.Ticks, cI x0.Parse, cI x0.Word, cI x0.Drops, cI x0.Vers])] kr rfl rfl

def impl_inF (n : Nat) (x0 : Int) (x1 : Int) (x2 : Int) : Option (Bool) :=
  (bif (decide (x0 ≥ x1)) then (some (decide (x0 ≤ x2))) else (some false))
/-- loop.example/g00326/impl.in -/
theorem impl_in (n : Nat) (x0 : Int) (x1 : Int) (x2 : Int) (r : Bool) (H : impl_inF n x0 x1 x2 = some r) : LCall Try.prog 70 [.val false [.lit (.int .i64 x0)], .val false [.lit (.int .i64 x1)], .val false [.lit (.int .i64 x2)]] [.val false [.lit (.bool r)]] [] := by
  refine LCall.of_body tOk Try.func70 rfl (c := (.seq (.region 0 (rg Try.f70 0) false) (.seq (.region 1 (rg Try.f70 1) false) .ret))) kr (Nat.le_of_ble_eq_true kr) 0 (rs := [.tmp 6]) rfl [] .nil [(false, [.lit (.bool r)])] [] [] fun cx => ?_
  show Tr _ _ _ ⟨15, 0, [sI 0 x0, sI 1 x1, sI 2 x2], []⟩ _
  unfold impl_inF at H
  refine Tr.rs ?_
  refine LAt.runU tOk 1 kr ?_
  refine LAt.doneM 71 0 kr ?_
  refine Tr.rs ?_
  refine LAt.runU tOk 4 kr ?_
  refine LAt.to ⟨15, 0, [sB 10 (decide (x0 ≥ x1)), sB 9 (decide (x0 ≥ x1)), sI 8 x1, sI 7 x0, sB 6 false, sI 0 x0, sI 1 x1, sI 2 x2], []⟩ kr ?_
  cases h1 : (decide (x0 ≥ x1))
  · have H := bifF h1 H
    refine LAt.runU tOk 5 kr ?_
    refine LAt.doneM 64 0 kr ?_
    refine Tr.ret ?_
    have H := Option.some.inj H
    subst H
    exact Fin.of _ [(false, [cB false])] kr rfl rfl
  · have H := bifT h1 H
    refine LAt.runU tOk 5 kr ?_
    refine LAt.doneM 64 0 kr ?_
    refine Tr.ret ?_
    have H := Option.some.inj H
    subst H
    exact Fin.of _ [(false, [cB (decide (x0 ≤ x2))])] kr rfl rfl

def impl_VecOkF (n : Nat) (x0 : Vec) : Option (Bool) :=
  ((impl_inF n x0.Root 1 99).bind fun r1 => (bif r1 then ((impl_inF n x0.Cost 0 100000).bind fun r2 => (bif r2 then ((impl_inF n x0.Hops 0 10).bind fun r3 => (bif r3 then ((impl_inF n x0.Bridge 1 99).bind fun r4 => (bif r4 then ((impl_inF n x0.Port 0 7).bind fun r5 => (some r5)) else (some false))) else (some false))) else (some false))) else (some false)))
/-- loop.example/g00326/impl.VecOk -/
theorem impl_VecOk (n : Nat) (x0 : Vec) (r : Bool) (H : impl_VecOkF n x0 = some r) : LCall Try.prog 90 [.val true (CV.frzRow (Vec.row x0))] [.val false [.lit (.bool r)]] [] := by
  refine LCall.of_body tOk Try.func90 rfl (c := (.seq (.region 0 (rg Try.f90 0) false) (.seq (.region 1 (rg Try.f90 1) false) .ret))) kr (Nat.le_of_ble_eq_true kr) 0 (rs := [.tmp 2]) rfl [] .nil [(false, [.lit (.bool r)])] [] [] fun cx => ?_
  show Tr _ _ _ ⟨26, 0, [sV 0 (Vec.row x0)], []⟩ _
  unfold impl_VecOkF at H
  refine Tr.rs ?_
  refine LAt.runU tOk 2 kr ?_
  refine LAt.doneM 6 2 kr ?_
  refine Tr.rs ?_
  refine LAt.runU tOk 2 kr ?_
  obtain ⟨r1, er1, H⟩ := bind_some H
  refine LAt.callU tOk [.rd, .rd, .rd] (f := 70) (av := #[.tmp 4, .const (.int .i64 1), .const (.int .i64 99)]) (ats := #[3, 3, 3]) (d := (some 5)) (ty := 4) (g := none) kr kr kr [] (impl_in n x0.Root 1 99 r1 er1) kr (.inl rfl) ?_
  refine LAt.runU tOk 1 kr ?_
  refine LAt.to ⟨26, 0, [sB 6 r1, sB 5 r1, sI 4 x0.Root, sA 3 1 5 0, sB 2 false, sA 1 1 5 0], [(1, (Vec.row x0))]⟩ kr ?_
  cases h1 : r1
  · have H := bifF h1 H
    refine LAt.runU tOk 20 kr ?_
    refine LAt.doneM 4 0 kr ?_
    refine Tr.ret ?_
    have H := Option.some.inj H
    subst H
    exact Fin.of _ [(false, [cB false])] kr rfl rfl
  · have H := bifT h1 H
    refine LAt.runU tOk 2 kr ?_
    obtain ⟨r2, er2, H⟩ := bind_some H
    refine LAt.callU tOk [.rd, .rd, .rd] (f := 70) (av := #[.tmp 8, .const (.int .i64 0), .const (.int .i64 100000)]) (ats := #[3, 3, 3]) (d := (some 9)) (ty := 4) (g := (some (3, true))) kr kr kr [] (impl_in n x0.Cost 0 100000 r2 er2) kr (.inl rfl) ?_
    refine LAt.runU tOk 2 kr ?_
    refine LAt.to ⟨26, 0, [sB 11 r2, sB 10 r2, sB 9 r2, sI 8 x0.Cost, sA 7 1 5 1, sB 6 true, sB 5 true, sI 4 x0.Root, sA 3 1 5 0, sB 2 false, sA 1 1 5 0], [(1, (Vec.row x0))]⟩ kr ?_
    cases h2 : r2
    · have H := bifF h2 H
      refine LAt.runU tOk 15 kr ?_
      refine LAt.doneM 4 0 kr ?_
      refine Tr.ret ?_
      have H := Option.some.inj H
      subst H
      exact Fin.of _ [(false, [cB false])] kr rfl rfl
    · have H := bifT h2 H
      refine LAt.runU tOk 2 kr ?_
      obtain ⟨r3, er3, H⟩ := bind_some H
      refine LAt.callU tOk [.rd, .rd, .rd] (f := 70) (av := #[.tmp 13, .const (.int .i64 0), .const (.int .i64 10)]) (ats := #[3, 3, 3]) (d := (some 14)) (ty := 4) (g := (some (8, true))) kr kr kr [] (impl_in n x0.Hops 0 10 r3 er3) kr (.inl rfl) ?_
      refine LAt.runU tOk 2 kr ?_
      refine LAt.to ⟨26, 0, [sB 16 r3, sB 15 r3, sB 14 r3, sI 13 x0.Hops, sA 12 1 5 2, sB 11 true, sB 10 true, sB 9 true, sI 8 x0.Cost, sA 7 1 5 1, sB 6 true, sB 5 true, sI 4 x0.Root, sA 3 1 5 0, sB 2 false, sA 1 1 5 0], [(1, (Vec.row x0))]⟩ kr ?_
      cases h3 : r3
      · have H := bifF h3 H
        refine LAt.runU tOk 10 kr ?_
        refine LAt.doneM 4 0 kr ?_
        refine Tr.ret ?_
        have H := Option.some.inj H
        subst H
        exact Fin.of _ [(false, [cB false])] kr rfl rfl
      · have H := bifT h3 H
        refine LAt.runU tOk 2 kr ?_
        obtain ⟨r4, er4, H⟩ := bind_some H
        refine LAt.callU tOk [.rd, .rd, .rd] (f := 70) (av := #[.tmp 18, .const (.int .i64 1), .const (.int .i64 99)]) (ats := #[3, 3, 3]) (d := (some 19)) (ty := 4) (g := (some (13, true))) kr kr kr [] (impl_in n x0.Bridge 1 99 r4 er4) kr (.inl rfl) ?_
        refine LAt.runU tOk 2 kr ?_
        refine LAt.to ⟨26, 0, [sB 21 r4, sB 20 r4, sB 19 r4, sI 18 x0.Bridge, sA 17 1 5 3, sB 16 true, sB 15 true, sB 14 true, sI 13 x0.Hops, sA 12 1 5 2, sB 11 true, sB 10 true, sB 9 true, sI 8 x0.Cost, sA 7 1 5 1, sB 6 true, sB 5 true, sI 4 x0.Root, sA 3 1 5 0, sB 2 false, sA 1 1 5 0], [(1, (Vec.row x0))]⟩ kr ?_
        cases h4 : r4
        · have H := bifF h4 H
          refine LAt.runU tOk 5 kr ?_
          refine LAt.doneM 4 0 kr ?_
          refine Tr.ret ?_
          have H := Option.some.inj H
          subst H
          exact Fin.of _ [(false, [cB false])] kr rfl rfl
        · have H := bifT h4 H
          refine LAt.runU tOk 2 kr ?_
          obtain ⟨r5, er5, H⟩ := bind_some H
          refine LAt.callU tOk [.rd, .rd, .rd] (f := 70) (av := #[.tmp 23, .const (.int .i64 0), .const (.int .i64 7)]) (ats := #[3, 3, 3]) (d := (some 24)) (ty := 4) (g := (some (18, true))) kr kr kr [] (impl_in n x0.Port 0 7 r5 er5) kr (.inl rfl) ?_
          refine LAt.runU tOk 2 kr ?_
          refine LAt.doneM 4 0 kr ?_
          refine Tr.ret ?_
          have H := Option.some.inj H
          subst H
          exact Fin.of _ [(false, [cB r5])] kr rfl rfl

def impl_PtOkF (n : Nat) (x0 : Pt) : Option (Bool) :=
  ((impl_inF n x0.Cost 1 1000).bind fun r1 => (bif (!r1) then (some false) else (bif x0.Has then (bif (!x0.Up) then (some false) else ((impl_VecOkF n x0.Heard).bind fun r2 => (some r2))) else (some ((x0.Heard.Root == 0) && ((x0.Heard.Cost == 0) && ((x0.Heard.Hops == 0) && ((x0.Heard.Bridge == 0) && ((x0.Heard.Port == 0) && true)))))))))
/-- loop.example/g00326/impl.PtOk -/
theorem impl_PtOk (n : Nat) (x0 : Pt) (r : Bool) (H : impl_PtOkF n x0 = some r) : LCall Try.prog 142 [.val true (CV.frzRow (Pt.row x0))] [.val false [.lit (.bool r)]] [] := by
  refine LCall.of_body tOk Try.func142 rfl (c := (.seq (.region 0 (rg Try.f142 0) false) (.seq (.seq (.region 1 (rg Try.f142 1) false) (.cond (.tmp 15) (.seq (.region 2 (rg Try.f142 2) false) .ret) .skip)) (.seq (.seq (.region 3 (rg Try.f142 3) false) (.cond (.tmp 17) (.seq (.region 4 (rg Try.f142 4) false) .ret) .skip)) (.seq (.region 5 (rg Try.f142 5) false) .ret))))) kr (Nat.le_of_ble_eq_true kr) 0 (rs := [.tmp 2]) rfl [] .nil [(false, [.lit (.bool r)])] [] [] fun cx => ?_
  show Tr _ _ _ ⟨25, 0, [sV 0 (Pt.row x0)], []⟩ _
  unfold impl_PtOkF at H
  refine Tr.rs ?_
  refine LAt.runU tOk 2 kr ?_
  refine LAt.doneM 6 2 kr ?_
  refine Tr.seq ?_
  refine Tr.rs ?_
  refine LAt.runU tOk 2 kr ?_
  obtain ⟨r1, er1, H⟩ := bind_some H
  refine LAt.callU tOk [.rd, .rd, .rd] (f := 70) (av := #[.tmp 4, .const (.int .i64 1), .const (.int .i64 1000)]) (ats := #[3, 3, 3]) (d := (some 5)) (ty := 4) (g := none) kr kr kr [] (impl_in n x0.Cost 1 1000 r1 er1) kr (.inl rfl) ?_
  refine LAt.runU tOk 2 kr ?_
  refine LAt.to ⟨25, 0, [sB 7 (!r1), sB 6 (!r1), sB 5 r1, sI 4 x0.Cost, sA 3 1 8 1, sB 2 false, sA 1 1 8 0], [(1, (Pt.row x0))]⟩ kr ?_
  cases h1 : (!r1)
  · have H := bifF h1 H
    refine LAt.runU tOk 3 kr ?_
    refine LAt.to ⟨25, 0, [sB 10 x0.Has, sB 9 x0.Has, sA 8 1 8 2, sB 7 false, sB 6 false, sB 5 r1, sI 4 x0.Cost, sA 3 1 8 1, sB 2 false, sA 1 1 8 0], [(1, (Pt.row x0))]⟩ kr ?_
    cases h2 : x0.Has
    · have H := bifF h2 H
      refine LAt.runU tOk 5 kr ?_
      refine LAt.doneM 32774 2 kr ?_
      refine Tr.cond (b := false) kr (fun h => nomatch h) (fun _ => ?_)
      refine Tr.skip ?_
      show Tr _ _ _ _ _
      refine Tr.seq ?_
      refine Tr.rs ?_
      refine LAt.runU tOk 2 kr ?_
      refine LAt.doneM 131078 2 kr ?_
      refine Tr.to ⟨25, 0, [sB 17 x0.Has, sB 2 false, sA 1 1 8 0], [(1, (Pt.row x0))]⟩ kr ?_
      rw [h2]
      refine Tr.cond (b := false) kr (fun h => nomatch h) (fun _ => ?_)
      refine Tr.skip ?_
      show Tr _ _ _ _ _
      refine Tr.rs ?_
      refine LAt.runU tOk 3 kr ?_
      refine LAt.eqSG false (t := 70) (ty := 70) (ty' := 4) (x := (.tmp 22)) (y := (.tmp 23)) (d := 24) (g := none) ((x0.Heard.Root == 0) && ((x0.Heard.Cost == 0) && ((x0.Heard.Hops == 0) && ((x0.Heard.Bridge == 0) && ((x0.Heard.Port == 0) && true))))) _ kr kr kr kr rfl ?_
      refine LAt.runU tOk 1 kr ?_
      refine LAt.doneM 4 0 kr ?_
      refine Tr.ret ?_
      have H := Option.some.inj H
      subst H
      exact Fin.of _ [(false, [cB ((x0.Heard.Root == 0) && ((x0.Heard.Cost == 0) && ((x0.Heard.Hops == 0) && ((x0.Heard.Bridge == 0) && ((x0.Heard.Port == 0) && true)))))])] kr rfl rfl
    · have H := bifT h2 H
      refine LAt.runU tOk 5 kr ?_
      refine LAt.doneM 32774 2 kr ?_
      refine Tr.to ⟨25, 0, [sB 15 (!x0.Up), sB 2 false, sA 1 1 8 0], [(1, (Pt.row x0))]⟩ kr ?_
      cases h3 : (!x0.Up)
      · have H := bifF h3 H
        refine Tr.cond (b := false) kr (fun h => nomatch h) (fun _ => ?_)
        refine Tr.skip ?_
        show Tr _ _ _ _ _
        refine Tr.seq ?_
        refine Tr.rs ?_
        refine LAt.runU tOk 2 kr ?_
        refine LAt.doneM 131078 2 kr ?_
        refine Tr.to ⟨25, 0, [sB 17 x0.Has, sB 2 false, sA 1 1 8 0], [(1, (Pt.row x0))]⟩ kr ?_
        rw [h2]
        refine Tr.cond (b := true) kr (fun _ => ?_) (fun h => nomatch h)
        refine Tr.rs ?_
        refine LAt.runU tOk 2 kr ?_
        obtain ⟨r2, er2, H⟩ := bind_some H
        refine LAt.callU tOk [.rd] (f := 90) (av := #[.tmp 19]) (ats := #[70]) (d := (some 20)) (ty := 4) (g := none) kr kr kr [] (impl_VecOk n x0.Heard r2 er2) kr (.inl rfl) ?_
        refine LAt.runU tOk 1 kr ?_
        refine LAt.doneM 6 2 kr ?_
        refine Tr.ret ?_
        have H := Option.some.inj H
        subst H
        exact Fin.of _ [(false, [cB r2])] kr rfl rfl
      · have H := bifT h3 H
        refine Tr.cond (b := true) kr (fun _ => ?_) (fun h => nomatch h)
        refine Tr.rs ?_
        refine LAt.runU tOk 1 kr ?_
        refine LAt.doneM 6 2 kr ?_
        refine Tr.ret ?_
        have H := Option.some.inj H
        subst H
        exact Fin.of _ [(false, [cB false])] kr rfl rfl
  · have H := bifT h1 H
    refine LAt.runU tOk 8 kr ?_
    refine LAt.doneM 32774 2 kr ?_
    refine Tr.cond (b := true) kr (fun _ => ?_) (fun h => nomatch h)
    refine Tr.rs ?_
    refine LAt.runU tOk 1 kr ?_
    refine LAt.doneM 6 2 kr ?_
    refine Tr.ret ?_
    have H := Option.some.inj H
    subst H
    exact Fin.of _ [(false, [cB false])] kr rfl rfl

def impl_fentOkF (n : Nat) (x0 : Fent) : Option (Bool) :=
  ((impl_inF n x0.Tag 1 99).bind fun r1 => (bif r1 then ((impl_inF n x0.Mac 1 9999).bind fun r2 => (bif r2 then ((impl_inF n x0.Port 0 7).bind fun r3 => (bif r3 then ((impl_inF n x0.Age 0 4).bind fun r4 => (bif r4 then (bif (!x0.Static) then (some true) else (some (x0.Age == 0))) else (some false))) else (some false))) else (some false))) else (some false)))
/-- loop.example/g00326/impl.fentOk -/
theorem impl_fentOk (n : Nat) (x0 : Fent) (r : Bool) (H : impl_fentOkF n x0 = some r) : LCall Try.prog 176 [.val true (CV.frzRow (Fent.row x0))] [.val false [.lit (.bool r)]] [] := by
  refine LCall.of_body tOk Try.func176 rfl (c := (.seq (.region 0 (rg Try.f176 0) false) (.seq (.region 1 (rg Try.f176 1) false) .ret))) kr (Nat.le_of_ble_eq_true kr) 0 (rs := [.tmp 2]) rfl [] .nil [(false, [.lit (.bool r)])] [] [] fun cx => ?_
  show Tr _ _ _ ⟨31, 0, [sV 0 (Fent.row x0)], []⟩ _
  unfold impl_fentOkF at H
  refine Tr.rs ?_
  refine LAt.runU tOk 2 kr ?_
  refine LAt.doneM 6 2 kr ?_
  refine Tr.rs ?_
  refine LAt.runU tOk 2 kr ?_
  obtain ⟨r1, er1, H⟩ := bind_some H
  refine LAt.callU tOk [.rd, .rd, .rd] (f := 70) (av := #[.tmp 4, .const (.int .i64 1), .const (.int .i64 99)]) (ats := #[3, 3, 3]) (d := (some 5)) (ty := 4) (g := none) kr kr kr [] (impl_in n x0.Tag 1 99 r1 er1) kr (.inl rfl) ?_
  refine LAt.runU tOk 1 kr ?_
  refine LAt.to ⟨31, 0, [sB 6 r1, sB 5 r1, sI 4 x0.Tag, sA 3 1 5 0, sB 2 false, sA 1 1 5 0], [(1, (Fent.row x0))]⟩ kr ?_
  cases h1 : r1
  · have H := bifF h1 H
    refine LAt.runU tOk 25 kr ?_
    refine LAt.doneM 4 0 kr ?_
    refine Tr.ret ?_
    have H := Option.some.inj H
    subst H
    exact Fin.of _ [(false, [cB false])] kr rfl rfl
  · have H := bifT h1 H
    refine LAt.runU tOk 2 kr ?_
    obtain ⟨r2, er2, H⟩ := bind_some H
    refine LAt.callU tOk [.rd, .rd, .rd] (f := 70) (av := #[.tmp 8, .const (.int .i64 1), .const (.int .i64 9999)]) (ats := #[3, 3, 3]) (d := (some 9)) (ty := 4) (g := (some (3, true))) kr kr kr [] (impl_in n x0.Mac 1 9999 r2 er2) kr (.inl rfl) ?_
    refine LAt.runU tOk 2 kr ?_
    refine LAt.to ⟨31, 0, [sB 11 r2, sB 10 r2, sB 9 r2, sI 8 x0.Mac, sA 7 1 5 1, sB 6 true, sB 5 true, sI 4 x0.Tag, sA 3 1 5 0, sB 2 false, sA 1 1 5 0], [(1, (Fent.row x0))]⟩ kr ?_
    cases h2 : r2
    · have H := bifF h2 H
      refine LAt.runU tOk 20 kr ?_
      refine LAt.doneM 4 0 kr ?_
      refine Tr.ret ?_
      have H := Option.some.inj H
      subst H
      exact Fin.of _ [(false, [cB false])] kr rfl rfl
    · have H := bifT h2 H
      refine LAt.runU tOk 2 kr ?_
      obtain ⟨r3, er3, H⟩ := bind_some H
      refine LAt.callU tOk [.rd, .rd, .rd] (f := 70) (av := #[.tmp 13, .const (.int .i64 0), .const (.int .i64 7)]) (ats := #[3, 3, 3]) (d := (some 14)) (ty := 4) (g := (some (8, true))) kr kr kr [] (impl_in n x0.Port 0 7 r3 er3) kr (.inl rfl) ?_
      refine LAt.runU tOk 2 kr ?_
      refine LAt.to ⟨31, 0, [sB 16 r3, sB 15 r3, sB 14 r3, sI 13 x0.Port, sA 12 1 5 2, sB 11 true, sB 10 true, sB 9 true, sI 8 x0.Mac, sA 7 1 5 1, sB 6 true, sB 5 true, sI 4 x0.Tag, sA 3 1 5 0, sB 2 false, sA 1 1 5 0], [(1, (Fent.row x0))]⟩ kr ?_
      cases h3 : r3
      · have H := bifF h3 H
        refine LAt.runU tOk 15 kr ?_
        refine LAt.doneM 4 0 kr ?_
        refine Tr.ret ?_
        have H := Option.some.inj H
        subst H
        exact Fin.of _ [(false, [cB false])] kr rfl rfl
      · have H := bifT h3 H
        refine LAt.runU tOk 2 kr ?_
        obtain ⟨r4, er4, H⟩ := bind_some H
        refine LAt.callU tOk [.rd, .rd, .rd] (f := 70) (av := #[.tmp 18, .const (.int .i64 0), .const (.int .i64 4)]) (ats := #[3, 3, 3]) (d := (some 19)) (ty := 4) (g := (some (13, true))) kr kr kr [] (impl_in n x0.Age 0 4 r4 er4) kr (.inl rfl) ?_
        refine LAt.runU tOk 2 kr ?_
        refine LAt.to ⟨31, 0, [sB 21 r4, sB 20 r4, sB 19 r4, sI 18 x0.Age, sA 17 1 5 3, sB 16 true, sB 15 true, sB 14 true, sI 13 x0.Port, sA 12 1 5 2, sB 11 true, sB 10 true, sB 9 true, sI 8 x0.Mac, sA 7 1 5 1, sB 6 true, sB 5 true, sI 4 x0.Tag, sA 3 1 5 0, sB 2 false, sA 1 1 5 0], [(1, (Fent.row x0))]⟩ kr ?_
        cases h4 : r4
        · have H := bifF h4 H
          refine LAt.runU tOk 10 kr ?_
          refine LAt.doneM 4 0 kr ?_
          refine Tr.ret ?_
          have H := Option.some.inj H
          subst H
          exact Fin.of _ [(false, [cB false])] kr rfl rfl
        · have H := bifT h4 H
          refine LAt.runU tOk 4 kr ?_
          refine LAt.to ⟨31, 0, [sB 25 (!x0.Static), sB 24 (!x0.Static), sB 23 x0.Static, sA 22 1 5 4, sB 21 true, sB 20 true, sB 19 true, sI 18 x0.Age, sA 17 1 5 3, sB 16 true, sB 15 true, sB 14 true, sI 13 x0.Port, sA 12 1 5 2, sB 11 true, sB 10 true, sB 9 true, sI 8 x0.Mac, sA 7 1 5 1, sB 6 true, sB 5 true, sI 4 x0.Tag, sA 3 1 5 0, sB 2 false, sA 1 1 5 0], [(1, (Fent.row x0))]⟩ kr ?_
          cases h5 : (!x0.Static)
          · have H := bifF h5 H
            refine LAt.runU tOk 6 kr ?_
            refine LAt.doneM 4 0 kr ?_
            refine Tr.ret ?_
            have H := Option.some.inj H
            subst H
            exact Fin.of _ [(false, [cB (x0.Age == 0)])] kr rfl rfl
          · have H := bifT h5 H
            refine LAt.runU tOk 6 kr ?_
            refine LAt.doneM 4 0 kr ?_
            refine Tr.ret ?_
            have H := Option.some.inj H
            subst H
            exact Fin.of _ [(false, [cB true])] kr rfl rfl

def impl_behindF (n : Nat) (x0 : Fent) (x1 : Int) (x2 : Int) : Option (Bool) :=
  (bif (decide (x0.Tag > x1)) then (some true) else (bif (x0.Tag == x1) then (some (decide (x0.Mac > x2))) else (some false)))
/-- loop.example/g00326/impl.behind -/
theorem impl_behind (n : Nat) (x0 : Fent) (x1 : Int) (x2 : Int) (r : Bool) (H : impl_behindF n x0 x1 x2 = some r) : LCall Try.prog 177 [.val true (CV.frzRow (Fent.row x0)), .val false [.lit (.int .i64 x1)], .val false [.lit (.int .i64 x2)]] [.val false [.lit (.bool r)]] [] := by
  refine LCall.of_body tOk Try.func177 rfl (c := (.seq (.region 0 (rg Try.f177 0) false) (.seq (.region 1 (rg Try.f177 1) false) .ret))) kr (Nat.le_of_ble_eq_true kr) 0 (rs := [.tmp 6]) rfl [] .nil [(false, [.lit (.bool r)])] [] [] fun cx => ?_
  show Tr _ _ _ ⟨23, 0, [sV 0 (Fent.row x0), sI 1 x1, sI 2 x2], []⟩ _
  unfold impl_behindF at H
  refine Tr.rs ?_
  refine LAt.runU tOk 2 kr ?_
  refine LAt.doneM 78 8 kr ?_
  refine Tr.rs ?_
  refine LAt.runU tOk 5 kr ?_
  refine LAt.to ⟨23, 0, [sB 11 (decide (x0.Tag > x1)), sB 10 (decide (x0.Tag > x1)), sI 9 x1, sI 8 x0.Tag, sA 7 3 5 0, sB 6 false, sA 3 3 5 0, sI 1 x1, sI 2 x2], [(3, (Fent.row x0))]⟩ kr ?_
  cases h1 : (decide (x0.Tag > x1))
  · have H := bifF h1 H
    refine LAt.runU tOk 5 kr ?_
    refine LAt.to ⟨23, 0, [sB 16 (x0.Tag == x1), sB 15 (x0.Tag == x1), sI 14 x1, sI 13 x0.Tag, sA 12 3 5 0, sB 11 false, sB 10 false, sI 9 x1, sI 8 x0.Tag, sA 7 3 5 0, sB 6 false, sA 3 3 5 0, sI 1 x1, sI 2 x2], [(3, (Fent.row x0))]⟩ kr ?_
    cases h2 : (x0.Tag == x1)
    · have H := bifF h2 H
      refine LAt.runU tOk 7 kr ?_
      refine LAt.doneM 64 0 kr ?_
      refine Tr.ret ?_
      have H := Option.some.inj H
      subst H
      exact Fin.of _ [(false, [cB false])] kr rfl rfl
    · have H := bifT h2 H
      refine LAt.runU tOk 7 kr ?_
      refine LAt.doneM 64 0 kr ?_
      refine Tr.ret ?_
      have H := Option.some.inj H
      subst H
      exact Fin.of _ [(false, [cB (decide (x0.Mac > x2))])] kr rfl rfl
  · have H := bifT h1 H
    refine LAt.runU tOk 12 kr ?_
    refine LAt.doneM 64 0 kr ?_
    refine Tr.ret ?_
    have H := Option.some.inj H
    subst H
    exact Fin.of _ [(false, [cB true])] kr rfl rfl

def impl_FdbOk_J1 (n : Nat) (x0 : (List Fent)) : Option (Bool) :=
  (some (decide ((x0.length : Int) ≤ 12)))
def impl_FdbOk_L2 (n : Nat) : Nat → (List Fent) → Int → Option ((Unit) ⊕ (Bool))
  | 0, _, _ => none
  | mo2 + 1, x0, y1 => (bif (decide (y1 < (x0.length : Int))) then ((idx x0 y1).bind fun v3 => ((impl_fentOkF n v3).bind fun r4 => (bif (!r4) then (some (Sum.inr false)) else (bif (decide (y1 > 0)) then ((idx x0 (IntKind.wrap .i64 (y1 - 1))).bind fun v5 => ((idx x0 (IntKind.wrap .i64 (y1 - 1))).bind fun v6 => ((impl_behindF n v3 v5.Tag v6.Mac).bind fun r7 => (bif (!r7) then (some (Sum.inr false)) else (impl_FdbOk_L2 n mo2 x0 (IntKind.wrap .i64 (y1 + 1))))))) else (impl_FdbOk_L2 n mo2 x0 (IntKind.wrap .i64 (y1 + 1))))))) else (some (Sum.inl ())))
def impl_FdbOkF (n : Nat) (x0 : (List Fent)) : Option (Bool) :=
  ((impl_FdbOk_L2 n n x0 0).bind fun o => match o with | .inl _ => (impl_FdbOk_J1 n x0) | .inr r => some r)
/-- loop.example/g00326/impl.FdbOk -/
theorem impl_FdbOk (n : Nat) (x0 : (List Fent)) (r : Bool) (H : impl_FdbOkF n x0 = some r) : LCall Try.prog 143 [.val false [.sl false 5 (CV.frzEs (x0.map Fent.row))]] [.val false [.lit (.bool r)]] [] := by
  refine LCall.of_body tOk Try.func143 rfl (c := (.seq (.region 0 (rg Try.f143 0) false) (.seq (.seq (.region 1 (rg Try.f143 1) false) (.block 0 (.loop (.seq (.region 2 (rg Try.f143 2) false) (.seq (.cond (.tmp 8) .skip (.exit 0)) (.seq (.block 1 (.seq (.region 3 (rg Try.f143 3) false) (.seq (.region 4 (rg Try.f143 4) true) (.cond (.tmp 35) (.seq (.region 5 (rg Try.f143 5) false) .ret) .skip)))) (.region 6 (rg Try.f143 6) false))))))) (.seq (.region 7 (rg Try.f143 7) false) .ret)))) kr (Nat.le_of_ble_eq_true kr) 0 (rs := [.tmp 2]) rfl [] .nil [(false, [.lit (.bool r)])] [] [] fun cx => ?_
  show Tr _ _ _ ⟨40, 0, [sC 0 (cF 5 x0 Fent.row)], []⟩ _
  unfold impl_FdbOkF at H
  refine Tr.rs ?_
  refine LAt.runU tOk 1 kr ?_
  refine LAt.doneM 5 0 kr ?_
  refine Tr.seq ?_
  refine Tr.rs ?_
  refine LAt.runU tOk 1 kr ?_
  refine LAt.lenE tOk (t := 56) (ty := 3) (e := 141) (x := (.tmp 5)) (d := 6) (g := none) ⟨(.slot 5), [], 0, false, 5, (CV.frzEs (x0.map Fent.row))⟩ (x0).length _ kr kr kr kr kr (frz_len _ _) rfl ?_
  refine LAt.runU tOk 1 kr ?_
  refine LAt.doneM 229 0 kr ?_
  obtain ⟨o2, eo2, Ho2⟩ := bind_some H
  clear H
  refine Tr.mid (ι := Unit) (fun v => ⟨40, 0, [sB 2 false, sC 0 (cF 5 x0 Fent.row)], []⟩) (fun v => impl_FdbOk_J1 n x0 = some r) ?_ ?_
  · refine Tr.block ?_
    refine Tr.loop (ι := Nat × (Int)) (fun v => ⟨40, 0, [sI 7 v.2, sI 6 (x0.length : Int), sC 5 (cF 5 x0 Fent.row), sB 2 false, sC 0 (cF 5 x0 Fent.row)], []⟩) (fun v => impl_FdbOk_L2 n v.1 x0 v.2 = some o2) (fun v => v.1) (n, 0) eo2 (St.sub_of [7, 6, 5, 2, 0] [] kr) ?_
    rintro ⟨mo2, y1⟩ H
    have H : impl_FdbOk_L2 n mo2 x0 y1 = some o2 := H
    obtain _ | mo2 := mo2
    · cases (show (none : Option _) = some o2 from H)
    · rw [impl_FdbOk_L2] at H
      refine Tr.rs ?_
      refine LAt.runU tOk 1 kr ?_
      refine LAt.doneM 485 0 kr ?_
      refine Tr.seq ?_
      refine Tr.to ⟨40, 0, [sB 8 (decide (y1 < (x0.length : Int))), sI 7 y1, sI 6 (x0.length : Int), sC 5 (cF 5 x0 Fent.row), sB 2 false, sC 0 (cF 5 x0 Fent.row)], []⟩ kr ?_
      cases h1 : (decide (y1 < (x0.length : Int)))
      · have H := bifF h1 H
        refine Tr.cond (b := false) kr (fun h => nomatch h) (fun _ => ?_)
        refine Tr.exit ?_
        refine And.intro (fun _ => ?_) (fun h => absurd rfl h)
        have H := Option.some.inj H
        subst H
        have H := Ho2
        dsimp only at H
        exact Exists.intro () (And.intro H (St.sub_of [2, 0] [] kr))
      · have H := bifT h1 H
        refine Tr.cond (b := true) kr (fun _ => ?_) (fun h => nomatch h)
        refine Tr.skip ?_
        show Tr _ _ _ _ _
        refine Tr.seq ?_
        refine Tr.block ?_
        refine Tr.rs ?_
        refine LAt.runU tOk 1 kr ?_
        obtain ⟨v3, ev3, H⟩ := bind_some H
        refine LAt.indexF tOk (t := 56) (ty := 0) (x := (.tmp 5)) (y := (.tmp 7)) (d := 10) (g := none) ⟨(.slot 5), [], 0, false, 5, (CV.frzEs (x0.map Fent.row))⟩ y1 (Fent.row v3) _ kr kr kr kr rfl (idx_isF ev3) rfl ?_
        refine LAt.runU tOk 4 kr ?_
        refine LAt.doneM 4093 16 kr ?_
        obtain ⟨r4, er4, H⟩ := bind_some H
        refine Tr.to ⟨40, 0, [sI 3 y1, sA 4 4 5 0, sV 11 (Fent.row v3), (10, .fad ((Fent.row v3))), sI 9 y1, sB 8 true, sI 7 y1, sI 6 (x0.length : Int), sC 5 (cF 5 x0 Fent.row), sB 2 false, sC 0 (cF 5 x0 Fent.row)], [(4, (Fent.row v3))]⟩ kr ?_
        cases h2 : (!r4)
        · have H := bifF h2 H
          refine Tr.to ⟨40, 0, [sI 3 y1, sA 4 4 5 0, sV 11 (Fent.row v3), (10, .fad ((Fent.row v3))), sI 9 y1, sB 8 true, sI 7 y1, sI 6 (x0.length : Int), sC 5 (cF 5 x0 Fent.row), sB 2 false, sC 0 (cF 5 x0 Fent.row)], [(4, (Fent.row v3))]⟩ kr ?_
          cases h3 : (decide (y1 > 0))
          · have H := bifF h3 H
            refine Tr.draws mixed 24 kr ⟨40, 0, [sB 35 false, sB 34 false, (33, .tup []), (32, .tup []), (31, .tup []), (30, .tup []), (29, .tup []), (28, .tup []), (27, .tup []), (26, .tup []), (25, .tup []), (24, .tup []), (23, .tup []), (22, .tup []), (21, .tup []), (20, .tup []), (19, .tup []), sB 18 false, sB 17 false, sI 16 y1, sB 15 false, sB 14 false, sB 13 r4, sV 12 (Fent.row v3), sI 3 y1, sA 4 4 5 0, sV 11 (Fent.row v3), (10, .fad ((Fent.row v3))), sI 9 y1, sB 8 true, sI 7 y1, sI 6 (x0.length : Int), sC 5 (cF 5 x0 Fent.row), sB 2 false, sC 0 (cF 5 x0 Fent.row)], [(4, (Fent.row v3))]⟩ (fun cx => ?_) ?_
            · refine AT.runU tOk [(0, [1])] 23 [⟨[1], 141, 4, 12⟩] [0] rfl kr (fun cx => ?_)
              refine AT.big1 tOk 1 kr kr ?_
              refine LAt.callU tOk [.rd] (f := 176) (av := #[.tmp 12]) (ats := #[141]) (d := (some 13)) (ty := 4) (g := none) kr kr kr [] (impl_fentOk n v3 r4 er4) kr (.inl rfl) ?_
              refine LAt.fin kr (And.intro (And.intro kr kr) ?_)
              refine AT.runU tOk [(2, []), (3, [])] 20 [⟨[1], 141, 4, 12⟩] [3, 2, 1, 0] rfl kr (fun cx => ?_)
              refine AT.to ⟨40, 0, [sB 15 (!r4), sB 14 (!r4), sB 13 r4, sV 12 (Fent.row v3), sI 3 y1, sA 4 4 5 0, sV 11 (Fent.row v3), (10, .fad ((Fent.row v3))), sI 9 y1, sB 8 true, sI 7 y1, sI 6 (x0.length : Int), sC 5 (cF 5 x0 Fent.row), sB 2 false, sC 0 (cF 5 x0 Fent.row)], [(4, (Fent.row v3))]⟩ kr ?_
              rw [h2]
              refine AT.runU tOk [(4, []), (5, []), (6, [])] 17 [⟨[1], 141, 4, 12⟩] [6, 5, 4, 3, 2, 1, 0] rfl kr (fun cx => ?_)
              refine AT.to ⟨40, 0, [sB 18 (decide (y1 > 0)), sB 17 (decide (y1 > 0)), sI 16 y1, sB 15 false, sB 14 false, sB 13 r4, sV 12 (Fent.row v3), sI 3 y1, sA 4 4 5 0, sV 11 (Fent.row v3), (10, .fad ((Fent.row v3))), sI 9 y1, sB 8 true, sI 7 y1, sI 6 (x0.length : Int), sC 5 (cF 5 x0 Fent.row), sB 2 false, sC 0 (cF 5 x0 Fent.row)], [(4, (Fent.row v3))]⟩ kr ?_
              rw [h3]
              refine AT.runU tOk [(7, []), (8, []), (9, []), (10, []), (11, []), (12, []), (13, []), (14, []), (15, []), (16, []), (17, []), (18, []), (19, []), (20, []), (21, []), (22, []), (23, [])] 0 [⟨[1], 141, 4, 12⟩] [23, 22, 21, 20, 19, 18, 17, 16, 15, 14, 13, 12, 11, 10, 9, 8, 7, 6, 5, 4, 3, 2, 1, 0] rfl kr (fun cx => ?_)
              exact AT.done [35, 34, 33, 32, 31, 30, 29, 28, 27, 26, 25, 24, 23, 22, 21, 20, 19, 18, 17, 16, 15, 14, 13, 12, 3, 4, 11, 10, 9, 8, 7, 6, 5, 2, 0] [4] _ kr kr rfl
            · refine Tr.cond (b := false) kr (fun h => nomatch h) (fun _ => ?_)
              refine Tr.skip ?_
              show Tr _ _ _ _ _
              refine Tr.at ?_
              refine LAt.runU tOk 2 kr ?_
              refine LAt.doneM 137438953469 16 kr ?_
              exact Exists.intro (mo2, (IntKind.wrap .i64 (y1 + 1))) (And.intro H (And.intro (Nat.lt_succ_self mo2) (St.sub_of [7, 6, 5, 2, 0] [] kr)))
          · have H := bifT h3 H
            obtain ⟨v5, ev5, H⟩ := bind_some H
            obtain ⟨v6, ev6, H⟩ := bind_some H
            obtain ⟨r7, er7, H⟩ := bind_some H
            refine Tr.draws mixed 24 kr ⟨40, 0, [sB 35 (!r7), sB 34 (!r7), sB 33 (!r7), sB 32 r7, sI 31 v6.Mac, (30, .fad (((Fent.row v6).drop 1))), (29, .fad ((Fent.row v6))), sI 28 (IntKind.wrap .i64 (y1 - 1)), sI 27 y1, sC 26 (cF 5 x0 Fent.row), sI 25 v5.Tag, (24, .fad ((Fent.row v5))), (23, .fad ((Fent.row v5))), sI 22 (IntKind.wrap .i64 (y1 - 1)), sI 21 y1, sC 20 (cF 5 x0 Fent.row), sV 19 (Fent.row v3), sB 18 true, sB 17 true, sI 16 y1, sB 15 false, sB 14 false, sB 13 r4, sV 12 (Fent.row v3), sI 3 y1, sA 4 4 5 0, sV 11 (Fent.row v3), (10, .fad ((Fent.row v3))), sI 9 y1, sB 8 true, sI 7 y1, sI 6 (x0.length : Int), sC 5 (cF 5 x0 Fent.row), sB 2 false, sC 0 (cF 5 x0 Fent.row)], [(4, (Fent.row v3))]⟩ (fun cx => ?_) ?_
            · refine AT.runU tOk [(0, [1, 20])] 23 [⟨[1, 20], 141, 4, 12⟩] [0] rfl kr (fun cx => ?_)
              refine AT.big1 tOk 1 kr kr ?_
              refine LAt.callU tOk [.rd] (f := 176) (av := #[.tmp 12]) (ats := #[141]) (d := (some 13)) (ty := 4) (g := none) kr kr kr [] (impl_fentOk n v3 r4 er4) kr (.inl rfl) ?_
              refine LAt.fin kr (And.intro (And.intro kr kr) ?_)
              refine AT.runU tOk [(2, []), (3, [])] 20 [⟨[1, 20], 141, 4, 12⟩] [3, 2, 1, 0] rfl kr (fun cx => ?_)
              refine AT.to ⟨40, 0, [sB 15 (!r4), sB 14 (!r4), sB 13 r4, sV 12 (Fent.row v3), sI 3 y1, sA 4 4 5 0, sV 11 (Fent.row v3), (10, .fad ((Fent.row v3))), sI 9 y1, sB 8 true, sI 7 y1, sI 6 (x0.length : Int), sC 5 (cF 5 x0 Fent.row), sB 2 false, sC 0 (cF 5 x0 Fent.row)], [(4, (Fent.row v3))]⟩ kr ?_
              rw [h2]
              refine AT.runU tOk [(4, []), (5, []), (6, [])] 17 [⟨[1, 20], 141, 4, 12⟩] [6, 5, 4, 3, 2, 1, 0] rfl kr (fun cx => ?_)
              refine AT.to ⟨40, 0, [sB 18 (decide (y1 > 0)), sB 17 (decide (y1 > 0)), sI 16 y1, sB 15 false, sB 14 false, sB 13 r4, sV 12 (Fent.row v3), sI 3 y1, sA 4 4 5 0, sV 11 (Fent.row v3), (10, .fad ((Fent.row v3))), sI 9 y1, sB 8 true, sI 7 y1, sI 6 (x0.length : Int), sC 5 (cF 5 x0 Fent.row), sB 2 false, sC 0 (cF 5 x0 Fent.row)], [(4, (Fent.row v3))]⟩ kr ?_
              rw [h3]
              refine AT.runU tOk [(7, [20]), (8, []), (9, []), (10, [])] 13 [⟨[20], 141, 4, 19⟩, ⟨[1, 20], 141, 4, 12⟩] [10, 9, 8, 7, 6, 5, 4, 3, 2, 1, 0] rfl kr (fun cx => ?_)
              refine AT.indexF tOk 11 (t := 56) (ty := 0) (x := (.tmp 20)) (y := (.tmp 22)) (d := 23) (g := (some (6, true))) ⟨(.slot 20), [], 0, false, 5, (CV.frzEs (x0.map Fent.row))⟩ (IntKind.wrap .i64 (y1 - 1)) (Fent.row v5) _ kr kr kr kr kr kr rfl (idx_isF ev5) rfl (fun cx => ?_)
              refine AT.runU tOk [(12, []), (13, []), (14, []), (15, []), (16, [])] 7 [⟨[20], 141, 4, 19⟩, ⟨[1, 20], 141, 4, 12⟩] [16, 15, 14, 13, 12, 11, 10, 9, 8, 7, 6, 5, 4, 3, 2, 1, 0] rfl kr (fun cx => ?_)
              refine AT.indexF tOk 17 (t := 56) (ty := 0) (x := (.tmp 26)) (y := (.tmp 28)) (d := 29) (g := (some (6, true))) ⟨(.slot 26), [], 0, false, 5, (CV.frzEs (x0.map Fent.row))⟩ (IntKind.wrap .i64 (y1 - 1)) (Fent.row v6) _ kr kr kr kr kr kr rfl (idx_isF ev6) rfl (fun cx => ?_)
              refine AT.runU tOk [(18, []), (19, [])] 4 [⟨[20], 141, 4, 19⟩, ⟨[1, 20], 141, 4, 12⟩] [19, 18, 17, 16, 15, 14, 13, 12, 11, 10, 9, 8, 7, 6, 5, 4, 3, 2, 1, 0] rfl kr (fun cx => ?_)
              refine AT.big1 tOk 20 kr kr ?_
              refine LAt.callU tOk [.rd, .rd, .rd] (f := 177) (av := #[.tmp 19, .tmp 25, .tmp 31]) (ats := #[141, 3, 3]) (d := (some 32)) (ty := 4) (g := (some (6, true))) kr kr kr [] (impl_behind n v3 v5.Tag v6.Mac r7 er7) kr (.inl rfl) ?_
              refine LAt.fin kr (And.intro (And.intro kr kr) ?_)
              refine AT.runU tOk [(21, []), (22, []), (23, [])] 0 [⟨[20], 141, 4, 19⟩, ⟨[1, 20], 141, 4, 12⟩] [23, 22, 21, 20, 19, 18, 17, 16, 15, 14, 13, 12, 11, 10, 9, 8, 7, 6, 5, 4, 3, 2, 1, 0] rfl kr (fun cx => ?_)
              exact AT.done [35, 34, 33, 32, 31, 30, 29, 28, 27, 26, 25, 24, 23, 22, 21, 20, 19, 18, 17, 16, 15, 14, 13, 12, 3, 4, 11, 10, 9, 8, 7, 6, 5, 2, 0] [4] _ kr kr rfl
            · refine Tr.to ⟨40, 0, [sB 35 (!r7), sB 34 (!r7), sB 33 (!r7), sB 32 r7, sI 31 v6.Mac, (30, .fad (((Fent.row v6).drop 1))), (29, .fad ((Fent.row v6))), sI 28 (IntKind.wrap .i64 (y1 - 1)), sI 27 y1, sC 26 (cF 5 x0 Fent.row), sI 25 v5.Tag, (24, .fad ((Fent.row v5))), (23, .fad ((Fent.row v5))), sI 22 (IntKind.wrap .i64 (y1 - 1)), sI 21 y1, sC 20 (cF 5 x0 Fent.row), sV 19 (Fent.row v3), sB 18 true, sB 17 true, sI 16 y1, sB 15 false, sB 14 false, sB 13 r4, sV 12 (Fent.row v3), sI 3 y1, sA 4 4 5 0, sV 11 (Fent.row v3), (10, .fad ((Fent.row v3))), sI 9 y1, sB 8 true, sI 7 y1, sI 6 (x0.length : Int), sC 5 (cF 5 x0 Fent.row), sB 2 false, sC 0 (cF 5 x0 Fent.row)], [(4, (Fent.row v3))]⟩ kr ?_
              cases h4 : (!r7)
              · have H := bifF h4 H
                refine Tr.cond (b := false) kr (fun h => nomatch h) (fun _ => ?_)
                refine Tr.skip ?_
                show Tr _ _ _ _ _
                refine Tr.at ?_
                refine LAt.runU tOk 2 kr ?_
                refine LAt.doneM 137438953469 16 kr ?_
                exact Exists.intro (mo2, (IntKind.wrap .i64 (y1 + 1))) (And.intro H (And.intro (Nat.lt_succ_self mo2) (St.sub_of [7, 6, 5, 2, 0] [] kr)))
              · have H := bifT h4 H
                refine Tr.cond (b := true) kr (fun _ => ?_) (fun h => nomatch h)
                refine Tr.rs ?_
                refine LAt.runU tOk 1 kr ?_
                refine LAt.doneM 68719476733 16 kr ?_
                refine Tr.ret ?_
                have H := Option.some.inj H
                subst H
                have H := Ho2
                dsimp only at H
                have H := Option.some.inj H
                subst H
                exact Fin.of _ [(false, [cB false])] kr rfl rfl
        · have H := bifT h2 H
          refine Tr.draws mixed 24 kr ⟨40, 0, [sB 35 true, (34, .tup []), (33, .tup []), (32, .tup []), (31, .tup []), (30, .tup []), (29, .tup []), (28, .tup []), (27, .tup []), (26, .tup []), (25, .tup []), (24, .tup []), (23, .tup []), (22, .tup []), (21, .tup []), (20, .tup []), (19, .tup []), (18, .tup []), (17, .tup []), (16, .tup []), sB 15 true, sB 14 true, sB 13 r4, sV 12 (Fent.row v3), sI 3 y1, sA 4 4 5 0, sV 11 (Fent.row v3), (10, .fad ((Fent.row v3))), sI 9 y1, sB 8 true, sI 7 y1, sI 6 (x0.length : Int), sC 5 (cF 5 x0 Fent.row), sB 2 false, sC 0 (cF 5 x0 Fent.row)], [(4, (Fent.row v3))]⟩ (fun cx => ?_) ?_
          · refine AT.runU tOk [(0, [1])] 23 [⟨[1], 141, 4, 12⟩] [0] rfl kr (fun cx => ?_)
            refine AT.big1 tOk 1 kr kr ?_
            refine LAt.callU tOk [.rd] (f := 176) (av := #[.tmp 12]) (ats := #[141]) (d := (some 13)) (ty := 4) (g := none) kr kr kr [] (impl_fentOk n v3 r4 er4) kr (.inl rfl) ?_
            refine LAt.fin kr (And.intro (And.intro kr kr) ?_)
            refine AT.runU tOk [(2, []), (3, [])] 20 [⟨[1], 141, 4, 12⟩] [3, 2, 1, 0] rfl kr (fun cx => ?_)
            refine AT.to ⟨40, 0, [sB 15 (!r4), sB 14 (!r4), sB 13 r4, sV 12 (Fent.row v3), sI 3 y1, sA 4 4 5 0, sV 11 (Fent.row v3), (10, .fad ((Fent.row v3))), sI 9 y1, sB 8 true, sI 7 y1, sI 6 (x0.length : Int), sC 5 (cF 5 x0 Fent.row), sB 2 false, sC 0 (cF 5 x0 Fent.row)], [(4, (Fent.row v3))]⟩ kr ?_
            rw [h2]
            refine AT.runU tOk [(4, []), (5, []), (6, []), (7, []), (8, []), (9, []), (10, []), (11, []), (12, []), (13, []), (14, []), (15, []), (16, []), (17, []), (18, []), (19, []), (20, []), (21, []), (22, []), (23, [])] 0 [⟨[1], 141, 4, 12⟩] [23, 22, 21, 20, 19, 18, 17, 16, 15, 14, 13, 12, 11, 10, 9, 8, 7, 6, 5, 4, 3, 2, 1, 0] rfl kr (fun cx => ?_)
            exact AT.done [35, 34, 33, 32, 31, 30, 29, 28, 27, 26, 25, 24, 23, 22, 21, 20, 19, 18, 17, 16, 15, 14, 13, 12, 3, 4, 11, 10, 9, 8, 7, 6, 5, 2, 0] [4] _ kr kr rfl
          · refine Tr.cond (b := true) kr (fun _ => ?_) (fun h => nomatch h)
            refine Tr.rs ?_
            refine LAt.runU tOk 1 kr ?_
            refine LAt.doneM 68719476733 16 kr ?_
            refine Tr.ret ?_
            have H := Option.some.inj H
            subst H
            have H := Ho2
            dsimp only at H
            have H := Option.some.inj H
            subst H
            exact Fin.of _ [(false, [cB false])] kr rfl rfl
  · rintro _ H
    have H : (impl_FdbOk_J1 n x0) = some r := H
    unfold impl_FdbOk_J1 at H
    show Tr _ _ _ _ _
    refine Tr.rs ?_
    refine LAt.runU tOk 1 kr ?_
    refine LAt.lenE tOk (t := 56) (ty := 3) (e := 141) (x := (.tmp 37)) (d := 38) (g := none) ⟨(.slot 37), [], 0, false, 5, (CV.frzEs (x0.map Fent.row))⟩ (x0).length _ kr kr kr kr kr (frz_len _ _) rfl ?_
    refine LAt.runU tOk 2 kr ?_
    refine LAt.doneM 4 0 kr ?_
    refine Tr.ret ?_
    have H := Option.some.inj H
    subst H
    exact Fin.of _ [(false, [cB (decide ((x0.length : Int) ≤ 12))])] kr rfl rfl

def impl_allPortsF (n : Nat) (x0 : Int) : Option (Int) :=
  (bif (decide ((0 : Int) ≤ x0)) then (some (IntKind.wrap .i64 ((IntKind.wrap .i64 (1 * 2 ^ min ((x0 : Int)).toNat (IntKind.bits .i64))) - 1))) else none)
/-- loop.example/g00326/impl.allPorts -/
theorem impl_allPorts (n : Nat) (x0 : Int) (r : Int) (H : impl_allPortsF n x0 = some r) : LCall Try.prog 178 [.val false [.lit (.int .i64 x0)]] [.val false [.lit (.int .i64 r)]] [] := by
  refine LCall.of_body tOk Try.func178 rfl (c := (.seq (.region 0 (rg Try.f178 0) false) (.seq (.region 1 (rg Try.f178 1) false) .ret))) kr (Nat.le_of_ble_eq_true kr) 0 (rs := [.tmp 2]) rfl [] .nil [(false, [.lit (.int .i64 r)])] [] [] fun cx => ?_
  show Tr _ _ _ ⟨6, 0, [sI 0 x0], []⟩ _
  unfold impl_allPortsF at H
  refine Tr.rs ?_
  refine LAt.runU tOk 1 kr ?_
  refine LAt.doneM 5 0 kr ?_
  refine Tr.rs ?_
  refine LAt.runU tOk 1 kr ?_
  obtain ⟨hg1, H⟩ := guard_some H
  refine LAt.binC tOk (op := .shl) (t := 3) (ty := 3) (ty' := 3) (x := (.const (.int .i64 1))) (y := (.tmp 3)) (d := 4) (g := none) (.int .i64 1) (.int .i64 x0) (.int .i64 (IntKind.wrap .i64 (1 * 2 ^ min ((x0 : Int)).toNat (IntKind.bits .i64)))) _ kr kr kr kr kr (φ := (0 : Int) ≤ x0) kr (of_decide_eq_true hg1) rfl ?_
  refine LAt.runU tOk 2 kr ?_
  refine LAt.doneM 4 0 kr ?_
  refine Tr.ret ?_
  have H := Option.some.inj H
  subst H
  exact Fin.of _ [(false, [cI (IntKind.wrap .i64 ((IntKind.wrap .i64 (1 * 2 ^ min ((x0 : Int)).toNat (IntKind.bits .i64))) - 1))])] kr rfl rfl

def impl_RowAt_J1 (n : Nat) : Option (Int) :=
  (some (-1))
def impl_RowAt_L2 (n : Nat) : Nat → Vtab → Int → Int → Option ((Unit) ⊕ (Int))
  | 0, _, _, _ => none
  | mo2 + 1, x0, x1, y1 => (bif (decide (y1 < (x0.Rows.length : Int))) then ((idx x0.Rows y1).bind fun v3 => (bif (v3.Id == x1) then (some (Sum.inr y1)) else (impl_RowAt_L2 n mo2 x0 x1 (IntKind.wrap .i64 (y1 + 1))))) else (some (Sum.inl ())))
def impl_RowAtF (n : Nat) (x0 : Vtab) (x1 : Int) : Option (Int) :=
  ((impl_RowAt_L2 n n x0 x1 0).bind fun o => match o with | .inl _ => (impl_RowAt_J1 n) | .inr r => some r)
/-- loop.example/g00326/impl.RowAt -/
theorem impl_RowAt (n : Nat) (x0 : Vtab) (x1 : Int) (r : Int) (H : impl_RowAtF n x0 x1 = some r) : LCall Try.prog 179 [.val true (CV.frzRow (Vtab.row x0)), .val false [.lit (.int .i64 x1)]] [.val false [.lit (.int .i64 r)]] [] := by
  refine LCall.of_body tOk Try.func179 rfl (c := (.seq (.region 0 (rg Try.f179 0) false) (.seq (.seq (.region 1 (rg Try.f179 1) false) (.block 0 (.loop (.seq (.region 2 (rg Try.f179 2) false) (.seq (.cond (.tmp 11) .skip (.exit 0)) (.seq (.block 1 (.seq (.region 3 (rg Try.f179 3) false) (.seq (.region 4 (rg Try.f179 4) false) (.cond (.tmp 18) (.seq (.region 5 (rg Try.f179 5) false) .ret) .skip)))) (.region 6 (rg Try.f179 6) false))))))) (.seq (.region 7 (rg Try.f179 7) false) .ret)))) kr (Nat.le_of_ble_eq_true kr) 0 (rs := [.tmp 4]) rfl [] .nil [(false, [.lit (.int .i64 r)])] [] [] fun cx => ?_
  show Tr _ _ _ ⟨21, 0, [sV 0 (CV.frzRow (Vtab.row x0)), sI 1 x1], []⟩ _
  unfold impl_RowAtF at H
  refine Tr.rs ?_
  refine LAt.runU tOk 2 kr ?_
  refine LAt.doneM 22 4 kr ?_
  refine Tr.seq ?_
  refine Tr.rs ?_
  refine LAt.runU tOk 2 kr ?_
  refine LAt.lenE tOk (t := 57) (ty := 3) (e := 138) (x := (.tmp 8)) (d := 9) (g := none) ⟨(.slot 8), [], 0, false, 3, (CV.frzEs (x0.Rows.map Vrow.row))⟩ (x0.Rows).length _ kr kr kr kr kr (frz_len _ _) rfl ?_
  refine LAt.runU tOk 1 kr ?_
  refine LAt.doneM 1810 0 kr ?_
  obtain ⟨o2, eo2, Ho2⟩ := bind_some H
  clear H
  refine Tr.mid (ι := Unit) (fun v => ⟨21, 0, [sI 4 0], []⟩) (fun v => impl_RowAt_J1 n = some r) ?_ ?_
  · refine Tr.block ?_
    refine Tr.loop (ι := Nat × (Int)) (fun v => ⟨21, 0, [sI 10 v.2, sI 9 (x0.Rows.length : Int), sC 8 (cF 3 x0.Rows Vrow.row), sI 4 0, sI 1 x1], []⟩) (fun v => impl_RowAt_L2 n v.1 x0 x1 v.2 = some o2) (fun v => v.1) (n, 0) eo2 (St.sub_of [10, 9, 8, 4, 1] [] kr) ?_
    rintro ⟨mo2, y1⟩ H
    have H : impl_RowAt_L2 n mo2 x0 x1 y1 = some o2 := H
    obtain _ | mo2 := mo2
    · cases (show (none : Option _) = some o2 from H)
    · rw [impl_RowAt_L2] at H
      refine Tr.rs ?_
      refine LAt.runU tOk 1 kr ?_
      refine LAt.doneM 3858 0 kr ?_
      refine Tr.seq ?_
      refine Tr.to ⟨21, 0, [sB 11 (decide (y1 < (x0.Rows.length : Int))), sI 10 y1, sI 9 (x0.Rows.length : Int), sC 8 (cF 3 x0.Rows Vrow.row), sI 4 0, sI 1 x1], []⟩ kr ?_
      cases h1 : (decide (y1 < (x0.Rows.length : Int)))
      · have H := bifF h1 H
        refine Tr.cond (b := false) kr (fun h => nomatch h) (fun _ => ?_)
        refine Tr.exit ?_
        refine And.intro (fun _ => ?_) (fun h => absurd rfl h)
        have H := Option.some.inj H
        subst H
        have H := Ho2
        dsimp only at H
        exact Exists.intro () (And.intro H (St.sub_of [4] [] kr))
      · have H := bifT h1 H
        refine Tr.cond (b := true) kr (fun _ => ?_) (fun h => nomatch h)
        refine Tr.skip ?_
        show Tr _ _ _ _ _
        refine Tr.seq ?_
        refine Tr.block ?_
        refine Tr.rs ?_
        refine LAt.runU tOk 1 kr ?_
        obtain ⟨v3, ev3, H⟩ := bind_some H
        refine LAt.indexF tOk (t := 57) (ty := 0) (x := (.tmp 8)) (y := (.tmp 10)) (d := 13) (g := none) ⟨(.slot 8), [], 0, false, 3, (CV.frzEs (x0.Rows.map Vrow.row))⟩ y1 (Vrow.row v3) _ kr kr kr kr rfl (idx_isF ev3) rfl ?_
        refine LAt.runU tOk 4 kr ?_
        refine LAt.doneM 32626 64 kr ?_
        refine Tr.rs ?_
        refine LAt.runU tOk 4 kr ?_
        refine LAt.doneM 524146 64 kr ?_
        refine Tr.to ⟨21, 0, [sB 18 (v3.Id == x1), sI 17 x1, sI 16 v3.Id, sA 15 6 3 0, sI 5 y1, sA 6 6 3 0, sV 14 (Vrow.row v3), (13, .fad ((Vrow.row v3))), sI 12 y1, sB 11 true, sI 10 y1, sI 9 (x0.Rows.length : Int), sC 8 (cF 3 x0.Rows Vrow.row), sI 4 0, sI 1 x1], [(6, (Vrow.row v3))]⟩ kr ?_
        cases h2 : (v3.Id == x1)
        · have H := bifF h2 H
          refine Tr.cond (b := false) kr (fun h => nomatch h) (fun _ => ?_)
          refine Tr.skip ?_
          show Tr _ _ _ _ _
          refine Tr.at ?_
          refine LAt.runU tOk 2 kr ?_
          refine LAt.doneM 1572722 64 kr ?_
          exact Exists.intro (mo2, (IntKind.wrap .i64 (y1 + 1))) (And.intro H (And.intro (Nat.lt_succ_self mo2) (St.sub_of [10, 9, 8, 4, 1] [] kr)))
        · have H := bifT h2 H
          refine Tr.cond (b := true) kr (fun _ => ?_) (fun h => nomatch h)
          refine Tr.rs ?_
          refine LAt.runU tOk 2 kr ?_
          refine LAt.doneM 1048434 64 kr ?_
          refine Tr.ret ?_
          have H := Option.some.inj H
          subst H
          have H := Ho2
          dsimp only at H
          have H := Option.some.inj H
          subst H
          exact Fin.of _ [(false, [cI y1])] kr rfl rfl
  · rintro _ H
    have H : (impl_RowAt_J1 n) = some r := H
    unfold impl_RowAt_J1 at H
    show Tr _ _ _ _ _
    refine Tr.rs ?_
    refine LAt.runU tOk 1 kr ?_
    refine LAt.doneM 16 0 kr ?_
    refine Tr.ret ?_
    have H := Option.some.inj H
    subst H
    exact Fin.of _ [(false, [cI (-1)])] kr rfl rfl

def impl_VtabOk_J2 (n : Nat) : Option (Bool) :=
  (some true)
def impl_VtabOk_L3 (n : Nat) : Nat → Vtab → Int → Option ((Unit) ⊕ (Bool))
  | 0, _, _ => none
  | mo4 + 1, x0, y3 => (bif (decide (y3 < (x0.Pvid.length : Int))) then ((idx x0.Pvid y3).bind fun v5 => ((impl_RowAtF n x0 v5).bind fun r6 => (bif (decide (r6 < 0)) then (some (Sum.inr false)) else (impl_VtabOk_L3 n mo4 x0 (IntKind.wrap .i64 (y3 + 1)))))) else (some (Sum.inl ())))
def impl_VtabOk_J1 (n : Nat) (x0 : Vtab) : Option (Bool) :=
  ((impl_VtabOk_L3 n n x0 0).bind fun o => match o with | .inl _ => (impl_VtabOk_J2 n) | .inr r => some r)
def impl_VtabOk_L4 (n : Nat) : Nat → Vtab → Int → Int → Option ((Unit) ⊕ (Bool))
  | 0, _, _, _ => none
  | mo7 + 1, x0, x1, y2 => (bif (decide (y2 < (x0.Rows.length : Int))) then ((idx x0.Rows y2).bind fun v8 => ((impl_inF n v8.Id 1 99).bind fun r9 => (bif (!r9) then (some (Sum.inr false)) else (bif (decide (y2 > 0)) then ((idx x0.Rows (IntKind.wrap .i64 (y2 - 1))).bind fun v12 => (bif (decide (v12.Id ≥ v8.Id)) then (some (Sum.inr false)) else ((impl_allPortsF n x1).bind fun r13 => ((impl_inF n v8.Members 0 r13).bind fun r14 => (bif (!r14) then (some (Sum.inr false)) else (bif ((IntKind.wrap .i64 (BitVec.ofInt (IntKind.bits .i64) v8.Bare &&& ~~~BitVec.ofInt (IntKind.bits .i64) v8.Members).toNat) != 0) then (some (Sum.inr false)) else (impl_VtabOk_L4 n mo7 x0 x1 (IntKind.wrap .i64 (y2 + 1))))))))) else ((impl_allPortsF n x1).bind fun r10 => ((impl_inF n v8.Members 0 r10).bind fun r11 => (bif (!r11) then (some (Sum.inr false)) else (bif ((IntKind.wrap .i64 (BitVec.ofInt (IntKind.bits .i64) v8.Bare &&& ~~~BitVec.ofInt (IntKind.bits .i64) v8.Members).toNat) != 0) then (some (Sum.inr false)) else (impl_VtabOk_L4 n mo7 x0 x1 (IntKind.wrap .i64 (y2 + 1))))))))))) else (some (Sum.inl ())))
def impl_VtabOkF (n : Nat) (x0 : Vtab) (x1 : Int) : Option (Bool) :=
  ((impl_inF n x1 1 6).bind fun r1 => (bif (!r1) then (some false) else (bif ((x0.Pvid.length : Int) != x1) then (some false) else (bif (decide ((x0.Rows.length : Int) > 6)) then (some false) else ((impl_VtabOk_L4 n n x0 x1 0).bind fun o => match o with | .inl _ => (impl_VtabOk_J1 n x0) | .inr r => some r)))))
/-- loop.example/g00326/impl.VtabOk -/
theorem impl_VtabOk (n : Nat) (x0 : Vtab) (x1 : Int) (r : Bool) (H : impl_VtabOkF n x0 x1 = some r) : LCall Try.prog 144 [.val true (CV.frzRow (Vtab.row x0)), .val false [.lit (.int .i64 x1)]] [.val false [.lit (.bool r)]] [] := by
  refine LCall.of_body tOk Try.func144 rfl (c := (.seq (.region 0 (rg Try.f144 0) false) (.seq (.seq (.region 1 (rg Try.f144 1) false) (.cond (.tmp 24) (.seq (.region 2 (rg Try.f144 2) false) .ret) .skip)) (.seq (.seq (.region 3 (rg Try.f144 3) false) (.block 0 (.loop (.seq (.region 4 (rg Try.f144 4) false) (.seq (.cond (.tmp 29) .skip (.exit 0)) (.seq (.block 1 (.seq (.region 5 (rg Try.f144 5) false) (.seq (.region 6 (rg Try.f144 6) true) (.cond (.tmp 68) (.seq (.region 7 (rg Try.f144 7) false) .ret) .skip)))) (.region 8 (rg Try.f144 8) false))))))) (.seq (.seq (.region 9 (rg Try.f144 9) false) (.block 2 (.loop (.seq (.region 10 (rg Try.f144 10) false) (.seq (.cond (.tmp 74) .skip (.exit 2)) (.seq (.block 3 (.seq (.region 11 (rg Try.f144 11) false) (.seq (.region 12 (rg Try.f144 12) false) (.cond (.tmp 80) (.seq (.region 13 (rg Try.f144 13) false) .ret) .skip)))) (.region 14 (rg Try.f144 14) false))))))) (.seq (.region 15 (rg Try.f144 15) false) .ret)))))) kr (Nat.le_of_ble_eq_true kr) 0 (rs := [.tmp 4]) rfl [] .nil [(false, [.lit (.bool r)])] [] [] fun cx => ?_
  show Tr _ _ _ ⟨82, 0, [sV 0 (CV.frzRow (Vtab.row x0)), sI 1 x1], []⟩ _
  unfold impl_VtabOkF at H
  refine Tr.rs ?_
  refine LAt.runU tOk 2 kr ?_
  refine LAt.doneM 22 4 kr ?_
  refine Tr.seq ?_
  refine Tr.rs ?_
  refine LAt.runU tOk 1 kr ?_
  obtain ⟨r1, er1, H⟩ := bind_some H
  refine LAt.callU tOk [.rd, .rd, .rd] (f := 70) (av := #[.tmp 9, .const (.int .i64 1), .const (.int .i64 6)]) (ats := #[3, 3, 3]) (d := (some 10)) (ty := 4) (g := none) kr kr kr [] (impl_in n x1 1 6 r1 er1) kr (.inl rfl) ?_
  refine LAt.runU tOk 2 kr ?_
  refine LAt.to ⟨82, 0, [sB 12 (!r1), sB 11 (!r1), sB 10 r1, sI 9 x1, sB 4 false, sA 2 2 2 0, sI 1 x1], [(2, (CV.frzRow (Vtab.row x0)))]⟩ kr ?_
  cases h1 : (!r1)
  · have H := bifF h1 H
    refine LAt.runU tOk 2 kr ?_
    refine LAt.lenE tOk (t := 27) (ty := 3) (e := 3) (x := (.tmp 14)) (d := 15) (g := (some (3, false))) ⟨(.slot 14), [], 0, false, 1, (CV.frzEs (x0.Pvid.map intRow))⟩ (x0.Pvid).length _ kr kr kr kr kr (frz_len _ _) rfl ?_
    refine LAt.runU tOk 4 kr ?_
    refine LAt.to ⟨82, 0, [sB 19 ((x0.Pvid.length : Int) != x1), sB 18 ((x0.Pvid.length : Int) != x1), sB 17 ((x0.Pvid.length : Int) != x1), sI 16 x1, sI 15 (x0.Pvid.length : Int), sC 14 (cF 1 x0.Pvid intRow), sA 13 2 2 1, sB 12 false, sB 11 false, sB 10 r1, sI 9 x1, sB 4 false, sA 2 2 2 0, sI 1 x1], [(2, (CV.frzRow (Vtab.row x0)))]⟩ kr ?_
    cases h2 : ((x0.Pvid.length : Int) != x1)
    · have H := bifF h2 H
      refine LAt.runU tOk 2 kr ?_
      refine LAt.lenE tOk (t := 57) (ty := 3) (e := 138) (x := (.tmp 21)) (d := 22) (g := (some (10, false))) ⟨(.slot 21), [], 0, false, 3, (CV.frzEs (x0.Rows.map Vrow.row))⟩ (x0.Rows).length _ kr kr kr kr kr (frz_len _ _) rfl ?_
      refine LAt.runU tOk 2 kr ?_
      refine LAt.doneM 16777238 4 kr ?_
      refine Tr.to ⟨82, 0, [sB 24 (decide ((x0.Rows.length : Int) > 6)), sB 4 false, sA 2 2 2 0, sI 1 x1], [(2, (CV.frzRow (Vtab.row x0)))]⟩ kr ?_
      cases h3 : (decide ((x0.Rows.length : Int) > 6))
      · have H := bifF h3 H
        refine Tr.cond (b := false) kr (fun h => nomatch h) (fun _ => ?_)
        refine Tr.skip ?_
        show Tr _ _ _ _ _
        refine Tr.seq ?_
        refine Tr.rs ?_
        refine LAt.runU tOk 2 kr ?_
        refine LAt.lenE tOk (t := 57) (ty := 3) (e := 138) (x := (.tmp 26)) (d := 27) (g := none) ⟨(.slot 26), [], 0, false, 3, (CV.frzEs (x0.Rows.map Vrow.row))⟩ (x0.Rows).length _ kr kr kr kr kr (frz_len _ _) rfl ?_
        refine LAt.runU tOk 1 kr ?_
        refine LAt.doneM 469762070 4 kr ?_
        obtain ⟨o7, eo7, Ho7⟩ := bind_some H
        clear H
        refine Tr.mid (ι := Unit) (fun v => ⟨82, 0, [sB 4 false, sA 2 2 2 0], [(2, (CV.frzRow (Vtab.row x0)))]⟩) (fun v => impl_VtabOk_J1 n x0 = some r) ?_ ?_
        · refine Tr.block ?_
          refine Tr.loop (ι := Nat × (Int)) (fun v => ⟨82, 0, [sI 28 v.2, sI 27 (x0.Rows.length : Int), sC 26 (cF 3 x0.Rows Vrow.row), sB 4 false, sA 2 2 2 0, sI 1 x1], [(2, (CV.frzRow (Vtab.row x0)))]⟩) (fun v => impl_VtabOk_L4 n v.1 x0 x1 v.2 = some o7) (fun v => v.1) (n, 0) eo7 (St.sub_of [28, 27, 26, 4, 2, 1] [2] kr) ?_
          rintro ⟨mo7, y2⟩ H
          have H : impl_VtabOk_L4 n mo7 x0 x1 y2 = some o7 := H
          obtain _ | mo7 := mo7
          · cases (show (none : Option _) = some o7 from H)
          · rw [impl_VtabOk_L4] at H
            refine Tr.rs ?_
            refine LAt.runU tOk 1 kr ?_
            refine LAt.doneM 1006632982 4 kr ?_
            refine Tr.seq ?_
            refine Tr.to ⟨82, 0, [sB 29 (decide (y2 < (x0.Rows.length : Int))), sI 28 y2, sI 27 (x0.Rows.length : Int), sC 26 (cF 3 x0.Rows Vrow.row), sB 4 false, sA 2 2 2 0, sI 1 x1], [(2, (CV.frzRow (Vtab.row x0)))]⟩ kr ?_
            cases h6 : (decide (y2 < (x0.Rows.length : Int)))
            · have H := bifF h6 H
              refine Tr.cond (b := false) kr (fun h => nomatch h) (fun _ => ?_)
              refine Tr.exit ?_
              refine And.intro (fun _ => ?_) (fun h => absurd rfl h)
              have H := Option.some.inj H
              subst H
              have H := Ho7
              dsimp only at H
              exact Exists.intro () (And.intro H (St.sub_of [4, 2] [2] kr))
            · have H := bifT h6 H
              refine Tr.cond (b := true) kr (fun _ => ?_) (fun h => nomatch h)
              refine Tr.skip ?_
              show Tr _ _ _ _ _
              refine Tr.seq ?_
              refine Tr.block ?_
              refine Tr.rs ?_
              refine LAt.runU tOk 1 kr ?_
              obtain ⟨v8, ev8, H⟩ := bind_some H
              refine LAt.indexF tOk (t := 57) (ty := 0) (x := (.tmp 26)) (y := (.tmp 28)) (d := 31) (g := none) ⟨(.slot 26), [], 0, false, 3, (CV.frzEs (x0.Rows.map Vrow.row))⟩ y2 (Vrow.row v8) _ kr kr kr kr rfl (idx_isF ev8) rfl ?_
              refine LAt.runU tOk 4 kr ?_
              refine LAt.doneM 8522825846 68 kr ?_
              obtain ⟨r9, er9, H⟩ := bind_some H
              refine Tr.to ⟨82, 0, [sI 5 y2, sA 6 6 3 0, sV 32 (Vrow.row v8), (31, .fad ((Vrow.row v8))), sI 30 y2, sB 29 true, sI 28 y2, sI 27 (x0.Rows.length : Int), sC 26 (cF 3 x0.Rows Vrow.row), sB 4 false, sA 2 2 2 0, sI 1 x1], [(6, (Vrow.row v8)), (2, (CV.frzRow (Vtab.row x0)))]⟩ kr ?_
              cases h7 : (!r9)
              · have H := bifF h7 H
                refine Tr.to ⟨82, 0, [sI 5 y2, sA 6 6 3 0, sV 32 (Vrow.row v8), (31, .fad ((Vrow.row v8))), sI 30 y2, sB 29 true, sI 28 y2, sI 27 (x0.Rows.length : Int), sC 26 (cF 3 x0.Rows Vrow.row), sB 4 false, sA 2 2 2 0, sI 1 x1], [(6, (Vrow.row v8)), (2, (CV.frzRow (Vtab.row x0)))]⟩ kr ?_
                cases h8 : (decide (y2 > 0))
                · have H := bifF h8 H
                  obtain ⟨r10, er10, H⟩ := bind_some H
                  obtain ⟨r11, er11, H⟩ := bind_some H
                  refine Tr.to ⟨82, 0, [sI 5 y2, sA 6 6 3 0, sV 32 (Vrow.row v8), (31, .fad ((Vrow.row v8))), sI 30 y2, sB 29 true, sI 28 y2, sI 27 (x0.Rows.length : Int), sC 26 (cF 3 x0.Rows Vrow.row), sB 4 false, sA 2 2 2 0, sI 1 x1], [(6, (Vrow.row v8)), (2, (CV.frzRow (Vtab.row x0)))]⟩ kr ?_
                  cases h9 : (!r11)
                  · have H := bifF h9 H
                    refine Tr.draws mixed 36 kr ⟨82, 0, [sB 68 ((IntKind.wrap .i64 (BitVec.ofInt (IntKind.bits .i64) v8.Bare &&& ~~~BitVec.ofInt (IntKind.bits .i64) v8.Members).toNat) != 0), sB 67 ((IntKind.wrap .i64 (BitVec.ofInt (IntKind.bits .i64) v8.Bare &&& ~~~BitVec.ofInt (IntKind.bits .i64) v8.Members).toNat) != 0), sI 66 (IntKind.wrap .i64 (BitVec.ofInt (IntKind.bits .i64) v8.Bare &&& ~~~BitVec.ofInt (IntKind.bits .i64) v8.Members).toNat), sI 65 v8.Members, sA 64 6 3 1, sI 63 v8.Bare, sA 62 6 3 2, sB 61 false, sB 60 false, sB 59 false, sB 58 r11, sI 57 r10, sI 56 x1, sI 55 v8.Members, sA 54 6 3 1, sB 53 false, sB 52 false, sB 51 false, (50, .tup []), (49, .tup []), (48, .tup []), (47, .tup []), (46, .tup []), (45, .tup []), (44, .tup []), (43, .tup []), (42, .tup []), (41, .tup []), sB 40 false, sB 39 false, sI 38 y2, sB 37 false, sB 36 false, sB 35 r9, sI 34 v8.Id, sA 33 6 3 0, sI 5 y2, sA 6 6 3 0, sV 32 (Vrow.row v8), (31, .fad ((Vrow.row v8))), sI 30 y2, sB 29 true, sI 28 y2, sI 27 (x0.Rows.length : Int), sC 26 (cF 3 x0.Rows Vrow.row), sB 4 false, sA 2 2 2 0, sI 1 x1], [(6, (Vrow.row v8)), (2, (CV.frzRow (Vtab.row x0)))]⟩ (fun cx => ?_) ?_
                    · refine AT.runU tOk [(0, []), (1, [2, 24, 25])] 34 [⟨[2, 24, 25], 3, 33, 34⟩] [1, 0] rfl kr (fun cx => ?_)
                      refine AT.big1 tOk 2 kr kr ?_
                      refine LAt.callU tOk [.rd, .rd, .rd] (f := 70) (av := #[.tmp 34, .const (.int .i64 1), .const (.int .i64 99)]) (ats := #[3, 3, 3]) (d := (some 35)) (ty := 4) (g := none) kr kr kr [] (impl_in n v8.Id 1 99 r9 er9) kr (.inl rfl) ?_
                      refine LAt.fin kr (And.intro (And.intro kr kr) ?_)
                      refine AT.runU tOk [(3, []), (4, [])] 31 [⟨[2, 24, 25], 3, 33, 34⟩] [4, 3, 2, 1, 0] rfl kr (fun cx => ?_)
                      refine AT.to ⟨82, 0, [sB 37 (!r9), sB 36 (!r9), sB 35 r9, sI 34 v8.Id, sA 33 6 3 0, sI 5 y2, sA 6 6 3 0, sV 32 (Vrow.row v8), (31, .fad ((Vrow.row v8))), sI 30 y2, sB 29 true, sI 28 y2, sI 27 (x0.Rows.length : Int), sC 26 (cF 3 x0.Rows Vrow.row), sB 4 false, sA 2 2 2 0, sI 1 x1], [(6, (Vrow.row v8)), (2, (CV.frzRow (Vtab.row x0)))]⟩ kr ?_
                      rw [h7]
                      refine AT.runU tOk [(5, []), (6, []), (7, [])] 28 [⟨[2, 24, 25], 3, 33, 34⟩] [7, 6, 5, 4, 3, 2, 1, 0] rfl kr (fun cx => ?_)
                      refine AT.to ⟨82, 0, [sB 40 (decide (y2 > 0)), sB 39 (decide (y2 > 0)), sI 38 y2, sB 37 false, sB 36 false, sB 35 r9, sI 34 v8.Id, sA 33 6 3 0, sI 5 y2, sA 6 6 3 0, sV 32 (Vrow.row v8), (31, .fad ((Vrow.row v8))), sI 30 y2, sB 29 true, sI 28 y2, sI 27 (x0.Rows.length : Int), sC 26 (cF 3 x0.Rows Vrow.row), sB 4 false, sA 2 2 2 0, sI 1 x1], [(6, (Vrow.row v8)), (2, (CV.frzRow (Vtab.row x0)))]⟩ kr ?_
                      rw [h8]
                      refine AT.runU tOk [(8, []), (9, []), (10, []), (11, []), (12, []), (13, []), (14, []), (15, []), (16, []), (17, []), (18, []), (19, []), (20, []), (21, []), (22, [25]), (23, [])] 12 [⟨[25], 3, 54, 55⟩, ⟨[2, 24, 25], 3, 33, 34⟩] [23, 22, 21, 20, 19, 18, 17, 16, 15, 14, 13, 12, 11, 10, 9, 8, 7, 6, 5, 4, 3, 2, 1, 0] rfl kr (fun cx => ?_)
                      refine AT.big1 tOk 24 kr kr ?_
                      refine LAt.callU tOk [.rd] (f := 178) (av := #[.tmp 56]) (ats := #[3]) (d := (some 57)) (ty := 3) (g := (some (20, false))) kr kr kr [] (impl_allPorts n x1 r10 er10) kr (.inl rfl) ?_
                      refine LAt.fin kr (And.intro (And.intro kr kr) ?_)
                      refine AT.big1 tOk 25 kr kr ?_
                      refine LAt.callU tOk [.rd, .rd, .rd] (f := 70) (av := #[.tmp 55, .const (.int .i64 0), .tmp 57]) (ats := #[3, 3, 3]) (d := (some 58)) (ty := 4) (g := (some (20, false))) kr kr kr [] (impl_in n v8.Members 0 r10 r11 er11) kr (.inl rfl) ?_
                      refine LAt.fin kr (And.intro (And.intro kr kr) ?_)
                      refine AT.runU tOk [(26, []), (27, []), (28, [])] 7 [⟨[25], 3, 54, 55⟩, ⟨[2, 24, 25], 3, 33, 34⟩] [28, 27, 26, 25, 24, 23, 22, 21, 20, 19, 18, 17, 16, 15, 14, 13, 12, 11, 10, 9, 8, 7, 6, 5, 4, 3, 2, 1, 0] rfl kr (fun cx => ?_)
                      refine AT.to ⟨82, 0, [sB 61 (!r11), sB 60 (!r11), sB 59 (!r11), sB 58 r11, sI 57 r10, sI 56 x1, sI 55 v8.Members, sA 54 6 3 1, sB 53 false, sB 52 false, sB 51 false, (50, .tup []), (49, .tup []), (48, .tup []), (47, .tup []), (46, .tup []), (45, .tup []), (44, .tup []), (43, .tup []), (42, .tup []), (41, .tup []), sB 40 false, sB 39 false, sI 38 y2, sB 37 false, sB 36 false, sB 35 r9, sI 34 v8.Id, sA 33 6 3 0, sI 5 y2, sA 6 6 3 0, sV 32 (Vrow.row v8), (31, .fad ((Vrow.row v8))), sI 30 y2, sB 29 true, sI 28 y2, sI 27 (x0.Rows.length : Int), sC 26 (cF 3 x0.Rows Vrow.row), sB 4 false, sA 2 2 2 0, sI 1 x1], [(6, (Vrow.row v8)), (2, (CV.frzRow (Vtab.row x0)))]⟩ kr ?_
                      rw [h9]
                      refine AT.runU tOk [(29, []), (30, []), (31, []), (32, []), (33, []), (34, []), (35, [])] 0 [⟨[], 3, 64, 65⟩, ⟨[], 3, 62, 63⟩, ⟨[25], 3, 54, 55⟩, ⟨[2, 24, 25], 3, 33, 34⟩] [35, 34, 33, 32, 31, 30, 29, 28, 27, 26, 25, 24, 23, 22, 21, 20, 19, 18, 17, 16, 15, 14, 13, 12, 11, 10, 9, 8, 7, 6, 5, 4, 3, 2, 1, 0] rfl kr (fun cx => ?_)
                      exact AT.done [68, 67, 66, 65, 64, 63, 62, 61, 60, 59, 58, 57, 56, 55, 54, 53, 52, 51, 50, 49, 48, 47, 46, 45, 44, 43, 42, 41, 40, 39, 38, 37, 36, 35, 34, 33, 5, 6, 32, 31, 30, 29, 28, 27, 26, 4, 2, 1] [6, 2] _ kr kr rfl
                    · refine Tr.to ⟨82, 0, [sB 68 ((IntKind.wrap .i64 (BitVec.ofInt (IntKind.bits .i64) v8.Bare &&& ~~~BitVec.ofInt (IntKind.bits .i64) v8.Members).toNat) != 0), sB 67 ((IntKind.wrap .i64 (BitVec.ofInt (IntKind.bits .i64) v8.Bare &&& ~~~BitVec.ofInt (IntKind.bits .i64) v8.Members).toNat) != 0), sI 66 (IntKind.wrap .i64 (BitVec.ofInt (IntKind.bits .i64) v8.Bare &&& ~~~BitVec.ofInt (IntKind.bits .i64) v8.Members).toNat), sI 65 v8.Members, sA 64 6 3 1, sI 63 v8.Bare, sA 62 6 3 2, sB 61 false, sB 60 false, sB 59 false, sB 58 r11, sI 57 r10, sI 56 x1, sI 55 v8.Members, sA 54 6 3 1, sB 53 false, sB 52 false, sB 51 false, (50, .tup []), (49, .tup []), (48, .tup []), (47, .tup []), (46, .tup []), (45, .tup []), (44, .tup []), (43, .tup []), (42, .tup []), (41, .tup []), sB 40 false, sB 39 false, sI 38 y2, sB 37 false, sB 36 false, sB 35 r9, sI 34 v8.Id, sA 33 6 3 0, sI 5 y2, sA 6 6 3 0, sV 32 (Vrow.row v8), (31, .fad ((Vrow.row v8))), sI 30 y2, sB 29 true, sI 28 y2, sI 27 (x0.Rows.length : Int), sC 26 (cF 3 x0.Rows Vrow.row), sB 4 false, sA 2 2 2 0, sI 1 x1], [(6, (Vrow.row v8)), (2, (CV.frzRow (Vtab.row x0)))]⟩ kr ?_
                      cases h10 : ((IntKind.wrap .i64 (BitVec.ofInt (IntKind.bits .i64) v8.Bare &&& ~~~BitVec.ofInt (IntKind.bits .i64) v8.Members).toNat) != 0)
                      · have H := bifF h10 H
                        refine Tr.cond (b := false) kr (fun h => nomatch h) (fun _ => ?_)
                        refine Tr.skip ?_
                        show Tr _ _ _ _ _
                        refine Tr.at ?_
                        refine LAt.runU tOk 2 kr ?_
                        refine LAt.doneM 1180591620717344194678 68 kr ?_
                        exact Exists.intro (mo7, (IntKind.wrap .i64 (y2 + 1))) (And.intro H (And.intro (Nat.lt_succ_self mo7) (St.sub_of [28, 27, 26, 4, 2, 1] [2] kr)))
                      · have H := bifT h10 H
                        refine Tr.cond (b := true) kr (fun _ => ?_) (fun h => nomatch h)
                        refine Tr.rs ?_
                        refine LAt.runU tOk 1 kr ?_
                        refine LAt.doneM 590295810358638542966 68 kr ?_
                        refine Tr.ret ?_
                        have H := Option.some.inj H
                        subst H
                        have H := Ho7
                        dsimp only at H
                        have H := Option.some.inj H
                        subst H
                        exact Fin.of _ [(false, [cB false])] kr rfl rfl
                  · have H := bifT h9 H
                    refine Tr.draws mixed 36 kr ⟨82, 0, [sB 68 true, (67, .tup []), (66, .tup []), (65, .tup []), (64, .tup []), (63, .tup []), (62, .tup []), sB 61 true, sB 60 true, sB 59 true, sB 58 r11, sI 57 r10, sI 56 x1, sI 55 v8.Members, sA 54 6 3 1, sB 53 false, sB 52 false, sB 51 false, (50, .tup []), (49, .tup []), (48, .tup []), (47, .tup []), (46, .tup []), (45, .tup []), (44, .tup []), (43, .tup []), (42, .tup []), (41, .tup []), sB 40 false, sB 39 false, sI 38 y2, sB 37 false, sB 36 false, sB 35 r9, sI 34 v8.Id, sA 33 6 3 0, sI 5 y2, sA 6 6 3 0, sV 32 (Vrow.row v8), (31, .fad ((Vrow.row v8))), sI 30 y2, sB 29 true, sI 28 y2, sI 27 (x0.Rows.length : Int), sC 26 (cF 3 x0.Rows Vrow.row), sB 4 false, sA 2 2 2 0, sI 1 x1], [(6, (Vrow.row v8)), (2, (CV.frzRow (Vtab.row x0)))]⟩ (fun cx => ?_) ?_
                    · refine AT.runU tOk [(0, []), (1, [2, 24, 25])] 34 [⟨[2, 24, 25], 3, 33, 34⟩] [1, 0] rfl kr (fun cx => ?_)
                      refine AT.big1 tOk 2 kr kr ?_
                      refine LAt.callU tOk [.rd, .rd, .rd] (f := 70) (av := #[.tmp 34, .const (.int .i64 1), .const (.int .i64 99)]) (ats := #[3, 3, 3]) (d := (some 35)) (ty := 4) (g := none) kr kr kr [] (impl_in n v8.Id 1 99 r9 er9) kr (.inl rfl) ?_
                      refine LAt.fin kr (And.intro (And.intro kr kr) ?_)
                      refine AT.runU tOk [(3, []), (4, [])] 31 [⟨[2, 24, 25], 3, 33, 34⟩] [4, 3, 2, 1, 0] rfl kr (fun cx => ?_)
                      refine AT.to ⟨82, 0, [sB 37 (!r9), sB 36 (!r9), sB 35 r9, sI 34 v8.Id, sA 33 6 3 0, sI 5 y2, sA 6 6 3 0, sV 32 (Vrow.row v8), (31, .fad ((Vrow.row v8))), sI 30 y2, sB 29 true, sI 28 y2, sI 27 (x0.Rows.length : Int), sC 26 (cF 3 x0.Rows Vrow.row), sB 4 false, sA 2 2 2 0, sI 1 x1], [(6, (Vrow.row v8)), (2, (CV.frzRow (Vtab.row x0)))]⟩ kr ?_
                      rw [h7]
                      refine AT.runU tOk [(5, []), (6, []), (7, [])] 28 [⟨[2, 24, 25], 3, 33, 34⟩] [7, 6, 5, 4, 3, 2, 1, 0] rfl kr (fun cx => ?_)
                      refine AT.to ⟨82, 0, [sB 40 (decide (y2 > 0)), sB 39 (decide (y2 > 0)), sI 38 y2, sB 37 false, sB 36 false, sB 35 r9, sI 34 v8.Id, sA 33 6 3 0, sI 5 y2, sA 6 6 3 0, sV 32 (Vrow.row v8), (31, .fad ((Vrow.row v8))), sI 30 y2, sB 29 true, sI 28 y2, sI 27 (x0.Rows.length : Int), sC 26 (cF 3 x0.Rows Vrow.row), sB 4 false, sA 2 2 2 0, sI 1 x1], [(6, (Vrow.row v8)), (2, (CV.frzRow (Vtab.row x0)))]⟩ kr ?_
                      rw [h8]
                      refine AT.runU tOk [(8, []), (9, []), (10, []), (11, []), (12, []), (13, []), (14, []), (15, []), (16, []), (17, []), (18, []), (19, []), (20, []), (21, []), (22, [25]), (23, [])] 12 [⟨[25], 3, 54, 55⟩, ⟨[2, 24, 25], 3, 33, 34⟩] [23, 22, 21, 20, 19, 18, 17, 16, 15, 14, 13, 12, 11, 10, 9, 8, 7, 6, 5, 4, 3, 2, 1, 0] rfl kr (fun cx => ?_)
                      refine AT.big1 tOk 24 kr kr ?_
                      refine LAt.callU tOk [.rd] (f := 178) (av := #[.tmp 56]) (ats := #[3]) (d := (some 57)) (ty := 3) (g := (some (20, false))) kr kr kr [] (impl_allPorts n x1 r10 er10) kr (.inl rfl) ?_
                      refine LAt.fin kr (And.intro (And.intro kr kr) ?_)
                      refine AT.big1 tOk 25 kr kr ?_
                      refine LAt.callU tOk [.rd, .rd, .rd] (f := 70) (av := #[.tmp 55, .const (.int .i64 0), .tmp 57]) (ats := #[3, 3, 3]) (d := (some 58)) (ty := 4) (g := (some (20, false))) kr kr kr [] (impl_in n v8.Members 0 r10 r11 er11) kr (.inl rfl) ?_
                      refine LAt.fin kr (And.intro (And.intro kr kr) ?_)
                      refine AT.runU tOk [(26, []), (27, []), (28, [])] 7 [⟨[25], 3, 54, 55⟩, ⟨[2, 24, 25], 3, 33, 34⟩] [28, 27, 26, 25, 24, 23, 22, 21, 20, 19, 18, 17, 16, 15, 14, 13, 12, 11, 10, 9, 8, 7, 6, 5, 4, 3, 2, 1, 0] rfl kr (fun cx => ?_)
                      refine AT.to ⟨82, 0, [sB 61 (!r11), sB 60 (!r11), sB 59 (!r11), sB 58 r11, sI 57 r10, sI 56 x1, sI 55 v8.Members, sA 54 6 3 1, sB 53 false, sB 52 false, sB 51 false, (50, .tup []), (49, .tup []), (48, .tup []), (47, .tup []), (46, .tup []), (45, .tup []), (44, .tup []), (43, .tup []), (42, .tup []), (41, .tup []), sB 40 false, sB 39 false, sI 38 y2, sB 37 false, sB 36 false, sB 35 r9, sI 34 v8.Id, sA 33 6 3 0, sI 5 y2, sA 6 6 3 0, sV 32 (Vrow.row v8), (31, .fad ((Vrow.row v8))), sI 30 y2, sB 29 true, sI 28 y2, sI 27 (x0.Rows.length : Int), sC 26 (cF 3 x0.Rows Vrow.row), sB 4 false, sA 2 2 2 0, sI 1 x1], [(6, (Vrow.row v8)), (2, (CV.frzRow (Vtab.row x0)))]⟩ kr ?_
                      rw [h9]
                      refine AT.runU tOk [(29, []), (30, []), (31, []), (32, []), (33, []), (34, []), (35, [])] 0 [⟨[25], 3, 54, 55⟩, ⟨[2, 24, 25], 3, 33, 34⟩] [35, 34, 33, 32, 31, 30, 29, 28, 27, 26, 25, 24, 23, 22, 21, 20, 19, 18, 17, 16, 15, 14, 13, 12, 11, 10, 9, 8, 7, 6, 5, 4, 3, 2, 1, 0] rfl kr (fun cx => ?_)
                      exact AT.done [68, 67, 66, 65, 64, 63, 62, 61, 60, 59, 58, 57, 56, 55, 54, 53, 52, 51, 50, 49, 48, 47, 46, 45, 44, 43, 42, 41, 40, 39, 38, 37, 36, 35, 34, 33, 5, 6, 32, 31, 30, 29, 28, 27, 26, 4, 2, 1] [6, 2] _ kr kr rfl
                    · refine Tr.cond (b := true) kr (fun _ => ?_) (fun h => nomatch h)
                      refine Tr.rs ?_
                      refine LAt.runU tOk 1 kr ?_
                      refine LAt.doneM 590295810358638542966 68 kr ?_
                      refine Tr.ret ?_
                      have H := Option.some.inj H
                      subst H
                      have H := Ho7
                      dsimp only at H
                      have H := Option.some.inj H
                      subst H
                      exact Fin.of _ [(false, [cB false])] kr rfl rfl
                · have H := bifT h8 H
                  obtain ⟨v12, ev12, H⟩ := bind_some H
                  refine Tr.to ⟨82, 0, [sI 5 y2, sA 6 6 3 0, sV 32 (Vrow.row v8), (31, .fad ((Vrow.row v8))), sI 30 y2, sB 29 true, sI 28 y2, sI 27 (x0.Rows.length : Int), sC 26 (cF 3 x0.Rows Vrow.row), sB 4 false, sA 2 2 2 0, sI 1 x1], [(6, (Vrow.row v8)), (2, (CV.frzRow (Vtab.row x0)))]⟩ kr ?_
                  cases h11 : (decide (v12.Id ≥ v8.Id))
                  · have H := bifF h11 H
                    obtain ⟨r13, er13, H⟩ := bind_some H
                    obtain ⟨r14, er14, H⟩ := bind_some H
                    refine Tr.to ⟨82, 0, [sI 5 y2, sA 6 6 3 0, sV 32 (Vrow.row v8), (31, .fad ((Vrow.row v8))), sI 30 y2, sB 29 true, sI 28 y2, sI 27 (x0.Rows.length : Int), sC 26 (cF 3 x0.Rows Vrow.row), sB 4 false, sA 2 2 2 0, sI 1 x1], [(6, (Vrow.row v8)), (2, (CV.frzRow (Vtab.row x0)))]⟩ kr ?_
                    cases h12 : (!r14)
                    · have H := bifF h12 H
                      refine Tr.draws mixed 36 kr ⟨82, 0, [sB 68 ((IntKind.wrap .i64 (BitVec.ofInt (IntKind.bits .i64) v8.Bare &&& ~~~BitVec.ofInt (IntKind.bits .i64) v8.Members).toNat) != 0), sB 67 ((IntKind.wrap .i64 (BitVec.ofInt (IntKind.bits .i64) v8.Bare &&& ~~~BitVec.ofInt (IntKind.bits .i64) v8.Members).toNat) != 0), sI 66 (IntKind.wrap .i64 (BitVec.ofInt (IntKind.bits .i64) v8.Bare &&& ~~~BitVec.ofInt (IntKind.bits .i64) v8.Members).toNat), sI 65 v8.Members, sA 64 6 3 1, sI 63 v8.Bare, sA 62 6 3 2, sB 61 false, sB 60 false, sB 59 false, sB 58 r14, sI 57 r13, sI 56 x1, sI 55 v8.Members, sA 54 6 3 1, sB 53 false, sB 52 false, sB 51 false, sB 50 false, sI 49 v8.Id, sA 48 6 3 0, sI 47 v12.Id, (46, .fad ((Vrow.row v12))), (45, .fad ((Vrow.row v12))), sI 44 (IntKind.wrap .i64 (y2 - 1)), sI 43 y2, sR 42 2 2 0 1 false, sA 41 2 2 0, sB 40 true, sB 39 true, sI 38 y2, sB 37 false, sB 36 false, sB 35 r9, sI 34 v8.Id, sA 33 6 3 0, sI 5 y2, sA 6 6 3 0, sV 32 (Vrow.row v8), (31, .fad ((Vrow.row v8))), sI 30 y2, sB 29 true, sI 28 y2, sI 27 (x0.Rows.length : Int), sC 26 (cF 3 x0.Rows Vrow.row), sB 4 false, sA 2 2 2 0, sI 1 x1], [(6, (Vrow.row v8)), (2, (CV.frzRow (Vtab.row x0)))]⟩ (fun cx => ?_) ?_
                      · refine AT.runU tOk [(0, []), (1, [2, 24, 25])] 34 [⟨[2, 24, 25], 3, 33, 34⟩] [1, 0] rfl kr (fun cx => ?_)
                        refine AT.big1 tOk 2 kr kr ?_
                        refine LAt.callU tOk [.rd, .rd, .rd] (f := 70) (av := #[.tmp 34, .const (.int .i64 1), .const (.int .i64 99)]) (ats := #[3, 3, 3]) (d := (some 35)) (ty := 4) (g := none) kr kr kr [] (impl_in n v8.Id 1 99 r9 er9) kr (.inl rfl) ?_
                        refine LAt.fin kr (And.intro (And.intro kr kr) ?_)
                        refine AT.runU tOk [(3, []), (4, [])] 31 [⟨[2, 24, 25], 3, 33, 34⟩] [4, 3, 2, 1, 0] rfl kr (fun cx => ?_)
                        refine AT.to ⟨82, 0, [sB 37 (!r9), sB 36 (!r9), sB 35 r9, sI 34 v8.Id, sA 33 6 3 0, sI 5 y2, sA 6 6 3 0, sV 32 (Vrow.row v8), (31, .fad ((Vrow.row v8))), sI 30 y2, sB 29 true, sI 28 y2, sI 27 (x0.Rows.length : Int), sC 26 (cF 3 x0.Rows Vrow.row), sB 4 false, sA 2 2 2 0, sI 1 x1], [(6, (Vrow.row v8)), (2, (CV.frzRow (Vtab.row x0)))]⟩ kr ?_
                        rw [h7]
                        refine AT.runU tOk [(5, []), (6, []), (7, [])] 28 [⟨[2, 24, 25], 3, 33, 34⟩] [7, 6, 5, 4, 3, 2, 1, 0] rfl kr (fun cx => ?_)
                        refine AT.to ⟨82, 0, [sB 40 (decide (y2 > 0)), sB 39 (decide (y2 > 0)), sI 38 y2, sB 37 false, sB 36 false, sB 35 r9, sI 34 v8.Id, sA 33 6 3 0, sI 5 y2, sA 6 6 3 0, sV 32 (Vrow.row v8), (31, .fad ((Vrow.row v8))), sI 30 y2, sB 29 true, sI 28 y2, sI 27 (x0.Rows.length : Int), sC 26 (cF 3 x0.Rows Vrow.row), sB 4 false, sA 2 2 2 0, sI 1 x1], [(6, (Vrow.row v8)), (2, (CV.frzRow (Vtab.row x0)))]⟩ kr ?_
                        rw [h8]
                        refine AT.runU tOk [(8, []), (9, [24, 25]), (10, []), (11, [])] 24 [⟨[24, 25], 57, 41, 42⟩, ⟨[2, 24, 25], 3, 33, 34⟩] [11, 10, 9, 8, 7, 6, 5, 4, 3, 2, 1, 0] rfl kr (fun cx => ?_)
                        refine AT.indexF tOk 12 (t := 57) (ty := 0) (x := (.tmp 42)) (y := (.tmp 44)) (d := 45) (g := (some (7, true))) ⟨(.box 2), [(0, 0)], 0, false, 3, (CV.frzEs (x0.Rows.map Vrow.row))⟩ (IntKind.wrap .i64 (y2 - 1)) (Vrow.row v12) _ kr kr kr kr kr kr rfl (idx_isF ev12) rfl (fun cx => ?_)
                        refine AT.runU tOk [(13, []), (14, []), (15, []), (16, [24, 25]), (17, []), (18, []), (19, []), (20, [])] 15 [⟨[24, 25], 3, 48, 49⟩, ⟨[24, 25], 57, 41, 42⟩, ⟨[2, 24, 25], 3, 33, 34⟩] [20, 19, 18, 17, 16, 15, 14, 13, 12, 11, 10, 9, 8, 7, 6, 5, 4, 3, 2, 1, 0] rfl kr (fun cx => ?_)
                        refine AT.to ⟨82, 0, [sB 53 (decide (v12.Id ≥ v8.Id)), sB 52 (decide (v12.Id ≥ v8.Id)), sB 51 (decide (v12.Id ≥ v8.Id)), sB 50 (decide (v12.Id ≥ v8.Id)), sI 49 v8.Id, sA 48 6 3 0, sI 47 v12.Id, (46, .fad ((Vrow.row v12))), (45, .fad ((Vrow.row v12))), sI 44 (IntKind.wrap .i64 (y2 - 1)), sI 43 y2, sR 42 2 2 0 1 false, sA 41 2 2 0, sB 40 true, sB 39 true, sI 38 y2, sB 37 false, sB 36 false, sB 35 r9, sI 34 v8.Id, sA 33 6 3 0, sI 5 y2, sA 6 6 3 0, sV 32 (Vrow.row v8), (31, .fad ((Vrow.row v8))), sI 30 y2, sB 29 true, sI 28 y2, sI 27 (x0.Rows.length : Int), sC 26 (cF 3 x0.Rows Vrow.row), sB 4 false, sA 2 2 2 0, sI 1 x1], [(6, (Vrow.row v8)), (2, (CV.frzRow (Vtab.row x0)))]⟩ kr ?_
                        rw [h11]
                        refine AT.runU tOk [(21, []), (22, [25]), (23, [])] 12 [⟨[25], 3, 54, 55⟩, ⟨[24, 25], 3, 48, 49⟩, ⟨[24, 25], 57, 41, 42⟩, ⟨[2, 24, 25], 3, 33, 34⟩] [23, 22, 21, 20, 19, 18, 17, 16, 15, 14, 13, 12, 11, 10, 9, 8, 7, 6, 5, 4, 3, 2, 1, 0] rfl kr (fun cx => ?_)
                        refine AT.big1 tOk 24 kr kr ?_
                        refine LAt.callU tOk [.rd] (f := 178) (av := #[.tmp 56]) (ats := #[3]) (d := (some 57)) (ty := 3) (g := (some (20, false))) kr kr kr [] (impl_allPorts n x1 r13 er13) kr (.inl rfl) ?_
                        refine LAt.fin kr (And.intro (And.intro kr kr) ?_)
                        refine AT.big1 tOk 25 kr kr ?_
                        refine LAt.callU tOk [.rd, .rd, .rd] (f := 70) (av := #[.tmp 55, .const (.int .i64 0), .tmp 57]) (ats := #[3, 3, 3]) (d := (some 58)) (ty := 4) (g := (some (20, false))) kr kr kr [] (impl_in n v8.Members 0 r13 r14 er14) kr (.inl rfl) ?_
                        refine LAt.fin kr (And.intro (And.intro kr kr) ?_)
                        refine AT.runU tOk [(26, []), (27, []), (28, [])] 7 [⟨[25], 3, 54, 55⟩, ⟨[24, 25], 3, 48, 49⟩, ⟨[24, 25], 57, 41, 42⟩, ⟨[2, 24, 25], 3, 33, 34⟩] [28, 27, 26, 25, 24, 23, 22, 21, 20, 19, 18, 17, 16, 15, 14, 13, 12, 11, 10, 9, 8, 7, 6, 5, 4, 3, 2, 1, 0] rfl kr (fun cx => ?_)
                        refine AT.to ⟨82, 0, [sB 61 (!r14), sB 60 (!r14), sB 59 (!r14), sB 58 r14, sI 57 r13, sI 56 x1, sI 55 v8.Members, sA 54 6 3 1, sB 53 false, sB 52 false, sB 51 false, sB 50 false, sI 49 v8.Id, sA 48 6 3 0, sI 47 v12.Id, (46, .fad ((Vrow.row v12))), (45, .fad ((Vrow.row v12))), sI 44 (IntKind.wrap .i64 (y2 - 1)), sI 43 y2, sR 42 2 2 0 1 false, sA 41 2 2 0, sB 40 true, sB 39 true, sI 38 y2, sB 37 false, sB 36 false, sB 35 r9, sI 34 v8.Id, sA 33 6 3 0, sI 5 y2, sA 6 6 3 0, sV 32 (Vrow.row v8), (31, .fad ((Vrow.row v8))), sI 30 y2, sB 29 true, sI 28 y2, sI 27 (x0.Rows.length : Int), sC 26 (cF 3 x0.Rows Vrow.row), sB 4 false, sA 2 2 2 0, sI 1 x1], [(6, (Vrow.row v8)), (2, (CV.frzRow (Vtab.row x0)))]⟩ kr ?_
                        rw [h12]
                        refine AT.runU tOk [(29, []), (30, []), (31, []), (32, []), (33, []), (34, []), (35, [])] 0 [⟨[], 3, 64, 65⟩, ⟨[], 3, 62, 63⟩, ⟨[25], 3, 54, 55⟩, ⟨[24, 25], 3, 48, 49⟩, ⟨[24, 25], 57, 41, 42⟩, ⟨[2, 24, 25], 3, 33, 34⟩] [35, 34, 33, 32, 31, 30, 29, 28, 27, 26, 25, 24, 23, 22, 21, 20, 19, 18, 17, 16, 15, 14, 13, 12, 11, 10, 9, 8, 7, 6, 5, 4, 3, 2, 1, 0] rfl kr (fun cx => ?_)
                        exact AT.done [68, 67, 66, 65, 64, 63, 62, 61, 60, 59, 58, 57, 56, 55, 54, 53, 52, 51, 50, 49, 48, 47, 46, 45, 44, 43, 42, 41, 40, 39, 38, 37, 36, 35, 34, 33, 5, 6, 32, 31, 30, 29, 28, 27, 26, 4, 2, 1] [6, 2] _ kr kr rfl
                      · refine Tr.to ⟨82, 0, [sB 68 ((IntKind.wrap .i64 (BitVec.ofInt (IntKind.bits .i64) v8.Bare &&& ~~~BitVec.ofInt (IntKind.bits .i64) v8.Members).toNat) != 0), sB 67 ((IntKind.wrap .i64 (BitVec.ofInt (IntKind.bits .i64) v8.Bare &&& ~~~BitVec.ofInt (IntKind.bits .i64) v8.Members).toNat) != 0), sI 66 (IntKind.wrap .i64 (BitVec.ofInt (IntKind.bits .i64) v8.Bare &&& ~~~BitVec.ofInt (IntKind.bits .i64) v8.Members).toNat), sI 65 v8.Members, sA 64 6 3 1, sI 63 v8.Bare, sA 62 6 3 2, sB 61 false, sB 60 false, sB 59 false, sB 58 r14, sI 57 r13, sI 56 x1, sI 55 v8.Members, sA 54 6 3 1, sB 53 false, sB 52 false, sB 51 false, sB 50 false, sI 49 v8.Id, sA 48 6 3 0, sI 47 v12.Id, (46, .fad ((Vrow.row v12))), (45, .fad ((Vrow.row v12))), sI 44 (IntKind.wrap .i64 (y2 - 1)), sI 43 y2, sR 42 2 2 0 1 false, sA 41 2 2 0, sB 40 true, sB 39 true, sI 38 y2, sB 37 false, sB 36 false, sB 35 r9, sI 34 v8.Id, sA 33 6 3 0, sI 5 y2, sA 6 6 3 0, sV 32 (Vrow.row v8), (31, .fad ((Vrow.row v8))), sI 30 y2, sB 29 true, sI 28 y2, sI 27 (x0.Rows.length : Int), sC 26 (cF 3 x0.Rows Vrow.row), sB 4 false, sA 2 2 2 0, sI 1 x1], [(6, (Vrow.row v8)), (2, (CV.frzRow (Vtab.row x0)))]⟩ kr ?_
                        cases h13 : ((IntKind.wrap .i64 (BitVec.ofInt (IntKind.bits .i64) v8.Bare &&& ~~~BitVec.ofInt (IntKind.bits .i64) v8.Members).toNat) != 0)
                        · have H := bifF h13 H
                          refine Tr.cond (b := false) kr (fun h => nomatch h) (fun _ => ?_)
                          refine Tr.skip ?_
                          show Tr _ _ _ _ _
                          refine Tr.at ?_
                          refine LAt.runU tOk 2 kr ?_
                          refine LAt.doneM 1180591620717344194678 68 kr ?_
                          exact Exists.intro (mo7, (IntKind.wrap .i64 (y2 + 1))) (And.intro H (And.intro (Nat.lt_succ_self mo7) (St.sub_of [28, 27, 26, 4, 2, 1] [2] kr)))
                        · have H := bifT h13 H
                          refine Tr.cond (b := true) kr (fun _ => ?_) (fun h => nomatch h)
                          refine Tr.rs ?_
                          refine LAt.runU tOk 1 kr ?_
                          refine LAt.doneM 590295810358638542966 68 kr ?_
                          refine Tr.ret ?_
                          have H := Option.some.inj H
                          subst H
                          have H := Ho7
                          dsimp only at H
                          have H := Option.some.inj H
                          subst H
                          exact Fin.of _ [(false, [cB false])] kr rfl rfl
                    · have H := bifT h12 H
                      refine Tr.draws mixed 36 kr ⟨82, 0, [sB 68 true, (67, .tup []), (66, .tup []), (65, .tup []), (64, .tup []), (63, .tup []), (62, .tup []), sB 61 true, sB 60 true, sB 59 true, sB 58 r14, sI 57 r13, sI 56 x1, sI 55 v8.Members, sA 54 6 3 1, sB 53 false, sB 52 false, sB 51 false, sB 50 false, sI 49 v8.Id, sA 48 6 3 0, sI 47 v12.Id, (46, .fad ((Vrow.row v12))), (45, .fad ((Vrow.row v12))), sI 44 (IntKind.wrap .i64 (y2 - 1)), sI 43 y2, sR 42 2 2 0 1 false, sA 41 2 2 0, sB 40 true, sB 39 true, sI 38 y2, sB 37 false, sB 36 false, sB 35 r9, sI 34 v8.Id, sA 33 6 3 0, sI 5 y2, sA 6 6 3 0, sV 32 (Vrow.row v8), (31, .fad ((Vrow.row v8))), sI 30 y2, sB 29 true, sI 28 y2, sI 27 (x0.Rows.length : Int), sC 26 (cF 3 x0.Rows Vrow.row), sB 4 false, sA 2 2 2 0, sI 1 x1], [(6, (Vrow.row v8)), (2, (CV.frzRow (Vtab.row x0)))]⟩ (fun cx => ?_) ?_
                      · refine AT.runU tOk [(0, []), (1, [2, 24, 25])] 34 [⟨[2, 24, 25], 3, 33, 34⟩] [1, 0] rfl kr (fun cx => ?_)
                        refine AT.big1 tOk 2 kr kr ?_
                        refine LAt.callU tOk [.rd, .rd, .rd] (f := 70) (av := #[.tmp 34, .const (.int .i64 1), .const (.int .i64 99)]) (ats := #[3, 3, 3]) (d := (some 35)) (ty := 4) (g := none) kr kr kr [] (impl_in n v8.Id 1 99 r9 er9) kr (.inl rfl) ?_
                        refine LAt.fin kr (And.intro (And.intro kr kr) ?_)
                        refine AT.runU tOk [(3, []), (4, [])] 31 [⟨[2, 24, 25], 3, 33, 34⟩] [4, 3, 2, 1, 0] rfl kr (fun cx => ?_)
                        refine AT.to ⟨82, 0, [sB 37 (!r9), sB 36 (!r9), sB 35 r9, sI 34 v8.Id, sA 33 6 3 0, sI 5 y2, sA 6 6 3 0, sV 32 (Vrow.row v8), (31, .fad ((Vrow.row v8))), sI 30 y2, sB 29 true, sI 28 y2, sI 27 (x0.Rows.length : Int), sC 26 (cF 3 x0.Rows Vrow.row), sB 4 false, sA 2 2 2 0, sI 1 x1], [(6, (Vrow.row v8)), (2, (CV.frzRow (Vtab.row x0)))]⟩ kr ?_
                        rw [h7]
                        refine AT.runU tOk [(5, []), (6, []), (7, [])] 28 [⟨[2, 24, 25], 3, 33, 34⟩] [7, 6, 5, 4, 3, 2, 1, 0] rfl kr (fun cx => ?_)
                        refine AT.to ⟨82, 0, [sB 40 (decide (y2 > 0)), sB 39 (decide (y2 > 0)), sI 38 y2, sB 37 false, sB 36 false, sB 35 r9, sI 34 v8.Id, sA 33 6 3 0, sI 5 y2, sA 6 6 3 0, sV 32 (Vrow.row v8), (31, .fad ((Vrow.row v8))), sI 30 y2, sB 29 true, sI 28 y2, sI 27 (x0.Rows.length : Int), sC 26 (cF 3 x0.Rows Vrow.row), sB 4 false, sA 2 2 2 0, sI 1 x1], [(6, (Vrow.row v8)), (2, (CV.frzRow (Vtab.row x0)))]⟩ kr ?_
                        rw [h8]
                        refine AT.runU tOk [(8, []), (9, [24, 25]), (10, []), (11, [])] 24 [⟨[24, 25], 57, 41, 42⟩, ⟨[2, 24, 25], 3, 33, 34⟩] [11, 10, 9, 8, 7, 6, 5, 4, 3, 2, 1, 0] rfl kr (fun cx => ?_)
                        refine AT.indexF tOk 12 (t := 57) (ty := 0) (x := (.tmp 42)) (y := (.tmp 44)) (d := 45) (g := (some (7, true))) ⟨(.box 2), [(0, 0)], 0, false, 3, (CV.frzEs (x0.Rows.map Vrow.row))⟩ (IntKind.wrap .i64 (y2 - 1)) (Vrow.row v12) _ kr kr kr kr kr kr rfl (idx_isF ev12) rfl (fun cx => ?_)
                        refine AT.runU tOk [(13, []), (14, []), (15, []), (16, [24, 25]), (17, []), (18, []), (19, []), (20, [])] 15 [⟨[24, 25], 3, 48, 49⟩, ⟨[24, 25], 57, 41, 42⟩, ⟨[2, 24, 25], 3, 33, 34⟩] [20, 19, 18, 17, 16, 15, 14, 13, 12, 11, 10, 9, 8, 7, 6, 5, 4, 3, 2, 1, 0] rfl kr (fun cx => ?_)
                        refine AT.to ⟨82, 0, [sB 53 (decide (v12.Id ≥ v8.Id)), sB 52 (decide (v12.Id ≥ v8.Id)), sB 51 (decide (v12.Id ≥ v8.Id)), sB 50 (decide (v12.Id ≥ v8.Id)), sI 49 v8.Id, sA 48 6 3 0, sI 47 v12.Id, (46, .fad ((Vrow.row v12))), (45, .fad ((Vrow.row v12))), sI 44 (IntKind.wrap .i64 (y2 - 1)), sI 43 y2, sR 42 2 2 0 1 false, sA 41 2 2 0, sB 40 true, sB 39 true, sI 38 y2, sB 37 false, sB 36 false, sB 35 r9, sI 34 v8.Id, sA 33 6 3 0, sI 5 y2, sA 6 6 3 0, sV 32 (Vrow.row v8), (31, .fad ((Vrow.row v8))), sI 30 y2, sB 29 true, sI 28 y2, sI 27 (x0.Rows.length : Int), sC 26 (cF 3 x0.Rows Vrow.row), sB 4 false, sA 2 2 2 0, sI 1 x1], [(6, (Vrow.row v8)), (2, (CV.frzRow (Vtab.row x0)))]⟩ kr ?_
                        rw [h11]
                        refine AT.runU tOk [(21, []), (22, [25]), (23, [])] 12 [⟨[25], 3, 54, 55⟩, ⟨[24, 25], 3, 48, 49⟩, ⟨[24, 25], 57, 41, 42⟩, ⟨[2, 24, 25], 3, 33, 34⟩] [23, 22, 21, 20, 19, 18, 17, 16, 15, 14, 13, 12, 11, 10, 9, 8, 7, 6, 5, 4, 3, 2, 1, 0] rfl kr (fun cx => ?_)
                        refine AT.big1 tOk 24 kr kr ?_
                        refine LAt.callU tOk [.rd] (f := 178) (av := #[.tmp 56]) (ats := #[3]) (d := (some 57)) (ty := 3) (g := (some (20, false))) kr kr kr [] (impl_allPorts n x1 r13 er13) kr (.inl rfl) ?_
                        refine LAt.fin kr (And.intro (And.intro kr kr) ?_)
                        refine AT.big1 tOk 25 kr kr ?_
                        refine LAt.callU tOk [.rd, .rd, .rd] (f := 70) (av := #[.tmp 55, .const (.int .i64 0), .tmp 57]) (ats := #[3, 3, 3]) (d := (some 58)) (ty := 4) (g := (some (20, false))) kr kr kr [] (impl_in n v8.Members 0 r13 r14 er14) kr (.inl rfl) ?_
                        refine LAt.fin kr (And.intro (And.intro kr kr) ?_)
                        refine AT.runU tOk [(26, []), (27, []), (28, [])] 7 [⟨[25], 3, 54, 55⟩, ⟨[24, 25], 3, 48, 49⟩, ⟨[24, 25], 57, 41, 42⟩, ⟨[2, 24, 25], 3, 33, 34⟩] [28, 27, 26, 25, 24, 23, 22, 21, 20, 19, 18, 17, 16, 15, 14, 13, 12, 11, 10, 9, 8, 7, 6, 5, 4, 3, 2, 1, 0] rfl kr (fun cx => ?_)
                        refine AT.to ⟨82, 0, [sB 61 (!r14), sB 60 (!r14), sB 59 (!r14), sB 58 r14, sI 57 r13, sI 56 x1, sI 55 v8.Members, sA 54 6 3 1, sB 53 false, sB 52 false, sB 51 false, sB 50 false, sI 49 v8.Id, sA 48 6 3 0, sI 47 v12.Id, (46, .fad ((Vrow.row v12))), (45, .fad ((Vrow.row v12))), sI 44 (IntKind.wrap .i64 (y2 - 1)), sI 43 y2, sR 42 2 2 0 1 false, sA 41 2 2 0, sB 40 true, sB 39 true, sI 38 y2, sB 37 false, sB 36 false, sB 35 r9, sI 34 v8.Id, sA 33 6 3 0, sI 5 y2, sA 6 6 3 0, sV 32 (Vrow.row v8), (31, .fad ((Vrow.row v8))), sI 30 y2, sB 29 true, sI 28 y2, sI 27 (x0.Rows.length : Int), sC 26 (cF 3 x0.Rows Vrow.row), sB 4 false, sA 2 2 2 0, sI 1 x1], [(6, (Vrow.row v8)), (2, (CV.frzRow (Vtab.row x0)))]⟩ kr ?_
                        rw [h12]
                        refine AT.runU tOk [(29, []), (30, []), (31, []), (32, []), (33, []), (34, []), (35, [])] 0 [⟨[25], 3, 54, 55⟩, ⟨[24, 25], 3, 48, 49⟩, ⟨[24, 25], 57, 41, 42⟩, ⟨[2, 24, 25], 3, 33, 34⟩] [35, 34, 33, 32, 31, 30, 29, 28, 27, 26, 25, 24, 23, 22, 21, 20, 19, 18, 17, 16, 15, 14, 13, 12, 11, 10, 9, 8, 7, 6, 5, 4, 3, 2, 1, 0] rfl kr (fun cx => ?_)
                        exact AT.done [68, 67, 66, 65, 64, 63, 62, 61, 60, 59, 58, 57, 56, 55, 54, 53, 52, 51, 50, 49, 48, 47, 46, 45, 44, 43, 42, 41, 40, 39, 38, 37, 36, 35, 34, 33, 5, 6, 32, 31, 30, 29, 28, 27, 26, 4, 2, 1] [6, 2] _ kr kr rfl
                      · refine Tr.cond (b := true) kr (fun _ => ?_) (fun h => nomatch h)
                        refine Tr.rs ?_
                        refine LAt.runU tOk 1 kr ?_
                        refine LAt.doneM 590295810358638542966 68 kr ?_
                        refine Tr.ret ?_
                        have H := Option.some.inj H
                        subst H
                        have H := Ho7
                        dsimp only at H
                        have H := Option.some.inj H
                        subst H
                        exact Fin.of _ [(false, [cB false])] kr rfl rfl
                  · have H := bifT h11 H
                    refine Tr.draws mixed 36 kr ⟨82, 0, [sB 68 true, (67, .tup []), (66, .tup []), (65, .tup []), (64, .tup []), (63, .tup []), (62, .tup []), sB 61 true, sB 60 true, (59, .tup []), (58, .tup []), (57, .tup []), (56, .tup []), (55, .tup []), (54, .tup []), sB 53 true, sB 52 true, sB 51 true, sB 50 true, sI 49 v8.Id, sA 48 6 3 0, sI 47 v12.Id, (46, .fad ((Vrow.row v12))), (45, .fad ((Vrow.row v12))), sI 44 (IntKind.wrap .i64 (y2 - 1)), sI 43 y2, sR 42 2 2 0 1 false, sA 41 2 2 0, sB 40 true, sB 39 true, sI 38 y2, sB 37 false, sB 36 false, sB 35 r9, sI 34 v8.Id, sA 33 6 3 0, sI 5 y2, sA 6 6 3 0, sV 32 (Vrow.row v8), (31, .fad ((Vrow.row v8))), sI 30 y2, sB 29 true, sI 28 y2, sI 27 (x0.Rows.length : Int), sC 26 (cF 3 x0.Rows Vrow.row), sB 4 false, sA 2 2 2 0, sI 1 x1], [(6, (Vrow.row v8)), (2, (CV.frzRow (Vtab.row x0)))]⟩ (fun cx => ?_) ?_
                    · refine AT.runU tOk [(0, []), (1, [2])] 34 [⟨[2], 3, 33, 34⟩] [1, 0] rfl kr (fun cx => ?_)
                      refine AT.big1 tOk 2 kr kr ?_
                      refine LAt.callU tOk [.rd, .rd, .rd] (f := 70) (av := #[.tmp 34, .const (.int .i64 1), .const (.int .i64 99)]) (ats := #[3, 3, 3]) (d := (some 35)) (ty := 4) (g := none) kr kr kr [] (impl_in n v8.Id 1 99 r9 er9) kr (.inl rfl) ?_
                      refine LAt.fin kr (And.intro (And.intro kr kr) ?_)
                      refine AT.runU tOk [(3, []), (4, [])] 31 [⟨[2], 3, 33, 34⟩] [4, 3, 2, 1, 0] rfl kr (fun cx => ?_)
                      refine AT.to ⟨82, 0, [sB 37 (!r9), sB 36 (!r9), sB 35 r9, sI 34 v8.Id, sA 33 6 3 0, sI 5 y2, sA 6 6 3 0, sV 32 (Vrow.row v8), (31, .fad ((Vrow.row v8))), sI 30 y2, sB 29 true, sI 28 y2, sI 27 (x0.Rows.length : Int), sC 26 (cF 3 x0.Rows Vrow.row), sB 4 false, sA 2 2 2 0, sI 1 x1], [(6, (Vrow.row v8)), (2, (CV.frzRow (Vtab.row x0)))]⟩ kr ?_
                      rw [h7]
                      refine AT.runU tOk [(5, []), (6, []), (7, [])] 28 [⟨[2], 3, 33, 34⟩] [7, 6, 5, 4, 3, 2, 1, 0] rfl kr (fun cx => ?_)
                      refine AT.to ⟨82, 0, [sB 40 (decide (y2 > 0)), sB 39 (decide (y2 > 0)), sI 38 y2, sB 37 false, sB 36 false, sB 35 r9, sI 34 v8.Id, sA 33 6 3 0, sI 5 y2, sA 6 6 3 0, sV 32 (Vrow.row v8), (31, .fad ((Vrow.row v8))), sI 30 y2, sB 29 true, sI 28 y2, sI 27 (x0.Rows.length : Int), sC 26 (cF 3 x0.Rows Vrow.row), sB 4 false, sA 2 2 2 0, sI 1 x1], [(6, (Vrow.row v8)), (2, (CV.frzRow (Vtab.row x0)))]⟩ kr ?_
                      rw [h8]
                      refine AT.runU tOk [(8, []), (9, []), (10, []), (11, [])] 24 [⟨[], 57, 41, 42⟩, ⟨[2], 3, 33, 34⟩] [11, 10, 9, 8, 7, 6, 5, 4, 3, 2, 1, 0] rfl kr (fun cx => ?_)
                      refine AT.indexF tOk 12 (t := 57) (ty := 0) (x := (.tmp 42)) (y := (.tmp 44)) (d := 45) (g := (some (7, true))) ⟨(.box 2), [(0, 0)], 0, false, 3, (CV.frzEs (x0.Rows.map Vrow.row))⟩ (IntKind.wrap .i64 (y2 - 1)) (Vrow.row v12) _ kr kr kr kr kr kr rfl (idx_isF ev12) rfl (fun cx => ?_)
                      refine AT.runU tOk [(13, []), (14, []), (15, []), (16, []), (17, []), (18, []), (19, []), (20, [])] 15 [⟨[], 3, 48, 49⟩, ⟨[], 57, 41, 42⟩, ⟨[2], 3, 33, 34⟩] [20, 19, 18, 17, 16, 15, 14, 13, 12, 11, 10, 9, 8, 7, 6, 5, 4, 3, 2, 1, 0] rfl kr (fun cx => ?_)
                      refine AT.to ⟨82, 0, [sB 53 (decide (v12.Id ≥ v8.Id)), sB 52 (decide (v12.Id ≥ v8.Id)), sB 51 (decide (v12.Id ≥ v8.Id)), sB 50 (decide (v12.Id ≥ v8.Id)), sI 49 v8.Id, sA 48 6 3 0, sI 47 v12.Id, (46, .fad ((Vrow.row v12))), (45, .fad ((Vrow.row v12))), sI 44 (IntKind.wrap .i64 (y2 - 1)), sI 43 y2, sR 42 2 2 0 1 false, sA 41 2 2 0, sB 40 true, sB 39 true, sI 38 y2, sB 37 false, sB 36 false, sB 35 r9, sI 34 v8.Id, sA 33 6 3 0, sI 5 y2, sA 6 6 3 0, sV 32 (Vrow.row v8), (31, .fad ((Vrow.row v8))), sI 30 y2, sB 29 true, sI 28 y2, sI 27 (x0.Rows.length : Int), sC 26 (cF 3 x0.Rows Vrow.row), sB 4 false, sA 2 2 2 0, sI 1 x1], [(6, (Vrow.row v8)), (2, (CV.frzRow (Vtab.row x0)))]⟩ kr ?_
                      rw [h11]
                      refine AT.runU tOk [(21, []), (22, []), (23, []), (24, []), (25, []), (26, []), (27, []), (28, []), (29, []), (30, []), (31, []), (32, []), (33, []), (34, []), (35, [])] 0 [⟨[], 3, 48, 49⟩, ⟨[], 57, 41, 42⟩, ⟨[2], 3, 33, 34⟩] [35, 34, 33, 32, 31, 30, 29, 28, 27, 26, 25, 24, 23, 22, 21, 20, 19, 18, 17, 16, 15, 14, 13, 12, 11, 10, 9, 8, 7, 6, 5, 4, 3, 2, 1, 0] rfl kr (fun cx => ?_)
                      exact AT.done [68, 67, 66, 65, 64, 63, 62, 61, 60, 59, 58, 57, 56, 55, 54, 53, 52, 51, 50, 49, 48, 47, 46, 45, 44, 43, 42, 41, 40, 39, 38, 37, 36, 35, 34, 33, 5, 6, 32, 31, 30, 29, 28, 27, 26, 4, 2, 1] [6, 2] _ kr kr rfl
                    · refine Tr.cond (b := true) kr (fun _ => ?_) (fun h => nomatch h)
                      refine Tr.rs ?_
                      refine LAt.runU tOk 1 kr ?_
                      refine LAt.doneM 590295810358638542966 68 kr ?_
                      refine Tr.ret ?_
                      have H := Option.some.inj H
                      subst H
                      have H := Ho7
                      dsimp only at H
                      have H := Option.some.inj H
                      subst H
                      exact Fin.of _ [(false, [cB false])] kr rfl rfl
              · have H := bifT h7 H
                refine Tr.draws mixed 36 kr ⟨82, 0, [sB 68 true, (67, .tup []), (66, .tup []), (65, .tup []), (64, .tup []), (63, .tup []), (62, .tup []), sB 61 true, sB 60 true, (59, .tup []), (58, .tup []), (57, .tup []), (56, .tup []), (55, .tup []), (54, .tup []), sB 53 true, sB 52 true, (51, .tup []), (50, .tup []), (49, .tup []), (48, .tup []), (47, .tup []), (46, .tup []), (45, .tup []), (44, .tup []), (43, .tup []), (42, .tup []), (41, .tup []), (40, .tup []), (39, .tup []), (38, .tup []), sB 37 true, sB 36 true, sB 35 r9, sI 34 v8.Id, sA 33 6 3 0, sI 5 y2, sA 6 6 3 0, sV 32 (Vrow.row v8), (31, .fad ((Vrow.row v8))), sI 30 y2, sB 29 true, sI 28 y2, sI 27 (x0.Rows.length : Int), sC 26 (cF 3 x0.Rows Vrow.row), sB 4 false, sA 2 2 2 0, sI 1 x1], [(6, (Vrow.row v8)), (2, (CV.frzRow (Vtab.row x0)))]⟩ (fun cx => ?_) ?_
                · refine AT.runU tOk [(0, []), (1, [2])] 34 [⟨[2], 3, 33, 34⟩] [1, 0] rfl kr (fun cx => ?_)
                  refine AT.big1 tOk 2 kr kr ?_
                  refine LAt.callU tOk [.rd, .rd, .rd] (f := 70) (av := #[.tmp 34, .const (.int .i64 1), .const (.int .i64 99)]) (ats := #[3, 3, 3]) (d := (some 35)) (ty := 4) (g := none) kr kr kr [] (impl_in n v8.Id 1 99 r9 er9) kr (.inl rfl) ?_
                  refine LAt.fin kr (And.intro (And.intro kr kr) ?_)
                  refine AT.runU tOk [(3, []), (4, [])] 31 [⟨[2], 3, 33, 34⟩] [4, 3, 2, 1, 0] rfl kr (fun cx => ?_)
                  refine AT.to ⟨82, 0, [sB 37 (!r9), sB 36 (!r9), sB 35 r9, sI 34 v8.Id, sA 33 6 3 0, sI 5 y2, sA 6 6 3 0, sV 32 (Vrow.row v8), (31, .fad ((Vrow.row v8))), sI 30 y2, sB 29 true, sI 28 y2, sI 27 (x0.Rows.length : Int), sC 26 (cF 3 x0.Rows Vrow.row), sB 4 false, sA 2 2 2 0, sI 1 x1], [(6, (Vrow.row v8)), (2, (CV.frzRow (Vtab.row x0)))]⟩ kr ?_
                  rw [h7]
                  refine AT.runU tOk [(5, []), (6, []), (7, []), (8, []), (9, []), (10, []), (11, []), (12, []), (13, []), (14, []), (15, []), (16, []), (17, []), (18, []), (19, []), (20, []), (21, []), (22, []), (23, []), (24, []), (25, []), (26, []), (27, []), (28, []), (29, []), (30, []), (31, []), (32, []), (33, []), (34, []), (35, [])] 0 [⟨[2], 3, 33, 34⟩] [35, 34, 33, 32, 31, 30, 29, 28, 27, 26, 25, 24, 23, 22, 21, 20, 19, 18, 17, 16, 15, 14, 13, 12, 11, 10, 9, 8, 7, 6, 5, 4, 3, 2, 1, 0] rfl kr (fun cx => ?_)
                  exact AT.done [68, 67, 66, 65, 64, 63, 62, 61, 60, 59, 58, 57, 56, 55, 54, 53, 52, 51, 50, 49, 48, 47, 46, 45, 44, 43, 42, 41, 40, 39, 38, 37, 36, 35, 34, 33, 5, 6, 32, 31, 30, 29, 28, 27, 26, 4, 2, 1] [6, 2] _ kr kr rfl
                · refine Tr.cond (b := true) kr (fun _ => ?_) (fun h => nomatch h)
                  refine Tr.rs ?_
                  refine LAt.runU tOk 1 kr ?_
                  refine LAt.doneM 590295810358638542966 68 kr ?_
                  refine Tr.ret ?_
                  have H := Option.some.inj H
                  subst H
                  have H := Ho7
                  dsimp only at H
                  have H := Option.some.inj H
                  subst H
                  exact Fin.of _ [(false, [cB false])] kr rfl rfl
        · rintro _ H
          have H : (impl_VtabOk_J1 n x0) = some r := H
          unfold impl_VtabOk_J1 at H
          show Tr _ _ _ _ _
          refine Tr.seq ?_
          refine Tr.rs ?_
          refine LAt.runU tOk 2 kr ?_
          refine LAt.lenE tOk (t := 27) (ty := 3) (e := 3) (x := (.tmp 71)) (d := 72) (g := none) ⟨(.slot 71), [], 0, false, 1, (CV.frzEs (x0.Pvid.map intRow))⟩ (x0.Pvid).length _ kr kr kr kr kr (frz_len _ _) rfl ?_
          refine LAt.runU tOk 1 kr ?_
          refine LAt.doneM 16528282690043758247956 4 kr ?_
          obtain ⟨o4, eo4, Ho4⟩ := bind_some H
          clear H
          refine Tr.mid (ι := Unit) (fun v => ⟨82, 0, [sB 4 false], []⟩) (fun v => impl_VtabOk_J2 n = some r) ?_ ?_
          · refine Tr.block ?_
            refine Tr.loop (ι := Nat × (Int)) (fun v => ⟨82, 0, [sI 73 v.2, sI 72 (x0.Pvid.length : Int), sC 71 (cF 1 x0.Pvid intRow), sB 4 false, sA 2 2 2 0], [(2, (CV.frzRow (Vtab.row x0)))]⟩) (fun v => impl_VtabOk_L3 n v.1 x0 v.2 = some o4) (fun v => v.1) (n, 0) eo4 (St.sub_of [73, 72, 71, 4, 2] [2] kr) ?_
            rintro ⟨mo4, y3⟩ H
            have H : impl_VtabOk_L3 n mo4 x0 y3 = some o4 := H
            obtain _ | mo4 := mo4
            · cases (show (none : Option _) = some o4 from H)
            · rw [impl_VtabOk_L3] at H
              refine Tr.rs ?_
              refine LAt.runU tOk 1 kr ?_
              refine LAt.doneM 35417748621522339102740 4 kr ?_
              refine Tr.seq ?_
              refine Tr.to ⟨82, 0, [sB 74 (decide (y3 < (x0.Pvid.length : Int))), sI 73 y3, sI 72 (x0.Pvid.length : Int), sC 71 (cF 1 x0.Pvid intRow), sB 4 false, sA 2 2 2 0], [(2, (CV.frzRow (Vtab.row x0)))]⟩ kr ?_
              cases h4 : (decide (y3 < (x0.Pvid.length : Int)))
              · have H := bifF h4 H
                refine Tr.cond (b := false) kr (fun h => nomatch h) (fun _ => ?_)
                refine Tr.exit ?_
                refine And.intro (fun _ => ?_) (fun h => absurd rfl h)
                have H := Option.some.inj H
                subst H
                have H := Ho4
                dsimp only at H
                exact Exists.intro () (And.intro H (St.sub_of [4] [] kr))
              · have H := bifT h4 H
                refine Tr.cond (b := true) kr (fun _ => ?_) (fun h => nomatch h)
                refine Tr.skip ?_
                show Tr _ _ _ _ _
                refine Tr.seq ?_
                refine Tr.block ?_
                refine Tr.rs ?_
                obtain ⟨v5, ev5, H⟩ := bind_some H
                refine LAt.indexF tOk (t := 27) (ty := 0) (x := (.tmp 71)) (y := (.tmp 73)) (d := 75) (g := none) ⟨(.slot 71), [], 0, false, 1, (CV.frzEs (x0.Pvid.map intRow))⟩ y3 [cI v5] _ kr kr kr kr rfl (idx_isF ev5) rfl ?_
                refine LAt.runU tOk 2 kr ?_
                refine LAt.doneM 148754544210393824231700 4 kr ?_
                refine Tr.rs ?_
                refine LAt.runU tOk 2 kr ?_
                obtain ⟨r6, er6, H⟩ := bind_some H
                refine LAt.callU tOk [.rd, .rd] (f := 179) (av := #[.tmp 77, .tmp 78]) (ats := #[59, 3]) (d := (some 79)) (ty := 3) (g := none) kr kr kr [] (impl_RowAt n x0 v5 r6 er6) kr (.inl rfl) ?_
                refine LAt.runU tOk 1 kr ?_
                refine LAt.doneM 2415490455987823526805780 4 kr ?_
                refine Tr.to ⟨82, 0, [sB 80 (decide (r6 < 0)), sI 79 r6, sI 78 v5, sV 77 (CV.frzRow (Vtab.row x0)), sI 8 v5, sI 76 v5, (75, .fad ([cI v5])), sB 74 true, sI 73 y3, sI 72 (x0.Pvid.length : Int), sC 71 (cF 1 x0.Pvid intRow), sB 4 false, sA 2 2 2 0], [(2, (CV.frzRow (Vtab.row x0)))]⟩ kr ?_
                cases h5 : (decide (r6 < 0))
                · have H := bifF h5 H
                  refine Tr.cond (b := false) kr (fun h => nomatch h) (fun _ => ?_)
                  refine Tr.skip ?_
                  show Tr _ _ _ _ _
                  refine Tr.at ?_
                  refine LAt.runU tOk 2 kr ?_
                  refine LAt.doneM 4833342095217081876218132 4 kr ?_
                  exact Exists.intro (mo4, (IntKind.wrap .i64 (y3 + 1))) (And.intro H (And.intro (Nat.lt_succ_self mo4) (St.sub_of [73, 72, 71, 4, 2] [2] kr)))
                · have H := bifT h5 H
                  refine Tr.cond (b := true) kr (fun _ => ?_) (fun h => nomatch h)
                  refine Tr.rs ?_
                  refine LAt.runU tOk 1 kr ?_
                  refine LAt.doneM 2415490455987823526805780 4 kr ?_
                  refine Tr.ret ?_
                  have H := Option.some.inj H
                  subst H
                  have H := Ho4
                  dsimp only at H
                  have H := Option.some.inj H
                  subst H
                  exact Fin.of _ [(false, [cB false])] kr rfl rfl
          · rintro _ H
            have H : (impl_VtabOk_J2 n) = some r := H
            unfold impl_VtabOk_J2 at H
            show Tr _ _ _ _ _
            refine Tr.rs ?_
            refine LAt.runU tOk 1 kr ?_
            refine LAt.doneM 16 0 kr ?_
            refine Tr.ret ?_
            have H := Option.some.inj H
            subst H
            exact Fin.of _ [(false, [cB true])] kr rfl rfl
      · have H := bifT h3 H
        refine Tr.cond (b := true) kr (fun _ => ?_) (fun h => nomatch h)
        refine Tr.rs ?_
        refine LAt.runU tOk 1 kr ?_
        refine LAt.doneM 22 4 kr ?_
        refine Tr.ret ?_
        have H := Option.some.inj H
        subst H
        exact Fin.of _ [(false, [cB false])] kr rfl rfl
    · have H := bifT h2 H
      refine LAt.runU tOk 5 kr ?_
      refine LAt.doneM 16777238 4 kr ?_
      refine Tr.cond (b := true) kr (fun _ => ?_) (fun h => nomatch h)
      refine Tr.rs ?_
      refine LAt.runU tOk 1 kr ?_
      refine LAt.doneM 22 4 kr ?_
      refine Tr.ret ?_
      have H := Option.some.inj H
      subst H
      exact Fin.of _ [(false, [cB false])] kr rfl rfl
  · have H := bifT h1 H
    refine LAt.runU tOk 12 kr ?_
    refine LAt.doneM 16777238 4 kr ?_
    refine Tr.cond (b := true) kr (fun _ => ?_) (fun h => nomatch h)
    refine Tr.rs ?_
    refine LAt.runU tOk 1 kr ?_
    refine LAt.doneM 22 4 kr ?_
    refine Tr.ret ?_
    have H := Option.some.inj H
    subst H
    exact Fin.of _ [(false, [cB false])] kr rfl rfl

def impl_isCountF (n : Nat) (x0 : Int) : Option (Bool) :=
  ((impl_inF n x0 0 1000000).bind fun r1 => (some r1))
/-- loop.example/g00326/impl.isCount -/
theorem impl_isCount (n : Nat) (x0 : Int) (r : Bool) (H : impl_isCountF n x0 = some r) : LCall Try.prog 145 [.val false [.lit (.int .i64 x0)]] [.val false [.lit (.bool r)]] [] := by
  refine LCall.of_body tOk Try.func145 rfl (c := (.seq (.region 0 (rg Try.f145 0) false) (.seq (.region 1 (rg Try.f145 1) false) .ret))) kr (Nat.le_of_ble_eq_true kr) 0 (rs := [.tmp 2]) rfl [] .nil [(false, [.lit (.bool r)])] [] [] fun cx => ?_
  show Tr _ _ _ ⟨5, 0, [sI 0 x0], []⟩ _
  unfold impl_isCountF at H
  refine Tr.rs ?_
  refine LAt.runU tOk 1 kr ?_
  refine LAt.doneM 5 0 kr ?_
  refine Tr.rs ?_
  refine LAt.runU tOk 1 kr ?_
  obtain ⟨r1, er1, H⟩ := bind_some H
  refine LAt.callU tOk [.rd, .rd, .rd] (f := 70) (av := #[.tmp 3, .const (.int .i64 0), .const (.int .i64 1000000)]) (ats := #[3, 3, 3]) (d := (some 4)) (ty := 4) (g := none) kr kr kr [] (impl_in n x0 0 1000000 r1 er1) kr (.inl rfl) ?_
  refine LAt.runU tOk 1 kr ?_
  refine LAt.doneM 4 0 kr ?_
  refine Tr.ret ?_
  have H := Option.some.inj H
  subst H
  exact Fin.of _ [(false, [cB r1])] kr rfl rfl

def impl_BridgeOk_J1 (n : Nat) (x0 : Bridge) : Option (Bool) :=
  ((impl_inF n x0.Id 1 99).bind fun r2 => (bif (!r2) then (some false) else (bif (decide ((x0.Name.size : Int) > 10)) then (some false) else ((impl_inF n (x0.Ports.length : Int) 1 6).bind fun r3 => (bif (!r3) then (some false) else ((impl_FdbOkF n x0.F).bind fun r4 => (bif (!r4) then (some false) else ((impl_VtabOkF n x0.V (x0.Ports.length : Int)).bind fun r5 => (bif (!r5) then (some false) else ((impl_isCountF n x0.Ticks).bind fun r6 => (bif r6 then ((impl_isCountF n x0.Parse).bind fun r7 => (bif r7 then ((impl_isCountF n x0.Word).bind fun r8 => (bif r8 then ((impl_isCountF n x0.Drops).bind fun r9 => (bif r9 then ((impl_isCountF n x0.Vers).bind fun r10 => (some r10)) else (some false))) else (some false))) else (some false))) else (some false))))))))))))
def impl_BridgeOk_L2 (n : Nat) : Nat → Bridge → Int → Option ((Unit) ⊕ (Bool))
  | 0, _, _ => none
  | mo11 + 1, x0, y1 => (bif (decide (y1 < (x0.Ports.length : Int))) then ((idx x0.Ports y1).bind fun v12 => ((impl_PtOkF n v12).bind fun r13 => (bif (!r13) then (some (Sum.inr false)) else (impl_BridgeOk_L2 n mo11 x0 (IntKind.wrap .i64 (y1 + 1)))))) else (some (Sum.inl ())))
def impl_BridgeOkF (n : Nat) (x0 : Bridge) : Option (Bool) :=
  ((impl_BridgeOk_L2 n n x0 0).bind fun o => match o with | .inl _ => (impl_BridgeOk_J1 n x0) | .inr r => some r)
/-- loop.example/g00326/impl.BridgeOk -/
theorem impl_BridgeOk (n : Nat) (x0 : Bridge) (r : Bool) (H : impl_BridgeOkF n x0 = some r) : LCall Try.prog 88 [.val true (CV.frzRow (Bridge.row x0))] [.val false [.lit (.bool r)]] [] := by
  refine LCall.of_body tOk Try.func88 rfl (c := (.seq (.region 0 (rg Try.f88 0) false) (.seq (.seq (.region 1 (rg Try.f88 1) false) (.block 0 (.loop (.seq (.region 2 (rg Try.f88 2) false) (.seq (.cond (.tmp 9) .skip (.exit 0)) (.seq (.block 1 (.seq (.region 3 (rg Try.f88 3) false) (.seq (.region 4 (rg Try.f88 4) false) (.cond (.tmp 14) (.seq (.region 5 (rg Try.f88 5) false) .ret) .skip)))) (.region 6 (rg Try.f88 6) false))))))) (.seq (.seq (.region 7 (rg Try.f88 7) false) (.cond (.tmp 47) (.seq (.region 8 (rg Try.f88 8) false) .ret) .skip)) (.seq (.region 9 (rg Try.f88 9) false) .ret))))) kr (Nat.le_of_ble_eq_true kr) 0 (rs := [.tmp 2]) rfl [] .nil [(false, [.lit (.bool r)])] [] [] fun cx => ?_
  show Tr _ _ _ ⟨71, 0, [sV 0 (CV.frzRow (Bridge.row x0))], []⟩ _
  unfold impl_BridgeOkF at H
  refine Tr.rs ?_
  refine LAt.runU tOk 2 kr ?_
  refine LAt.doneM 6 2 kr ?_
  refine Tr.seq ?_
  refine Tr.rs ?_
  refine LAt.runU tOk 2 kr ?_
  refine LAt.lenE tOk (t := 55) (ty := 3) (e := 114) (x := (.tmp 6)) (d := 7) (g := none) ⟨(.slot 6), [], 0, false, 8, (CV.frzEs (x0.Ports.map Pt.row))⟩ (x0.Ports).length _ kr kr kr kr kr (frz_len _ _) rfl ?_
  refine LAt.runU tOk 1 kr ?_
  refine LAt.doneM 454 2 kr ?_
  obtain ⟨o11, eo11, Ho11⟩ := bind_some H
  clear H
  refine Tr.mid (ι := Unit) (fun v => ⟨71, 0, [sB 2 false, sA 1 1 11 0], [(1, (CV.frzRow (Bridge.row x0)))]⟩) (fun v => impl_BridgeOk_J1 n x0 = some r) ?_ ?_
  · refine Tr.block ?_
    refine Tr.loop (ι := Nat × (Int)) (fun v => ⟨71, 0, [sI 8 v.2, sI 7 (x0.Ports.length : Int), sC 6 (cF 8 x0.Ports Pt.row), sB 2 false, sA 1 1 11 0], [(1, (CV.frzRow (Bridge.row x0)))]⟩) (fun v => impl_BridgeOk_L2 n v.1 x0 v.2 = some o11) (fun v => v.1) (n, 0) eo11 (St.sub_of [8, 7, 6, 2, 1] [1] kr) ?_
    rintro ⟨mo11, y1⟩ H
    have H : impl_BridgeOk_L2 n mo11 x0 y1 = some o11 := H
    obtain _ | mo11 := mo11
    · cases (show (none : Option _) = some o11 from H)
    · rw [impl_BridgeOk_L2] at H
      refine Tr.rs ?_
      refine LAt.runU tOk 1 kr ?_
      refine LAt.doneM 966 2 kr ?_
      refine Tr.seq ?_
      refine Tr.to ⟨71, 0, [sB 9 (decide (y1 < (x0.Ports.length : Int))), sI 8 y1, sI 7 (x0.Ports.length : Int), sC 6 (cF 8 x0.Ports Pt.row), sB 2 false, sA 1 1 11 0], [(1, (CV.frzRow (Bridge.row x0)))]⟩ kr ?_
      cases h10 : (decide (y1 < (x0.Ports.length : Int)))
      · have H := bifF h10 H
        refine Tr.cond (b := false) kr (fun h => nomatch h) (fun _ => ?_)
        refine Tr.exit ?_
        refine And.intro (fun _ => ?_) (fun h => absurd rfl h)
        have H := Option.some.inj H
        subst H
        have H := Ho11
        dsimp only at H
        exact Exists.intro () (And.intro H (St.sub_of [2, 1] [1] kr))
      · have H := bifT h10 H
        refine Tr.cond (b := true) kr (fun _ => ?_) (fun h => nomatch h)
        refine Tr.skip ?_
        show Tr _ _ _ _ _
        refine Tr.seq ?_
        refine Tr.block ?_
        refine Tr.rs ?_
        obtain ⟨v12, ev12, H⟩ := bind_some H
        refine LAt.indexF tOk (t := 55) (ty := 0) (x := (.tmp 6)) (y := (.tmp 8)) (d := 10) (g := none) ⟨(.slot 6), [], 0, false, 8, (CV.frzEs (x0.Ports.map Pt.row))⟩ y1 (Pt.row v12) _ kr kr kr kr rfl (idx_isF ev12) rfl ?_
        refine LAt.runU tOk 3 kr ?_
        refine LAt.doneM 4054 18 kr ?_
        refine Tr.rs ?_
        refine LAt.runU tOk 1 kr ?_
        obtain ⟨r13, er13, H⟩ := bind_some H
        refine LAt.callU tOk [.rd] (f := 142) (av := #[.tmp 12]) (ats := #[114]) (d := (some 13)) (ty := 4) (g := none) kr kr kr [] (impl_PtOk n v12 r13 er13) kr (.inl rfl) ?_
        refine LAt.runU tOk 1 kr ?_
        refine LAt.doneM 32726 18 kr ?_
        refine Tr.to ⟨71, 0, [sB 14 (!r13), sB 13 r13, sV 12 (Pt.row v12), sA 4 4 8 0, sV 11 (Pt.row v12), (10, .fad ((Pt.row v12))), sB 9 true, sI 8 y1, sI 7 (x0.Ports.length : Int), sC 6 (cF 8 x0.Ports Pt.row), sB 2 false, sA 1 1 11 0], [(4, (Pt.row v12)), (1, (CV.frzRow (Bridge.row x0)))]⟩ kr ?_
        cases h11 : (!r13)
        · have H := bifF h11 H
          refine Tr.cond (b := false) kr (fun h => nomatch h) (fun _ => ?_)
          refine Tr.skip ?_
          show Tr _ _ _ _ _
          refine Tr.at ?_
          refine LAt.runU tOk 2 kr ?_
          refine LAt.doneM 65494 18 kr ?_
          exact Exists.intro (mo11, (IntKind.wrap .i64 (y1 + 1))) (And.intro H (And.intro (Nat.lt_succ_self mo11) (St.sub_of [8, 7, 6, 2, 1] [1] kr)))
        · have H := bifT h11 H
          refine Tr.cond (b := true) kr (fun _ => ?_) (fun h => nomatch h)
          refine Tr.rs ?_
          refine LAt.runU tOk 1 kr ?_
          refine LAt.doneM 32726 18 kr ?_
          refine Tr.ret ?_
          have H := Option.some.inj H
          subst H
          have H := Ho11
          dsimp only at H
          have H := Option.some.inj H
          subst H
          exact Fin.of _ [(false, [cB false])] kr rfl rfl
  · rintro _ H
    have H : (impl_BridgeOk_J1 n x0) = some r := H
    unfold impl_BridgeOk_J1 at H
    show Tr _ _ _ _ _
    refine Tr.seq ?_
    refine Tr.rs ?_
    refine LAt.runU tOk 2 kr ?_
    obtain ⟨r2, er2, H⟩ := bind_some H
    refine LAt.callU tOk [.rd, .rd, .rd] (f := 70) (av := #[.tmp 17, .const (.int .i64 1), .const (.int .i64 99)]) (ats := #[3, 3, 3]) (d := (some 18)) (ty := 4) (g := none) kr kr kr [] (impl_in n x0.Id 1 99 r2 er2) kr (.inl rfl) ?_
    refine LAt.runU tOk 2 kr ?_
    refine LAt.to ⟨71, 0, [sB 20 (!r2), sB 19 (!r2), sB 18 r2, sI 17 x0.Id, sA 16 1 11 0, sB 2 false, sA 1 1 11 0], [(1, (CV.frzRow (Bridge.row x0)))]⟩ kr ?_
    cases h1 : (!r2)
    · have H := bifF h1 H
      refine LAt.runU tOk 6 kr ?_
      refine LAt.to ⟨71, 0, [sB 26 (decide ((x0.Name.size : Int) > 10)), sB 25 (decide ((x0.Name.size : Int) > 10)), sB 24 (decide ((x0.Name.size : Int) > 10)), sI 23 (x0.Name.size : Int), sC 22 (cS x0.Name), sA 21 1 11 1, sB 20 false, sB 19 false, sB 18 r2, sI 17 x0.Id, sA 16 1 11 0, sB 2 false, sA 1 1 11 0], [(1, (CV.frzRow (Bridge.row x0)))]⟩ kr ?_
      cases h2 : (decide ((x0.Name.size : Int) > 10))
      · have H := bifF h2 H
        refine LAt.runU tOk 2 kr ?_
        refine LAt.lenE tOk (t := 55) (ty := 3) (e := 114) (x := (.tmp 28)) (d := 29) (g := (some (10, false))) ⟨(.slot 28), [], 0, false, 8, (CV.frzEs (x0.Ports.map Pt.row))⟩ (x0.Ports).length _ kr kr kr kr kr (frz_len _ _) rfl ?_
        obtain ⟨r3, er3, H⟩ := bind_some H
        refine LAt.callU tOk [.rd, .rd, .rd] (f := 70) (av := #[.tmp 29, .const (.int .i64 1), .const (.int .i64 6)]) (ats := #[3, 3, 3]) (d := (some 30)) (ty := 4) (g := (some (10, false))) kr kr kr [] (impl_in n (x0.Ports.length : Int) 1 6 r3 er3) kr (.inl rfl) ?_
        refine LAt.runU tOk 3 kr ?_
        refine LAt.to ⟨71, 0, [sB 33 (!r3), sB 32 (!r3), sB 31 (!r3), sB 30 r3, sI 29 (x0.Ports.length : Int), sC 28 (cF 8 x0.Ports Pt.row), sA 27 1 11 2, sB 26 false, sB 25 false, sB 24 false, sI 23 (x0.Name.size : Int), sC 22 (cS x0.Name), sA 21 1 11 1, sB 20 false, sB 19 false, sB 18 r2, sI 17 x0.Id, sA 16 1 11 0, sB 2 false, sA 1 1 11 0], [(1, (CV.frzRow (Bridge.row x0)))]⟩ kr ?_
        cases h3 : (!r3)
        · have H := bifF h3 H
          refine LAt.runU tOk 2 kr ?_
          obtain ⟨r4, er4, H⟩ := bind_some H
          refine LAt.callU tOk [.rd] (f := 143) (av := #[.tmp 35]) (ats := #[56]) (d := (some 36)) (ty := 4) (g := (some (17, false))) kr kr kr [] (impl_FdbOk n x0.F r4 er4) kr (.inl rfl) ?_
          refine LAt.runU tOk 3 kr ?_
          refine LAt.to ⟨71, 0, [sB 39 (!r4), sB 38 (!r4), sB 37 (!r4), sB 36 r4, sC 35 (cF 5 x0.F Fent.row), sA 34 1 11 3, sB 33 false, sB 32 false, sB 31 false, sB 30 r3, sI 29 (x0.Ports.length : Int), sC 28 (cF 8 x0.Ports Pt.row), sA 27 1 11 2, sB 26 false, sB 25 false, sB 24 false, sI 23 (x0.Name.size : Int), sC 22 (cS x0.Name), sA 21 1 11 1, sB 20 false, sB 19 false, sB 18 r2, sI 17 x0.Id, sA 16 1 11 0, sB 2 false, sA 1 1 11 0], [(1, (CV.frzRow (Bridge.row x0)))]⟩ kr ?_
          cases h4 : (!r4)
          · have H := bifF h4 H
            refine LAt.runU tOk 4 kr ?_
            refine LAt.lenE tOk (t := 55) (ty := 3) (e := 114) (x := (.tmp 43)) (d := 44) (g := (some (23, false))) ⟨(.slot 43), [], 0, false, 8, (CV.frzEs (x0.Ports.map Pt.row))⟩ (x0.Ports).length _ kr kr kr kr kr (frz_len _ _) rfl ?_
            obtain ⟨r5, er5, H⟩ := bind_some H
            refine LAt.callU tOk [.rd, .rd] (f := 144) (av := #[.tmp 41, .tmp 44]) (ats := #[59, 3]) (d := (some 45)) (ty := 4) (g := (some (23, false))) kr kr kr [] (impl_VtabOk n x0.V (x0.Ports.length : Int) r5 er5) kr (.inl rfl) ?_
            refine LAt.runU tOk 2 kr ?_
            refine LAt.doneM 140737488355334 2 kr ?_
            refine Tr.to ⟨71, 0, [sB 47 (!r5), sB 2 false, sA 1 1 11 0], [(1, (CV.frzRow (Bridge.row x0)))]⟩ kr ?_
            cases h5 : (!r5)
            · have H := bifF h5 H
              refine Tr.cond (b := false) kr (fun h => nomatch h) (fun _ => ?_)
              refine Tr.skip ?_
              show Tr _ _ _ _ _
              refine Tr.rs ?_
              refine LAt.runU tOk 2 kr ?_
              obtain ⟨r6, er6, H⟩ := bind_some H
              refine LAt.callU tOk [.rd] (f := 145) (av := #[.tmp 49]) (ats := #[3]) (d := (some 50)) (ty := 4) (g := none) kr kr kr [] (impl_isCount n x0.Ticks r6 er6) kr (.inl rfl) ?_
              refine LAt.runU tOk 1 kr ?_
              refine LAt.to ⟨71, 0, [sB 51 r6, sB 50 r6, sI 49 x0.Ticks, sA 48 1 11 6, sB 47 false, sB 2 false, sA 1 1 11 0], [(1, (CV.frzRow (Bridge.row x0)))]⟩ kr ?_
              cases h6 : r6
              · have H := bifF h6 H
                refine LAt.runU tOk 20 kr ?_
                refine LAt.doneM 4 0 kr ?_
                refine Tr.ret ?_
                have H := Option.some.inj H
                subst H
                exact Fin.of _ [(false, [cB false])] kr rfl rfl
              · have H := bifT h6 H
                refine LAt.runU tOk 2 kr ?_
                obtain ⟨r7, er7, H⟩ := bind_some H
                refine LAt.callU tOk [.rd] (f := 145) (av := #[.tmp 53]) (ats := #[3]) (d := (some 54)) (ty := 4) (g := (some (3, true))) kr kr kr [] (impl_isCount n x0.Parse r7 er7) kr (.inl rfl) ?_
                refine LAt.runU tOk 2 kr ?_
                refine LAt.to ⟨71, 0, [sB 56 r7, sB 55 r7, sB 54 r7, sI 53 x0.Parse, sA 52 1 11 7, sB 51 true, sB 50 true, sI 49 x0.Ticks, sA 48 1 11 6, sB 47 false, sB 2 false, sA 1 1 11 0], [(1, (CV.frzRow (Bridge.row x0)))]⟩ kr ?_
                cases h7 : r7
                · have H := bifF h7 H
                  refine LAt.runU tOk 15 kr ?_
                  refine LAt.doneM 4 0 kr ?_
                  refine Tr.ret ?_
                  have H := Option.some.inj H
                  subst H
                  exact Fin.of _ [(false, [cB false])] kr rfl rfl
                · have H := bifT h7 H
                  refine LAt.runU tOk 2 kr ?_
                  obtain ⟨r8, er8, H⟩ := bind_some H
                  refine LAt.callU tOk [.rd] (f := 145) (av := #[.tmp 58]) (ats := #[3]) (d := (some 59)) (ty := 4) (g := (some (8, true))) kr kr kr [] (impl_isCount n x0.Word r8 er8) kr (.inl rfl) ?_
                  refine LAt.runU tOk 2 kr ?_
                  refine LAt.to ⟨71, 0, [sB 61 r8, sB 60 r8, sB 59 r8, sI 58 x0.Word, sA 57 1 11 8, sB 56 true, sB 55 true, sB 54 true, sI 53 x0.Parse, sA 52 1 11 7, sB 51 true, sB 50 true, sI 49 x0.Ticks, sA 48 1 11 6, sB 47 false, sB 2 false, sA 1 1 11 0], [(1, (CV.frzRow (Bridge.row x0)))]⟩ kr ?_
                  cases h8 : r8
                  · have H := bifF h8 H
                    refine LAt.runU tOk 10 kr ?_
                    refine LAt.doneM 4 0 kr ?_
                    refine Tr.ret ?_
                    have H := Option.some.inj H
                    subst H
                    exact Fin.of _ [(false, [cB false])] kr rfl rfl
                  · have H := bifT h8 H
                    refine LAt.runU tOk 2 kr ?_
                    obtain ⟨r9, er9, H⟩ := bind_some H
                    refine LAt.callU tOk [.rd] (f := 145) (av := #[.tmp 63]) (ats := #[3]) (d := (some 64)) (ty := 4) (g := (some (13, true))) kr kr kr [] (impl_isCount n x0.Drops r9 er9) kr (.inl rfl) ?_
                    refine LAt.runU tOk 2 kr ?_
                    refine LAt.to ⟨71, 0, [sB 66 r9, sB 65 r9, sB 64 r9, sI 63 x0.Drops, sA 62 1 11 9, sB 61 true, sB 60 true, sB 59 true, sI 58 x0.Word, sA 57 1 11 8, sB 56 true, sB 55 true, sB 54 true, sI 53 x0.Parse, sA 52 1 11 7, sB 51 true, sB 50 true, sI 49 x0.Ticks, sA 48 1 11 6, sB 47 false, sB 2 false, sA 1 1 11 0], [(1, (CV.frzRow (Bridge.row x0)))]⟩ kr ?_
                    cases h9 : r9
                    · have H := bifF h9 H
                      refine LAt.runU tOk 5 kr ?_
                      refine LAt.doneM 4 0 kr ?_
                      refine Tr.ret ?_
                      have H := Option.some.inj H
                      subst H
                      exact Fin.of _ [(false, [cB false])] kr rfl rfl
                    · have H := bifT h9 H
                      refine LAt.runU tOk 2 kr ?_
                      obtain ⟨r10, er10, H⟩ := bind_some H
                      refine LAt.callU tOk [.rd] (f := 145) (av := #[.tmp 68]) (ats := #[3]) (d := (some 69)) (ty := 4) (g := (some (18, true))) kr kr kr [] (impl_isCount n x0.Vers r10 er10) kr (.inl rfl) ?_
                      refine LAt.runU tOk 2 kr ?_
                      refine LAt.doneM 4 0 kr ?_
                      refine Tr.ret ?_
                      have H := Option.some.inj H
                      subst H
                      exact Fin.of _ [(false, [cB r10])] kr rfl rfl
            · have H := bifT h5 H
              refine Tr.cond (b := true) kr (fun _ => ?_) (fun h => nomatch h)
              refine Tr.rs ?_
              refine LAt.runU tOk 1 kr ?_
              refine LAt.doneM 6 2 kr ?_
              refine Tr.ret ?_
              have H := Option.some.inj H
              subst H
              exact Fin.of _ [(false, [cB false])] kr rfl rfl
          · have H := bifT h4 H
            refine LAt.runU tOk 8 kr ?_
            refine LAt.doneM 140737488355334 2 kr ?_
            refine Tr.cond (b := true) kr (fun _ => ?_) (fun h => nomatch h)
            refine Tr.rs ?_
            refine LAt.runU tOk 1 kr ?_
            refine LAt.doneM 6 2 kr ?_
            refine Tr.ret ?_
            have H := Option.some.inj H
            subst H
            exact Fin.of _ [(false, [cB false])] kr rfl rfl
        · have H := bifT h3 H
          refine LAt.runU tOk 14 kr ?_
          refine LAt.doneM 140737488355334 2 kr ?_
          refine Tr.cond (b := true) kr (fun _ => ?_) (fun h => nomatch h)
          refine Tr.rs ?_
          refine LAt.runU tOk 1 kr ?_
          refine LAt.doneM 6 2 kr ?_
          refine Tr.ret ?_
          have H := Option.some.inj H
          subst H
          exact Fin.of _ [(false, [cB false])] kr rfl rfl
      · have H := bifT h2 H
        refine LAt.runU tOk 21 kr ?_
        refine LAt.doneM 140737488355334 2 kr ?_
        refine Tr.cond (b := true) kr (fun _ => ?_) (fun h => nomatch h)
        refine Tr.rs ?_
        refine LAt.runU tOk 1 kr ?_
        refine LAt.doneM 6 2 kr ?_
        refine Tr.ret ?_
        have H := Option.some.inj H
        subst H
        exact Fin.of _ [(false, [cB false])] kr rfl rfl
    · have H := bifT h1 H
      refine LAt.runU tOk 27 kr ?_
      refine LAt.doneM 140737488355334 2 kr ?_
      refine Tr.cond (b := true) kr (fun _ => ?_) (fun h => nomatch h)
      refine Tr.rs ?_
      refine LAt.runU tOk 1 kr ?_
      refine LAt.doneM 6 2 kr ?_
      refine Tr.ret ?_
      have H := Option.some.inj H
      subst H
      exact Fin.of _ [(false, [cB false])] kr rfl rfl

def impl_isPortF (n : Nat) (x0 : Bridge) (x1 : Int) : Option (Bool) :=
  ((impl_BridgeOkF n x0).bind fun r1 => (bif r1 then ((impl_inF n x1 0 (IntKind.wrap .i64 ((x0.Ports.length : Int) - 1))).bind fun r2 => (some r2)) else (some false)))
/-- loop.example/g00326/impl.isPort -/
theorem impl_isPort (n : Nat) (x0 : Bridge) (x1 : Int) (r : Bool) (H : impl_isPortF n x0 x1 = some r) : LCall Try.prog 104 [.val true (CV.frzRow (Bridge.row x0)), .val false [.lit (.int .i64 x1)]] [.val false [.lit (.bool r)]] [] := by
  refine LCall.of_body tOk Try.func104 rfl (c := (.seq (.region 0 (rg Try.f104 0) false) (.seq (.region 1 (rg Try.f104 1) false) .ret))) kr (Nat.le_of_ble_eq_true kr) 0 (rs := [.tmp 4]) rfl [] .nil [(false, [.lit (.bool r)])] [] [] fun cx => ?_
  show Tr _ _ _ ⟨15, 0, [sV 0 (CV.frzRow (Bridge.row x0)), sI 1 x1], []⟩ _
  unfold impl_isPortF at H
  refine Tr.rs ?_
  refine LAt.runU tOk 2 kr ?_
  refine LAt.doneM 22 4 kr ?_
  refine Tr.rs ?_
  refine LAt.runU tOk 1 kr ?_
  obtain ⟨r1, er1, H⟩ := bind_some H
  refine LAt.callU tOk [.rd] (f := 88) (av := #[.tmp 5]) (ats := #[61]) (d := (some 6)) (ty := 4) (g := none) kr kr kr [] (impl_BridgeOk n x0 r1 er1) kr (.inl rfl) ?_
  refine LAt.runU tOk 1 kr ?_
  refine LAt.to ⟨15, 0, [sB 7 r1, sB 6 r1, sV 5 (CV.frzRow (Bridge.row x0)), sB 4 false, sA 2 2 11 0, sI 1 x1], [(2, (CV.frzRow (Bridge.row x0)))]⟩ kr ?_
  cases h1 : r1
  · have H := bifF h1 H
    refine LAt.runU tOk 8 kr ?_
    refine LAt.doneM 16 0 kr ?_
    refine Tr.ret ?_
    have H := Option.some.inj H
    subst H
    exact Fin.of _ [(false, [cB false])] kr rfl rfl
  · have H := bifT h1 H
    refine LAt.runU tOk 3 kr ?_
    refine LAt.lenE tOk (t := 55) (ty := 3) (e := 114) (x := (.tmp 10)) (d := 11) (g := (some (2, true))) ⟨(.slot 10), [], 0, false, 8, (CV.frzEs (x0.Ports.map Pt.row))⟩ (x0.Ports).length _ kr kr kr kr kr (frz_len _ _) rfl ?_
    refine LAt.runU tOk 1 kr ?_
    obtain ⟨r2, er2, H⟩ := bind_some H
    refine LAt.callU tOk [.rd, .rd, .rd] (f := 70) (av := #[.tmp 8, .const (.int .i64 0), .tmp 12]) (ats := #[3, 3, 3]) (d := (some 13)) (ty := 4) (g := (some (2, true))) kr kr kr [] (impl_in n x1 0 (IntKind.wrap .i64 ((x0.Ports.length : Int) - 1)) r2 er2) kr (.inl rfl) ?_
    refine LAt.runU tOk 2 kr ?_
    refine LAt.doneM 16 0 kr ?_
    refine Tr.ret ?_
    have H := Option.some.inj H
    subst H
    exact Fin.of _ [(false, [cB r2])] kr rfl rfl

def impl_moreF (n : Nat) (x0 : Int) : Option (Int) :=
  (some (if 1000000 < (IntKind.wrap .i64 (x0 + 1)) then 1000000 else (IntKind.wrap .i64 (x0 + 1))))
/-- loop.example/g00326/impl.more -/
theorem impl_more (n : Nat) (x0 : Int) (r : Int) (H : impl_moreF n x0 = some r) : LCall Try.prog 118 [.val false [.lit (.int .i64 x0)]] [.val false [.lit (.int .i64 r)]] [] := by
  refine LCall.of_body tOk Try.func118 rfl (c := (.seq (.region 0 (rg Try.f118 0) false) (.seq (.region 1 (rg Try.f118 1) false) .ret))) kr (Nat.le_of_ble_eq_true kr) 0 (rs := [.tmp 2]) rfl [] .nil [(false, [.lit (.int .i64 r)])] [] [] fun cx => ?_
  show Tr _ _ _ ⟨6, 0, [sI 0 x0], []⟩ _
  unfold impl_moreF at H
  refine Tr.rs ?_
  refine LAt.runU tOk 1 kr ?_
  refine LAt.doneM 5 0 kr ?_
  refine Tr.rs ?_
  refine LAt.runU tOk 4 kr ?_
  refine LAt.doneM 4 0 kr ?_
  refine Tr.ret ?_
  have H := Option.some.inj H
  subst H
  exact Fin.of _ [(false, [cI (if 1000000 < (IntKind.wrap .i64 (x0 + 1)) then 1000000 else (IntKind.wrap .i64 (x0 + 1)))])] kr rfl rfl

def impl_StepVecF (n : Nat) (x0 : Vec) (x1 : Int) : Option (Vec × Bool) :=
  ((impl_VecOkF n x0).bind fun r1 => (bif (!r1) then (some (x0, false)) else ((impl_inF n x1 1 1000).bind fun r2 => (bif (!r2) then (some (x0, false)) else ((impl_VecOkF n (⟨x0.Root, (IntKind.wrap .i64 (x0.Cost + x1)), (IntKind.wrap .i64 (x0.Hops + 1)), x0.Bridge, x0.Port⟩ : Vec)).bind fun r3 => (bif (!r3) then (some (x0, false)) else (some ((⟨x0.Root, (IntKind.wrap .i64 (x0.Cost + x1)), (IntKind.wrap .i64 (x0.Hops + 1)), x0.Bridge, x0.Port⟩ : Vec), true))))))))
/-- loop.example/g00326/impl.StepVec -/
theorem impl_StepVec (n : Nat) (x0 : Vec) (x1 : Int) (r : Vec × Bool) (H : impl_StepVecF n x0 x1 = some r) : LCall Try.prog 188 [.val true (CV.frzRow (Vec.row x0)), .val false [.lit (.int .i64 x1)]] [.val true (Vec.row r.1), .val false [.lit (.bool r.2)]] [] := by
  refine LCall.of_body tOk Try.func188 rfl (c := (.seq (.region 0 (rg Try.f188 0) false) (.seq (.seq (.region 1 (rg Try.f188 1) false) (.cond (.tmp 14) (.seq (.region 2 (rg Try.f188 2) false) .ret) .skip)) (.seq (.region 3 (rg Try.f188 3) false) (.seq (.region 4 (rg Try.f188 4) false) (.seq (.region 5 (rg Try.f188 5) false) (.seq (.seq (.region 6 (rg Try.f188 6) false) (.cond (.tmp 28) (.seq (.region 7 (rg Try.f188 7) false) .ret) .skip)) (.seq (.region 8 (rg Try.f188 8) false) .ret)))))))) kr (Nat.le_of_ble_eq_true kr) 0 (rs := [.cell 4 70, .tmp 5]) rfl [] .nil [(true, (Vec.row r.1)), (false, [.lit (.bool r.2)])] [] [] fun cx => ?_
  show Tr _ _ _ ⟨31, 0, [sV 0 (Vec.row x0), sI 1 x1], []⟩ _
  unfold impl_StepVecF at H
  refine Tr.rs ?_
  refine LAt.runU tOk 3 kr ?_
  refine LAt.doneM 54 20 kr ?_
  refine Tr.seq ?_
  refine Tr.rs ?_
  refine LAt.runU tOk 1 kr ?_
  obtain ⟨r1, er1, H⟩ := bind_some H
  refine LAt.callU tOk [.rd] (f := 90) (av := #[.tmp 7]) (ats := #[70]) (d := (some 8)) (ty := 4) (g := none) kr kr kr [] (impl_VecOk n x0 r1 er1) kr (.inl rfl) ?_
  refine LAt.runU tOk 2 kr ?_
  refine LAt.to ⟨31, 0, [sB 10 (!r1), sB 9 (!r1), sB 8 r1, sV 7 (Vec.row x0), sB 5 false, sA 4 4 5 0, sA 2 2 5 0, sI 1 x1], [(4, [cI 0, cI 0, cI 0, cI 0, cI 0]), (2, (Vec.row x0))]⟩ kr ?_
  cases h1 : (!r1)
  · have H := bifF h1 H
    refine LAt.runU tOk 1 kr ?_
    obtain ⟨r2, er2, H⟩ := bind_some H
    refine LAt.callU tOk [.rd, .rd, .rd] (f := 70) (av := #[.tmp 11, .const (.int .i64 1), .const (.int .i64 1000)]) (ats := #[3, 3, 3]) (d := (some 12)) (ty := 4) (g := (some (3, false))) kr kr kr [] (impl_in n x1 1 1000 r2 er2) kr (.inl rfl) ?_
    refine LAt.runU tOk 2 kr ?_
    refine LAt.doneM 16438 20 kr ?_
    refine Tr.to ⟨31, 0, [sB 14 (!r2), sB 5 false, sA 4 4 5 0, sA 2 2 5 0, sI 1 x1], [(4, [cI 0, cI 0, cI 0, cI 0, cI 0]), (2, (Vec.row x0))]⟩ kr ?_
    cases h2 : (!r2)
    · have H := bifF h2 H
      refine Tr.cond (b := false) kr (fun h => nomatch h) (fun _ => ?_)
      refine Tr.skip ?_
      show Tr _ _ _ _ _
      refine Tr.rs ?_
      refine LAt.runU tOk 3 kr ?_
      refine LAt.doneM 118 84 kr ?_
      refine Tr.rs ?_
      refine LAt.runU tOk 6 kr ?_
      refine LAt.doneM 116 84 kr ?_
      refine Tr.rs ?_
      refine LAt.runU tOk 5 kr ?_
      refine LAt.doneM 116 84 kr ?_
      refine Tr.seq ?_
      refine Tr.rs ?_
      refine LAt.runU tOk 1 kr ?_
      obtain ⟨r3, er3, H⟩ := bind_some H
      refine LAt.callU tOk [.rd] (f := 90) (av := #[.tmp 26]) (ats := #[70]) (d := (some 27)) (ty := 4) (g := none) kr kr kr [] (impl_VecOk n (⟨x0.Root, (IntKind.wrap .i64 (x0.Cost + x1)), (IntKind.wrap .i64 (x0.Hops + 1)), x0.Bridge, x0.Port⟩ : Vec) r3 er3) kr (.inl rfl) ?_
      refine LAt.runU tOk 1 kr ?_
      refine LAt.doneM 268435572 84 kr ?_
      refine Tr.to ⟨31, 0, [sB 28 (!r3), sA 6 6 5 0, sB 5 false, sA 4 4 5 0, sA 2 2 5 0], [(6, [cI x0.Root, cI (IntKind.wrap .i64 (x0.Cost + x1)), cI (IntKind.wrap .i64 (x0.Hops + 1)), cI x0.Bridge, cI x0.Port]), (4, [cI 0, cI 0, cI 0, cI 0, cI 0]), (2, (Vec.row x0))]⟩ kr ?_
      cases h3 : (!r3)
      · have H := bifF h3 H
        refine Tr.cond (b := false) kr (fun h => nomatch h) (fun _ => ?_)
        refine Tr.skip ?_
        show Tr _ _ _ _ _
        refine Tr.rs ?_
        refine LAt.runU tOk 3 kr ?_
        refine LAt.doneM 48 16 kr ?_
        refine Tr.ret ?_
        have H := Option.some.inj H
        subst H
        exact Fin.of _ [(true, [cI x0.Root, cI (IntKind.wrap .i64 (x0.Cost + x1)), cI (IntKind.wrap .i64 (x0.Hops + 1)), cI x0.Bridge, cI x0.Port]), (false, [cB true])] kr rfl rfl
      · have H := bifT h3 H
        refine Tr.cond (b := true) kr (fun _ => ?_) (fun h => nomatch h)
        refine Tr.rs ?_
        refine LAt.runU tOk 3 kr ?_
        refine LAt.doneM 112 80 kr ?_
        refine Tr.ret ?_
        have H := Option.some.inj H
        subst H
        exact Fin.of _ [(true, (Vec.row x0)), (false, [cB false])] kr rfl rfl
    · have H := bifT h2 H
      refine Tr.cond (b := true) kr (fun _ => ?_) (fun h => nomatch h)
      refine Tr.rs ?_
      refine LAt.runU tOk 3 kr ?_
      refine LAt.doneM 54 20 kr ?_
      refine Tr.ret ?_
      have H := Option.some.inj H
      subst H
      exact Fin.of _ [(true, (Vec.row x0)), (false, [cB false])] kr rfl rfl
  · have H := bifT h1 H
    refine LAt.runU tOk 4 kr ?_
    refine LAt.doneM 16438 20 kr ?_
    refine Tr.cond (b := true) kr (fun _ => ?_) (fun h => nomatch h)
    refine Tr.rs ?_
    refine LAt.runU tOk 3 kr ?_
    refine LAt.doneM 54 20 kr ?_
    refine Tr.ret ?_
    have H := Option.some.inj H
    subst H
    exact Fin.of _ [(true, (Vec.row x0)), (false, [cB false])] kr rfl rfl

def impl_LessVecF (n : Nat) (x0 : Vec) (x1 : Vec) : Option (Bool) :=
  (bif (x0.Root != x1.Root) then (some (decide (x0.Root < x1.Root))) else (bif (x0.Cost != x1.Cost) then (some (decide (x0.Cost < x1.Cost))) else (bif (x0.Bridge != x1.Bridge) then (some (decide (x0.Bridge < x1.Bridge))) else (some (decide (x0.Port < x1.Port))))))
/-- loop.example/g00326/impl.LessVec -/
theorem impl_LessVec (n : Nat) (x0 : Vec) (x1 : Vec) (r : Bool) (H : impl_LessVecF n x0 x1 = some r) : LCall Try.prog 187 [.val true (CV.frzRow (Vec.row x0)), .val true (CV.frzRow (Vec.row x1))] [.val false [.lit (.bool r)]] [] := by
  refine LCall.of_body tOk Try.func187 rfl (c := (.seq (.region 0 (rg Try.f187 0) false) (.seq (.block 0 (.seq (.region 1 (rg Try.f187 1) false) (.cond (.tmp 5) (.seq (.region 2 (rg Try.f187 2) false) .ret) (.seq (.region 3 (rg Try.f187 3) false) (.cond (.tmp 16) (.seq (.region 4 (rg Try.f187 4) false) .ret) (.seq (.region 5 (rg Try.f187 5) false) (.cond (.tmp 27) (.seq (.region 6 (rg Try.f187 6) false) .ret) .skip))))))) (.seq (.region 7 (rg Try.f187 7) false) .ret)))) kr (Nat.le_of_ble_eq_true kr) 0 (rs := [.tmp 4]) rfl [] .nil [(false, [.lit (.bool r)])] [] [] fun cx => ?_
  show Tr _ _ _ ⟨43, 0, [sV 0 (Vec.row x0), sV 1 (Vec.row x1)], []⟩ _
  unfold impl_LessVecF at H
  refine Tr.rs ?_
  refine LAt.runU tOk 3 kr ?_
  refine LAt.doneM 28 12 kr ?_
  refine Tr.seq ?_
  refine Tr.block ?_
  refine Tr.rs ?_
  refine LAt.runU tOk 6 kr ?_
  refine LAt.doneM 60 12 kr ?_
  refine Tr.to ⟨43, 0, [sB 5 (x0.Root != x1.Root), sB 4 false, sA 3 3 5 0, sA 2 2 5 0], [(3, (Vec.row x1)), (2, (Vec.row x0))]⟩ kr ?_
  cases h1 : (x0.Root != x1.Root)
  · have H := bifF h1 H
    refine Tr.cond (b := false) kr (fun h => nomatch h) (fun _ => ?_)
    refine Tr.rs ?_
    refine LAt.runU tOk 6 kr ?_
    refine LAt.doneM 65564 12 kr ?_
    refine Tr.to ⟨43, 0, [sB 16 (x0.Cost != x1.Cost), sB 4 false, sA 3 3 5 0, sA 2 2 5 0], [(3, (Vec.row x1)), (2, (Vec.row x0))]⟩ kr ?_
    cases h2 : (x0.Cost != x1.Cost)
    · have H := bifF h2 H
      refine Tr.cond (b := false) kr (fun h => nomatch h) (fun _ => ?_)
      refine Tr.rs ?_
      refine LAt.runU tOk 6 kr ?_
      refine LAt.doneM 134217756 12 kr ?_
      refine Tr.to ⟨43, 0, [sB 27 (x0.Bridge != x1.Bridge), sB 4 false, sA 3 3 5 0, sA 2 2 5 0], [(3, (Vec.row x1)), (2, (Vec.row x0))]⟩ kr ?_
      cases h3 : (x0.Bridge != x1.Bridge)
      · have H := bifF h3 H
        refine Tr.cond (b := false) kr (fun h => nomatch h) (fun _ => ?_)
        refine Tr.skip ?_
        show Tr _ _ _ _ _
        refine Tr.rs ?_
        refine LAt.runU tOk 6 kr ?_
        refine LAt.doneM 16 0 kr ?_
        refine Tr.ret ?_
        have H := Option.some.inj H
        subst H
        exact Fin.of _ [(false, [cB (decide (x0.Port < x1.Port))])] kr rfl rfl
      · have H := bifT h3 H
        refine Tr.cond (b := true) kr (fun _ => ?_) (fun h => nomatch h)
        refine Tr.rs ?_
        refine LAt.runU tOk 6 kr ?_
        refine LAt.doneM 28 12 kr ?_
        refine Tr.ret ?_
        have H := Option.some.inj H
        subst H
        exact Fin.of _ [(false, [cB (decide (x0.Bridge < x1.Bridge))])] kr rfl rfl
    · have H := bifT h2 H
      refine Tr.cond (b := true) kr (fun _ => ?_) (fun h => nomatch h)
      refine Tr.rs ?_
      refine LAt.runU tOk 6 kr ?_
      refine LAt.doneM 28 12 kr ?_
      refine Tr.ret ?_
      have H := Option.some.inj H
      subst H
      exact Fin.of _ [(false, [cB (decide (x0.Cost < x1.Cost))])] kr rfl rfl
  · have H := bifT h1 H
    refine Tr.cond (b := true) kr (fun _ => ?_) (fun h => nomatch h)
    refine Tr.rs ?_
    refine LAt.runU tOk 6 kr ?_
    refine LAt.doneM 28 12 kr ?_
    refine Tr.ret ?_
    have H := Option.some.inj H
    subst H
    exact Fin.of _ [(false, [cB (decide (x0.Root < x1.Root))])] kr rfl rfl
end Go.Proofs.Ytjdedhklbdkeoaa.Tw
