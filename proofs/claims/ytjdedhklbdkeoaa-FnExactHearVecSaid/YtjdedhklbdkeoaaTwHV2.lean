/- Functions of the program, over trees. -/
import Derived.Test.YtjdedhklbdkeoaaProg
import Derived.Test.YtjdedhklbdkeoaaTlRule
import Derived.Test.YtjdedhklbdkeoaaTlU5
import Derived.Test.YtjdedhklbdkeoaaTwHV1
import Derived.WalkKit
set_option linter.unusedVariables false
set_option linter.unusedSimpArgs false
set_option maxRecDepth 100000
set_option maxHeartbeats 1000000
namespace Go.Proofs.Ytjdedhklbdkeoaa.Tw
open Go Go.TL Go.Proofs


def impl_BestVec_J1 (n : Nat) (x0 : Int) (y11 : Int) (y12 : Int) (y13 : Int) (y14 : Int) : Option (Vec × Int) :=
  (some ((⟨y12, y13, y14, x0, 0⟩ : Vec), y11))
def impl_BestVec_J3 (n : Nat) (k : (Int × Int × Int × Int × Int × Int × Int × Int × Int × Int → Option ((Int × Int × Int × Int) ⊕ (Vec × Int)))) (r17 : Vec × Bool) (y1 : Int) (y10 : Int) (y2 : Int) (y3 : Int) (y4 : Int) (y5 : Int) (y6 : Int) (y7 : Int) (y8 : Int) (y9 : Int) (y18 : Bool) (y19 : Bool) (y20 : Bool) (y21 : Bool) (y22 : Bool) (y23 : Bool) (y24 : Bool) : Option ((Int × Int × Int × Int) ⊕ (Vec × Int)) :=
  (bif y18 then (k ((IntKind.wrap .i64 (y1 + 1)), y1, r17.1.Root, r17.1.Cost, r17.1.Hops, r17.1.Bridge, r17.1.Port, r17.1.Root, r17.1.Cost, r17.1.Hops)) else (k ((IntKind.wrap .i64 (y1 + 1)), y2, y3, y4, y5, y6, y7, y8, y9, y10)))
def impl_BestVec_L2 (n : Nat) : Nat → Int → (List Pt) → Int → Int → Int → Int → Int → Int → Int → Int → Int → Int → Option ((Int × Int × Int × Int) ⊕ (Vec × Int))
  | 0, _, _, _, _, _, _, _, _, _, _, _, _ => none
  | mo15 + 1, x0, x1, y1, y2, y3, y4, y5, y6, y7, y8, y9, y10 => (bif (decide (y1 < (x1.length : Int))) then ((idx x1 y1).bind fun v16 => (bif (!v16.Up) then (impl_BestVec_L2 n mo15 x0 x1 (IntKind.wrap .i64 (y1 + 1)) y2 y3 y4 y5 y6 y7 y8 y9 y10) else (bif (!v16.Has) then (impl_BestVec_L2 n mo15 x0 x1 (IntKind.wrap .i64 (y1 + 1)) y2 y3 y4 y5 y6 y7 y8 y9 y10) else ((impl_StepVecF n v16.Heard v16.Cost).bind fun r17 => (bif r17.2 then (bif (decide (r17.1.Root < x0)) then (bif (decide (y2 < 0)) then (impl_BestVec_J3 n (fun v => impl_BestVec_L2 n mo15 x0 x1 v.1 v.2.1 v.2.2.1 v.2.2.2.1 v.2.2.2.2.1 v.2.2.2.2.2.1 v.2.2.2.2.2.2.1 v.2.2.2.2.2.2.2.1 v.2.2.2.2.2.2.2.2.1 v.2.2.2.2.2.2.2.2.2) r17 y1 y10 y2 y3 y4 y5 y6 y7 y8 y9 true true true true true true true) else ((impl_LessVecF n r17.1 (⟨y3, y4, y5, y6, y7⟩ : Vec)).bind fun r25 => (impl_BestVec_J3 n (fun v => impl_BestVec_L2 n mo15 x0 x1 v.1 v.2.1 v.2.2.1 v.2.2.2.1 v.2.2.2.2.1 v.2.2.2.2.2.1 v.2.2.2.2.2.2.1 v.2.2.2.2.2.2.2.1 v.2.2.2.2.2.2.2.2.1 v.2.2.2.2.2.2.2.2.2) r17 y1 y10 y2 y3 y4 y5 y6 y7 y8 y9 r25 true true true true true true))) else (impl_BestVec_J3 n (fun v => impl_BestVec_L2 n mo15 x0 x1 v.1 v.2.1 v.2.2.1 v.2.2.2.1 v.2.2.2.2.1 v.2.2.2.2.2.1 v.2.2.2.2.2.2.1 v.2.2.2.2.2.2.2.1 v.2.2.2.2.2.2.2.2.1 v.2.2.2.2.2.2.2.2.2) r17 y1 y10 y2 y3 y4 y5 y6 y7 y8 y9 false false false true true true true)) else (impl_BestVec_J3 n (fun v => impl_BestVec_L2 n mo15 x0 x1 v.1 v.2.1 v.2.2.1 v.2.2.2.1 v.2.2.2.2.1 v.2.2.2.2.2.1 v.2.2.2.2.2.2.1 v.2.2.2.2.2.2.2.1 v.2.2.2.2.2.2.2.2.1 v.2.2.2.2.2.2.2.2.2) r17 y1 y10 y2 y3 y4 y5 y6 y7 y8 y9 false false false false false false false)))))) else (some (Sum.inl (y2, y8, y9, y10))))
def impl_BestVecF (n : Nat) (x0 : Int) (x1 : (List Pt)) : Option (Vec × Int) :=
  ((impl_BestVec_L2 n n x0 x1 0 (-1) 0 0 0 0 0 x0 0 0).bind fun o => match o with | .inl (y11, y12, y13, y14) => (impl_BestVec_J1 n x0 y11 y12 y13 y14) | .inr r => some r)
/-- loop.example/g00326/impl.BestVec -/
theorem impl_BestVec (n : Nat) (x0 : Int) (x1 : (List Pt)) (r : Vec × Int) (H : impl_BestVecF n x0 x1 = some r) : LCall Try.prog 175 [.val false [.lit (.int .i64 x0)], .val false [.sl false 8 (CV.frzEs (x1.map Pt.row))]] [.val true (Vec.row r.1), .val false [.lit (.int .i64 r.2)]] [] := by
  refine LCall.of_body tOk Try.func175 rfl (c := (.seq (.region 0 (rg Try.f175 0) false) (.seq (.region 1 (rg Try.f175 1) false) (.seq (.region 2 (rg Try.f175 2) false) (.seq (.seq (.region 3 (rg Try.f175 3) false) (.block 0 (.loop (.seq (.region 4 (rg Try.f175 4) false) (.seq (.cond (.tmp 19) .skip (.exit 0)) (.seq (.block 1 (.seq (.region 5 (rg Try.f175 5) false) (.seq (.seq (.region 6 (rg Try.f175 6) false) (.cond (.tmp 30) (.exit 1) .skip)) (.seq (.region 7 (rg Try.f175 7) false) (.seq (.region 8 (rg Try.f175 8) false) (.cond (.tmp 54) (.seq (.region 9 (rg Try.f175 9) false) (.region 10 (rg Try.f175 10) false)) .skip)))))) (.region 11 (rg Try.f175 11) false))))))) (.seq (.region 12 (rg Try.f175 12) false) .ret)))))) kr (Nat.le_of_ble_eq_true kr) 0 (rs := [.cell 4 70, .tmp 5]) rfl [] .nil [(true, (Vec.row r.1)), (false, [.lit (.int .i64 r.2)])] [] [] fun cx => ?_
  show Tr _ _ _ ⟨68, 0, [sI 0 x0, sC 1 (cF 8 x1 Pt.row)], []⟩ _
  unfold impl_BestVecF at H
  refine Tr.rs ?_
  refine LAt.runU tOk 2 kr ?_
  refine LAt.doneM 51 16 kr ?_
  refine Tr.rs ?_
  refine LAt.runU tOk 6 kr ?_
  refine LAt.doneM 243 80 kr ?_
  refine Tr.rs ?_
  refine LAt.runU tOk 1 kr ?_
  refine LAt.doneM 499 336 kr ?_
  refine Tr.seq ?_
  refine Tr.rs ?_
  refine LAt.runU tOk 1 kr ?_
  refine LAt.lenE tOk (t := 55) (ty := 3) (e := 114) (x := (.tmp 16)) (d := 17) (g := none) ⟨(.slot 16), [], 0, false, 8, (CV.frzEs (x1.map Pt.row))⟩ (x1).length _ kr kr kr kr kr (frz_len _ _) rfl ?_
  refine LAt.runU tOk 1 kr ?_
  refine LAt.doneM 459249 336 kr ?_
  obtain ⟨o15, eo15, Ho15⟩ := bind_some H
  clear H
  refine Tr.mid (ι := Int × Int × Int × Int) (fun v => ⟨68, 0, [sI 7 v.1, sA 6 6 5 0, sI 5 0, sA 4 4 5 0], [(6, [cI v.2.1, cI v.2.2.1, cI v.2.2.2, cI x0, cI 0]), (4, [cI 0, cI 0, cI 0, cI 0, cI 0])]⟩) (fun v => impl_BestVec_J1 n x0 v.1 v.2.1 v.2.2.1 v.2.2.2 = some r) ?_ ?_
  · refine Tr.block ?_
    refine Tr.loop (ι := Nat × (Int × Int × Int × Int × Int × Int × Int × Int × Int × Int)) (fun v => ⟨68, 0, [sI 18 v.2.1, sI 17 (x1.length : Int), sC 16 (cF 8 x1 Pt.row), sA 8 8 5 0, sI 7 v.2.2.1, sA 6 6 5 0, sI 5 0, sA 4 4 5 0, sI 0 x0], [(8, [cI v.2.2.2.1, cI v.2.2.2.2.1, cI v.2.2.2.2.2.1, cI v.2.2.2.2.2.2.1, cI v.2.2.2.2.2.2.2.1]), (6, [cI v.2.2.2.2.2.2.2.2.1, cI v.2.2.2.2.2.2.2.2.2.1, cI v.2.2.2.2.2.2.2.2.2.2, cI x0, cI 0]), (4, [cI 0, cI 0, cI 0, cI 0, cI 0])]⟩) (fun v => impl_BestVec_L2 n v.1 x0 x1 v.2.1 v.2.2.1 v.2.2.2.1 v.2.2.2.2.1 v.2.2.2.2.2.1 v.2.2.2.2.2.2.1 v.2.2.2.2.2.2.2.1 v.2.2.2.2.2.2.2.2.1 v.2.2.2.2.2.2.2.2.2.1 v.2.2.2.2.2.2.2.2.2.2 = some o15) (fun v => v.1) (n, (0, (-1), 0, 0, 0, 0, 0, x0, 0, 0)) eo15 (St.sub_of [18, 17, 16, 8, 7, 6, 5, 4, 0] [8, 6, 4] kr) ?_
    rintro ⟨mo15, y1, y2, y3, y4, y5, y6, y7, y8, y9, y10⟩ H
    have H : impl_BestVec_L2 n mo15 x0 x1 y1 y2 y3 y4 y5 y6 y7 y8 y9 y10 = some o15 := H
    obtain _ | mo15 := mo15
    · cases (show (none : Option _) = some o15 from H)
    · rw [impl_BestVec_L2] at H
      refine Tr.rs ?_
      refine LAt.runU tOk 1 kr ?_
      refine LAt.doneM 983537 336 kr ?_
      refine Tr.seq ?_
      refine Tr.to ⟨68, 0, [sB 19 (decide (y1 < (x1.length : Int))), sI 18 y1, sI 17 (x1.length : Int), sC 16 (cF 8 x1 Pt.row), sA 8 8 5 0, sI 7 y2, sA 6 6 5 0, sI 5 0, sA 4 4 5 0, sI 0 x0], [(8, [cI y3, cI y4, cI y5, cI y6, cI y7]), (6, [cI y8, cI y9, cI y10, cI x0, cI 0]), (4, [cI 0, cI 0, cI 0, cI 0, cI 0])]⟩ kr ?_
      cases h1 : (decide (y1 < (x1.length : Int)))
      · have H := bifF h1 H
        refine Tr.cond (b := false) kr (fun h => nomatch h) (fun _ => ?_)
        refine Tr.exit ?_
        refine And.intro (fun _ => ?_) (fun h => absurd rfl h)
        have H := Option.some.inj H
        subst H
        have H := Ho15
        dsimp only at H
        exact Exists.intro (y2, y8, y9, y10) (And.intro H (St.sub_of [7, 6, 5, 4] [6, 4] kr))
      · have H := bifT h1 H
        refine Tr.cond (b := true) kr (fun _ => ?_) (fun h => nomatch h)
        refine Tr.skip ?_
        show Tr _ _ _ _ _
        refine Tr.seq ?_
        refine Tr.block ?_
        refine Tr.rs ?_
        refine LAt.runU tOk 1 kr ?_
        obtain ⟨v16, ev16, H⟩ := bind_some H
        refine LAt.indexF tOk (t := 55) (ty := 0) (x := (.tmp 16)) (y := (.tmp 18)) (d := 21) (g := none) ⟨(.slot 16), [], 0, false, 8, (CV.frzEs (x1.map Pt.row))⟩ y1 (Pt.row v16) _ kr kr kr kr rfl (idx_isF ev16) rfl ?_
        refine LAt.runU tOk 4 kr ?_
        refine LAt.doneM 8325105 1360 kr ?_
        refine Tr.seq ?_
        refine Tr.rs ?_
        refine LAt.runU tOk 4 kr ?_
        refine LAt.to ⟨68, 0, [sB 26 (!v16.Up), sB 25 (!v16.Up), sB 24 v16.Up, sA 23 10 8 0, sI 9 y1, sA 10 10 8 0, sV 22 (Pt.row v16), (21, .fad ((Pt.row v16))), sI 20 y1, sB 19 true, sI 18 y1, sI 17 (x1.length : Int), sC 16 (cF 8 x1 Pt.row), sA 8 8 5 0, sI 7 y2, sA 6 6 5 0, sI 5 0, sA 4 4 5 0, sI 0 x0], [(10, (Pt.row v16)), (8, [cI y3, cI y4, cI y5, cI y6, cI y7]), (6, [cI y8, cI y9, cI y10, cI x0, cI 0]), (4, [cI 0, cI 0, cI 0, cI 0, cI 0])]⟩ kr ?_
        cases h2 : (!v16.Up)
        · have H := bifF h2 H
          refine LAt.runU tOk 4 kr ?_
          refine LAt.doneM 2147420145 1360 kr ?_
          refine Tr.to ⟨68, 0, [sB 30 (!v16.Has), sB 29 (!v16.Has), sB 28 v16.Has, sA 27 10 8 2, sB 26 false, sB 25 false, sB 24 v16.Up, sA 23 10 8 0, sI 9 y1, sA 10 10 8 0, sV 22 (Pt.row v16), (21, .fad ((Pt.row v16))), sI 20 y1, sB 19 true, sI 18 y1, sI 17 (x1.length : Int), sC 16 (cF 8 x1 Pt.row), sA 8 8 5 0, sI 7 y2, sA 6 6 5 0, sI 5 0, sA 4 4 5 0, sI 0 x0], [(10, (Pt.row v16)), (8, [cI y3, cI y4, cI y5, cI y6, cI y7]), (6, [cI y8, cI y9, cI y10, cI x0, cI 0]), (4, [cI 0, cI 0, cI 0, cI 0, cI 0])]⟩ kr ?_
          cases h3 : (!v16.Has)
          · have H := bifF h3 H
            refine Tr.cond (b := false) kr (fun h => nomatch h) (fun _ => ?_)
            refine Tr.skip ?_
            show Tr _ _ _ _ _
            refine Tr.rs ?_
            refine LAt.runU tOk 4 kr ?_
            obtain ⟨r17, er17, H⟩ := bind_some H
            refine LAt.callU tOk [.rd, .rd] (f := 188) (av := #[.tmp 33, .tmp 35]) (ats := #[70, 3]) (d := (some 36)) (ty := 189) (g := none) kr kr kr [] (impl_StepVec n v16.Heard v16.Cost r17 er17) kr (.inl rfl) ?_
            refine LAt.movT tOk (ty := 189) (t := 36) (d := 31) (g := none) [(true, (Vec.row r17.1)), (false, [cB r17.2])] _ kr (.inl rfl) kr kr kr kr rfl ?_
            refine LAt.runU tOk 5 kr ?_
            refine LAt.doneM 481036279793 3408 kr ?_
            refine Tr.seq ?_
            refine Tr.mid (ι := Bool × Bool × Bool × Bool × Bool × Bool × Bool) (fun v => ⟨68, 0, [sB 54 v.1, sB 46 v.2.1, sB 45 v.2.2.1, sB 40 v.2.2.2.1, sB 39 v.2.2.2.2.1, sB 12 v.2.2.2.2.2.1, sA 11 11 5 0, sB 38 v.2.2.2.2.2.2, (31, .tup [(true, [.dead, .dead, .dead, .dead, .dead]), (false, [.dead])]), sV 37 (Vec.row r17.1), sI 35 v16.Cost, sA 34 10 8 1, sV 33 ((Pt.row v16).drop 3), sA 32 10 8 3, sB 30 false, sB 29 false, sB 28 v16.Has, sA 27 10 8 2, sB 26 false, sB 25 false, sB 24 v16.Up, sA 23 10 8 0, sI 9 y1, sA 10 10 8 0, sV 22 (Pt.row v16), (21, .fad ((Pt.row v16))), sI 20 y1, sB 19 true, sI 18 y1, sI 17 (x1.length : Int), sC 16 (cF 8 x1 Pt.row), sA 8 8 5 0, sI 7 y2, sA 6 6 5 0, sI 5 0, sA 4 4 5 0, sI 0 x0], [(11, (Vec.row r17.1)), (10, (Pt.row v16)), (8, [cI y3, cI y4, cI y5, cI y6, cI y7]), (6, [cI y8, cI y9, cI y10, cI x0, cI 0]), (4, [cI 0, cI 0, cI 0, cI 0, cI 0])]⟩) (fun v => impl_BestVec_J3 n (fun v => impl_BestVec_L2 n mo15 x0 x1 v.1 v.2.1 v.2.2.1 v.2.2.2.1 v.2.2.2.2.1 v.2.2.2.2.2.1 v.2.2.2.2.2.2.1 v.2.2.2.2.2.2.2.1 v.2.2.2.2.2.2.2.2.1 v.2.2.2.2.2.2.2.2.2) r17 y1 y10 y2 y3 y4 y5 y6 y7 y8 y9 v.1 v.2.1 v.2.2.1 v.2.2.2.1 v.2.2.2.2.1 v.2.2.2.2.2.1 v.2.2.2.2.2.2 = some o15) ?_ ?_
            · refine Tr.at ?_
              refine LAt.runU tOk 2 kr ?_
              refine LAt.to ⟨68, 0, [sB 40 r17.2, sB 39 r17.2, sB 12 r17.2, sA 11 11 5 0, sB 38 r17.2, (31, .tup [(true, [.dead, .dead, .dead, .dead, .dead]), (false, [.dead])]), sV 37 (Vec.row r17.1), sI 35 v16.Cost, sA 34 10 8 1, sV 33 ((Pt.row v16).drop 3), sA 32 10 8 3, sB 30 false, sB 29 false, sB 28 v16.Has, sA 27 10 8 2, sB 26 false, sB 25 false, sB 24 v16.Up, sA 23 10 8 0, sI 9 y1, sA 10 10 8 0, sV 22 (Pt.row v16), (21, .fad ((Pt.row v16))), sI 20 y1, sB 19 true, sI 18 y1, sI 17 (x1.length : Int), sC 16 (cF 8 x1 Pt.row), sA 8 8 5 0, sI 7 y2, sA 6 6 5 0, sI 5 0, sA 4 4 5 0, sI 0 x0], [(11, (Vec.row r17.1)), (10, (Pt.row v16)), (8, [cI y3, cI y4, cI y5, cI y6, cI y7]), (6, [cI y8, cI y9, cI y10, cI x0, cI 0]), (4, [cI 0, cI 0, cI 0, cI 0, cI 0])]⟩ kr ?_
              cases h5 : r17.2
              · have H := bifF h5 H
                refine LAt.runU tOk 14 kr ?_
                refine LAt.doneM 36028728299429873 3408 kr ?_
                exact Exists.intro (false, false, false, false, false, false, false) (And.intro H (St.sub_of [54, 46, 45, 40, 39, 12, 11, 38, 31, 37, 35, 34, 33, 32, 30, 29, 28, 27, 26, 25, 24, 23, 9, 10, 22, 21, 20, 19, 18, 17, 16, 8, 7, 6, 5, 4, 0] [11, 10, 8, 6, 4] kr))
              · have H := bifT h5 H
                refine LAt.runU tOk 6 kr ?_
                refine LAt.to ⟨68, 0, [sB 46 (decide (r17.1.Root < x0)), sB 45 (decide (r17.1.Root < x0)), sB 44 (decide (r17.1.Root < x0)), sI 43 x0, sI 42 r17.1.Root, sA 41 11 5 0, sB 40 true, sB 39 true, sB 12 true, sA 11 11 5 0, sB 38 true, (31, .tup [(true, [.dead, .dead, .dead, .dead, .dead]), (false, [.dead])]), sV 37 (Vec.row r17.1), sI 35 v16.Cost, sA 34 10 8 1, sV 33 ((Pt.row v16).drop 3), sA 32 10 8 3, sB 30 false, sB 29 false, sB 28 v16.Has, sA 27 10 8 2, sB 26 false, sB 25 false, sB 24 v16.Up, sA 23 10 8 0, sI 9 y1, sA 10 10 8 0, sV 22 (Pt.row v16), (21, .fad ((Pt.row v16))), sI 20 y1, sB 19 true, sI 18 y1, sI 17 (x1.length : Int), sC 16 (cF 8 x1 Pt.row), sA 8 8 5 0, sI 7 y2, sA 6 6 5 0, sI 5 0, sA 4 4 5 0, sI 0 x0], [(11, (Vec.row r17.1)), (10, (Pt.row v16)), (8, [cI y3, cI y4, cI y5, cI y6, cI y7]), (6, [cI y8, cI y9, cI y10, cI x0, cI 0]), (4, [cI 0, cI 0, cI 0, cI 0, cI 0])]⟩ kr ?_
                cases h6 : (decide (r17.1.Root < x0))
                · have H := bifF h6 H
                  refine LAt.runU tOk 8 kr ?_
                  refine LAt.doneM 36028728299429873 3408 kr ?_
                  exact Exists.intro (false, false, false, true, true, true, true) (And.intro H (St.sub_of [54, 46, 45, 40, 39, 12, 11, 38, 31, 37, 35, 34, 33, 32, 30, 29, 28, 27, 26, 25, 24, 23, 9, 10, 22, 21, 20, 19, 18, 17, 16, 8, 7, 6, 5, 4, 0] [11, 10, 8, 6, 4] kr))
                · have H := bifT h6 H
                  refine LAt.runU tOk 3 kr ?_
                  refine LAt.to ⟨68, 0, [sB 49 (decide (y2 < 0)), sB 48 (decide (y2 < 0)), sI 47 y2, sB 46 true, sB 45 true, sB 44 true, sI 43 x0, sI 42 r17.1.Root, sA 41 11 5 0, sB 40 true, sB 39 true, sB 12 true, sA 11 11 5 0, sB 38 true, (31, .tup [(true, [.dead, .dead, .dead, .dead, .dead]), (false, [.dead])]), sV 37 (Vec.row r17.1), sI 35 v16.Cost, sA 34 10 8 1, sV 33 ((Pt.row v16).drop 3), sA 32 10 8 3, sB 30 false, sB 29 false, sB 28 v16.Has, sA 27 10 8 2, sB 26 false, sB 25 false, sB 24 v16.Up, sA 23 10 8 0, sI 9 y1, sA 10 10 8 0, sV 22 (Pt.row v16), (21, .fad ((Pt.row v16))), sI 20 y1, sB 19 true, sI 18 y1, sI 17 (x1.length : Int), sC 16 (cF 8 x1 Pt.row), sA 8 8 5 0, sI 7 y2, sA 6 6 5 0, sI 5 0, sA 4 4 5 0, sI 0 x0], [(11, (Vec.row r17.1)), (10, (Pt.row v16)), (8, [cI y3, cI y4, cI y5, cI y6, cI y7]), (6, [cI y8, cI y9, cI y10, cI x0, cI 0]), (4, [cI 0, cI 0, cI 0, cI 0, cI 0])]⟩ kr ?_
                  cases h7 : (decide (y2 < 0))
                  · have H := bifF h7 H
                    refine LAt.runU tOk 2 kr ?_
                    obtain ⟨r25, er25, H⟩ := bind_some H
                    refine LAt.callU tOk [.rd, .rd] (f := 187) (av := #[.tmp 50, .tmp 51]) (ats := #[70, 70]) (d := (some 52)) (ty := 4) (g := (some (10, false))) kr kr kr [] (impl_LessVec n r17.1 (⟨y3, y4, y5, y6, y7⟩ : Vec) r25 er25) kr (.inl rfl) ?_
                    refine LAt.runU tOk 2 kr ?_
                    refine LAt.doneM 36028728299429873 3408 kr ?_
                    exact Exists.intro (r25, true, true, true, true, true, true) (And.intro H (St.sub_of [54, 46, 45, 40, 39, 12, 11, 38, 31, 37, 35, 34, 33, 32, 30, 29, 28, 27, 26, 25, 24, 23, 9, 10, 22, 21, 20, 19, 18, 17, 16, 8, 7, 6, 5, 4, 0] [11, 10, 8, 6, 4] kr))
                  · have H := bifT h7 H
                    refine LAt.runU tOk 5 kr ?_
                    refine LAt.doneM 36028728299429873 3408 kr ?_
                    exact Exists.intro (true, true, true, true, true, true, true) (And.intro H (St.sub_of [54, 46, 45, 40, 39, 12, 11, 38, 31, 37, 35, 34, 33, 32, 30, 29, 28, 27, 26, 25, 24, 23, 9, 10, 22, 21, 20, 19, 18, 17, 16, 8, 7, 6, 5, 4, 0] [11, 10, 8, 6, 4] kr))
            · rintro ⟨y18, y19, y20, y21, y22, y23, y24⟩ H
              have H : (impl_BestVec_J3 n (fun v => impl_BestVec_L2 n mo15 x0 x1 v.1 v.2.1 v.2.2.1 v.2.2.2.1 v.2.2.2.2.1 v.2.2.2.2.2.1 v.2.2.2.2.2.2.1 v.2.2.2.2.2.2.2.1 v.2.2.2.2.2.2.2.2.1 v.2.2.2.2.2.2.2.2.2) r17 y1 y10 y2 y3 y4 y5 y6 y7 y8 y9 y18 y19 y20 y21 y22 y23 y24) = some o15 := H
              unfold impl_BestVec_J3 at H
              show Tr _ _ _ _ _
              refine Tr.to ⟨68, 0, [sB 54 y18, sB 46 y19, sB 45 y20, sB 40 y21, sB 39 y22, sB 12 y23, sA 11 11 5 0, sB 38 y24, (31, .tup [(true, [.dead, .dead, .dead, .dead, .dead]), (false, [.dead])]), sV 37 (Vec.row r17.1), sI 35 v16.Cost, sA 34 10 8 1, sV 33 ((Pt.row v16).drop 3), sA 32 10 8 3, sB 30 false, sB 29 false, sB 28 v16.Has, sA 27 10 8 2, sB 26 false, sB 25 false, sB 24 v16.Up, sA 23 10 8 0, sI 9 y1, sA 10 10 8 0, sV 22 (Pt.row v16), (21, .fad ((Pt.row v16))), sI 20 y1, sB 19 true, sI 18 y1, sI 17 (x1.length : Int), sC 16 (cF 8 x1 Pt.row), sA 8 8 5 0, sI 7 y2, sA 6 6 5 0, sI 5 0, sA 4 4 5 0, sI 0 x0], [(11, (Vec.row r17.1)), (10, (Pt.row v16)), (8, [cI y3, cI y4, cI y5, cI y6, cI y7]), (6, [cI y8, cI y9, cI y10, cI x0, cI 0]), (4, [cI 0, cI 0, cI 0, cI 0, cI 0])]⟩ kr ?_
              cases h4 : y18
              · have H := bifF h4 H
                refine Tr.cond (b := false) kr (fun h => nomatch h) (fun _ => ?_)
                refine Tr.skip ?_
                show Tr _ _ _ _ _
                refine Tr.at ?_
                refine LAt.runU tOk 2 kr ?_
                refine LAt.doneM 36911610229348573169 3408 kr ?_
                exact Exists.intro (mo15, ((IntKind.wrap .i64 (y1 + 1)), y2, y3, y4, y5, y6, y7, y8, y9, y10)) (And.intro H (And.intro (Nat.lt_succ_self mo15) (St.sub_of [18, 17, 16, 8, 7, 6, 5, 4, 0] [8, 6, 4] kr)))
              · have H := bifT h4 H
                refine Tr.cond (b := true) kr (fun _ => ?_) (fun h => nomatch h)
                refine Tr.rs ?_
                refine LAt.runU tOk 4 kr ?_
                refine LAt.doneM 126208472986361841 3408 kr ?_
                refine Tr.at ?_
                refine LAt.runU tOk 9 kr ?_
                refine LAt.doneM 36875581432329609201 3408 kr ?_
                show Tr _ _ _ _ _
                refine Tr.at ?_
                refine LAt.runU tOk 2 kr ?_
                refine LAt.doneM 73769069579748712433 3408 kr ?_
                exact Exists.intro (mo15, ((IntKind.wrap .i64 (y1 + 1)), y1, r17.1.Root, r17.1.Cost, r17.1.Hops, r17.1.Bridge, r17.1.Port, r17.1.Root, r17.1.Cost, r17.1.Hops)) (And.intro H (And.intro (Nat.lt_succ_self mo15) (St.sub_of [18, 17, 16, 8, 7, 6, 5, 4, 0] [8, 6, 4] kr)))
          · have H := bifT h3 H
            refine Tr.cond (b := true) kr (fun _ => ?_) (fun h => nomatch h)
            refine Tr.exit ?_
            refine And.intro (fun _ => ?_) (fun h => absurd rfl h)
            show Tr _ _ _ _ _
            refine Tr.at ?_
            refine LAt.runU tOk 2 kr ?_
            refine LAt.doneM 36893488149566523377 1360 kr ?_
            exact Exists.intro (mo15, ((IntKind.wrap .i64 (y1 + 1)), y2, y3, y4, y5, y6, y7, y8, y9, y10)) (And.intro H (And.intro (Nat.lt_succ_self mo15) (St.sub_of [18, 17, 16, 8, 7, 6, 5, 4, 0] [8, 6, 4] kr)))
        · have H := bifT h2 H
          refine LAt.runU tOk 4 kr ?_
          refine LAt.doneM 2147420145 1360 kr ?_
          refine Tr.cond (b := true) kr (fun _ => ?_) (fun h => nomatch h)
          refine Tr.exit ?_
          refine And.intro (fun _ => ?_) (fun h => absurd rfl h)
          show Tr _ _ _ _ _
          refine Tr.at ?_
          refine LAt.runU tOk 2 kr ?_
          refine LAt.doneM 36893488149566523377 1360 kr ?_
          exact Exists.intro (mo15, ((IntKind.wrap .i64 (y1 + 1)), y2, y3, y4, y5, y6, y7, y8, y9, y10)) (And.intro H (And.intro (Nat.lt_succ_self mo15) (St.sub_of [18, 17, 16, 8, 7, 6, 5, 4, 0] [8, 6, 4] kr)))
  · rintro ⟨y11, y12, y13, y14⟩ H
    have H : (impl_BestVec_J1 n x0 y11 y12 y13 y14) = some r := H
    unfold impl_BestVec_J1 at H
    show Tr _ _ _ _ _
    refine Tr.rs ?_
    refine LAt.runU tOk 4 kr ?_
    refine LAt.doneM 48 16 kr ?_
    refine Tr.ret ?_
    have H := Option.some.inj H
    subst H
    exact Fin.of _ [(true, [cI y12, cI y13, cI y14, cI x0, cI 0]), (false, [cI y11])] kr rfl rfl

def impl_SayVecF (n : Nat) (x0 : Int) (x1 : (List Pt)) (x2 : Int) : Option (Vec) :=
  ((impl_BestVecF n x0 x1).bind fun r1 => (some (⟨r1.1.Root, r1.1.Cost, r1.1.Hops, r1.1.Bridge, x2⟩ : Vec)))
/-- loop.example/g00326/impl.SayVec -/
theorem impl_SayVec (n : Nat) (x0 : Int) (x1 : (List Pt)) (x2 : Int) (r : Vec) (H : impl_SayVecF n x0 x1 x2 = some r) : LCall Try.prog 139 [.val false [.lit (.int .i64 x0)], .val false [.sl false 8 (CV.frzEs (x1.map Pt.row))], .val false [.lit (.int .i64 x2)]] [.val true (Vec.row r)] [] := by
  refine LCall.of_body tOk Try.func139 rfl (c := (.seq (.region 0 (rg Try.f139 0) false) (.seq (.region 1 (rg Try.f139 1) false) (.seq (.region 2 (rg Try.f139 2) false) (.seq (.region 3 (rg Try.f139 3) false) .ret))))) kr (Nat.le_of_ble_eq_true kr) 0 (rs := [.cell 6 70]) rfl [] .nil [(true, (Vec.row r))] [] [] fun cx => ?_
  show Tr _ _ _ ⟨18, 0, [sI 0 x0, sC 1 (cF 8 x1 Pt.row), sI 2 x2], []⟩ _
  unfold impl_SayVecF at H
  refine Tr.rs ?_
  refine LAt.runU tOk 1 kr ?_
  refine LAt.doneM 71 64 kr ?_
  refine Tr.rs ?_
  refine LAt.runU tOk 2 kr ?_
  obtain ⟨r1, er1, H⟩ := bind_some H
  refine LAt.callU tOk [.rd, .rd] (f := 175) (av := #[.tmp 10, .tmp 11]) (ats := #[3, 55]) (d := (some 12)) (ty := 181) (g := none) kr kr kr [] (impl_BestVec n x0 x1 r1 er1) kr (.inl rfl) ?_
  refine LAt.movT tOk (ty := 181) (t := 12) (d := 9) (g := none) [(true, (Vec.row r1.1)), (false, [cI r1.2])] _ kr (.inl rfl) kr kr kr kr rfl ?_
  refine LAt.runU tOk 5 kr ?_
  refine LAt.doneM 196 192 kr ?_
  refine Tr.rs ?_
  refine LAt.runU tOk 3 kr ?_
  refine LAt.doneM 192 192 kr ?_
  refine Tr.rs ?_
  refine LAt.runU tOk 2 kr ?_
  refine LAt.doneM 64 64 kr ?_
  refine Tr.ret ?_
  have H := Option.some.inj H
  subst H
  exact Fin.of _ [(true, [cI r1.1.Root, cI r1.1.Cost, cI r1.1.Hops, cI r1.1.Bridge, cI x2])] kr rfl rfl

def impl_RoleOfF (n : Nat) (x0 : Int) (x1 : (List Pt)) (x2 : Int) : Option (Int) :=
  ((impl_inF n x2 0 (IntKind.wrap .i64 ((x1.length : Int) - 1))).bind fun r1 => (bif (!r1) then (some 4) else ((idx x1 x2).bind fun v2 => (bif (!v2.Up) then (some 4) else ((impl_BestVecF n x0 x1).bind fun r3 => (bif (r3.2 == x2) then (some 1) else ((idx x1 x2).bind fun v4 => (bif (!v4.Has) then (some 2) else ((impl_SayVecF n x0 x1 x2).bind fun r5 => ((idx x1 x2).bind fun v6 => ((impl_LessVecF n r5 v6.Heard).bind fun r7 => (bif r7 then (some 2) else (some 3)))))))))))))
/-- loop.example/g00326/impl.RoleOf -/
theorem impl_RoleOf (n : Nat) (x0 : Int) (x1 : (List Pt)) (x2 : Int) (r : Int) (H : impl_RoleOfF n x0 x1 x2 = some r) : LCall Try.prog 172 [.val false [.lit (.int .i64 x0)], .val false [.sl false 8 (CV.frzEs (x1.map Pt.row))], .val false [.lit (.int .i64 x2)]] [.val false [.lit (.int .i64 r)]] [] := by
  refine LCall.of_body tOk Try.func172 rfl (c := (.seq (.region 0 (rg Try.f172 0) false) (.seq (.seq (.region 1 (rg Try.f172 1) false) (.cond (.tmp 22) (.seq (.region 2 (rg Try.f172 2) false) .ret) .skip)) (.seq (.region 3 (rg Try.f172 3) false) (.seq (.block 0 (.seq (.region 4 (rg Try.f172 4) false) (.cond (.tmp 29) (.seq (.region 5 (rg Try.f172 5) false) .ret) (.seq (.region 6 (rg Try.f172 6) true) (.cond (.tmp 33) (.seq (.region 7 (rg Try.f172 7) false) .ret) .skip))))) (.seq (.region 8 (rg Try.f172 8) false) .ret)))))) kr (Nat.le_of_ble_eq_true kr) 0 (rs := [.tmp 6]) rfl [] .nil [(false, [.lit (.int .i64 r)])] [] [] fun cx => ?_
  show Tr _ _ _ ⟨52, 0, [sI 0 x0, sC 1 (cF 8 x1 Pt.row), sI 2 x2], []⟩ _
  unfold impl_RoleOfF at H
  refine Tr.rs ?_
  refine LAt.runU tOk 1 kr ?_
  refine LAt.doneM 71 0 kr ?_
  refine Tr.seq ?_
  refine Tr.rs ?_
  refine LAt.runU tOk 2 kr ?_
  refine LAt.lenE tOk (t := 55) (ty := 3) (e := 114) (x := (.tmp 10)) (d := 11) (g := none) ⟨(.slot 10), [], 0, false, 8, (CV.frzEs (x1.map Pt.row))⟩ (x1).length _ kr kr kr kr kr (frz_len _ _) rfl ?_
  refine LAt.runU tOk 1 kr ?_
  obtain ⟨r1, er1, H⟩ := bind_some H
  refine LAt.callU tOk [.rd, .rd, .rd] (f := 70) (av := #[.tmp 9, .const (.int .i64 0), .tmp 12]) (ats := #[3, 3, 3]) (d := (some 13)) (ty := 4) (g := none) kr kr kr [] (impl_in n x2 0 (IntKind.wrap .i64 ((x1.length : Int) - 1)) r1 er1) kr (.inl rfl) ?_
  refine LAt.runU tOk 2 kr ?_
  refine LAt.to ⟨52, 0, [sB 15 (!r1), sB 14 (!r1), sB 13 r1, sI 12 (IntKind.wrap .i64 ((x1.length : Int) - 1)), sI 11 (x1.length : Int), sC 10 (cF 8 x1 Pt.row), sI 9 x2, sI 6 0, sI 0 x0, sC 1 (cF 8 x1 Pt.row), sI 2 x2], []⟩ kr ?_
  cases h1 : (!r1)
  · have H := bifF h1 H
    refine LAt.runU tOk 2 kr ?_
    obtain ⟨v2, ev2, H⟩ := bind_some H
    refine LAt.indexF tOk (t := 55) (ty := 0) (x := (.tmp 16)) (y := (.tmp 17)) (d := 18) (g := (some (6, false))) ⟨(.slot 16), [], 0, false, 8, (CV.frzEs (x1.map Pt.row))⟩ x2 (Pt.row v2) _ kr kr kr kr rfl (idx_isF ev2) rfl ?_
    refine LAt.runU tOk 4 kr ?_
    refine LAt.doneM 4194375 0 kr ?_
    refine Tr.to ⟨52, 0, [sB 22 (!v2.Up), sI 6 0, sI 0 x0, sC 1 (cF 8 x1 Pt.row), sI 2 x2], []⟩ kr ?_
    cases h2 : (!v2.Up)
    · have H := bifF h2 H
      refine Tr.cond (b := false) kr (fun h => nomatch h) (fun _ => ?_)
      refine Tr.skip ?_
      show Tr _ _ _ _ _
      refine Tr.rs ?_
      refine LAt.runU tOk 2 kr ?_
      obtain ⟨r3, er3, H⟩ := bind_some H
      refine LAt.callU tOk [.rd, .rd] (f := 175) (av := #[.tmp 24, .tmp 25]) (ats := #[3, 55]) (d := (some 26)) (ty := 181) (g := none) kr kr kr [] (impl_BestVec n x0 x1 r3 er3) kr (.inl rfl) ?_
      refine LAt.movT tOk (ty := 181) (t := 26) (d := 23) (g := none) [(true, (Vec.row r3.1)), (false, [cI r3.2])] _ kr (.inl rfl) kr kr kr kr rfl ?_
      refine LAt.runU tOk 5 kr ?_
      refine LAt.doneM 327 0 kr ?_
      refine Tr.seq ?_
      refine Tr.block ?_
      refine Tr.rs ?_
      refine LAt.runU tOk 4 kr ?_
      refine LAt.doneM 536870983 0 kr ?_
      refine Tr.to ⟨52, 0, [sB 29 (r3.2 == x2), sI 6 0, sI 0 x0, sC 1 (cF 8 x1 Pt.row), sI 2 x2], []⟩ kr ?_
      cases h3 : (r3.2 == x2)
      · have H := bifF h3 H
        refine Tr.cond (b := false) kr (fun h => nomatch h) (fun _ => ?_)
        obtain ⟨v4, ev4, H⟩ := bind_some H
        refine Tr.to ⟨52, 0, [sB 29 false, sI 6 0, sI 0 x0, sC 1 (cF 8 x1 Pt.row), sI 2 x2], []⟩ kr ?_
        cases h4 : (!v4.Has)
        · have H := bifF h4 H
          obtain ⟨r5, er5, H⟩ := bind_some H
          obtain ⟨v6, ev6, H⟩ := bind_some H
          obtain ⟨r7, er7, H⟩ := bind_some H
          refine Tr.draws mixed 19 kr ⟨52, 0, [sB 33 r7, sI 6 0], []⟩ (fun cx => ?_) ?_
          · refine AT.runU tOk [(0, []), (1, [])] 17 [] [1, 0] rfl kr (fun cx => ?_)
            refine AT.indexF tOk 2 (t := 55) (ty := 0) (x := (.tmp 34)) (y := (.tmp 35)) (d := 36) (g := none) ⟨(.slot 34), [], 0, false, 8, (CV.frzEs (x1.map Pt.row))⟩ x2 (Pt.row v4) _ kr kr kr kr kr kr rfl (idx_isF ev4) rfl (fun cx => ?_)
            refine AT.runU tOk [(3, []), (4, []), (5, []), (6, [])] 12 [] [6, 5, 4, 3, 2, 1, 0] rfl kr (fun cx => ?_)
            refine AT.to ⟨52, 0, [sB 40 (!v4.Has), sB 39 (!v4.Has), sB 38 v4.Has, (37, .fad (((Pt.row v4).drop 2))), (36, .fad ((Pt.row v4))), sI 35 x2, sC 34 (cF 8 x1 Pt.row), sB 29 false, sI 6 0, sI 0 x0, sC 1 (cF 8 x1 Pt.row), sI 2 x2], []⟩ kr ?_
            rw [h4]
            refine AT.runU tOk [(7, []), (8, []), (9, []), (11, []), (12, [])] 7 [] [12, 11, 9, 8, 7, 6, 5, 4, 3, 2, 1, 0] rfl kr (fun cx => ?_)
            refine AT.indexF tOk 13 (t := 55) (ty := 0) (x := (.tmp 45)) (y := (.tmp 46)) (d := 47) (g := (some (6, false))) ⟨(.slot 45), [], 0, false, 8, (CV.frzEs (x1.map Pt.row))⟩ x2 (Pt.row v6) _ kr kr kr kr kr kr rfl (idx_isF ev6) rfl (fun cx => ?_)
            refine AT.runU tOk [(14, []), (15, [])] 4 [] [15, 14, 13, 12, 11, 9, 8, 7, 6, 5, 4, 3, 2, 1, 0] rfl kr (fun cx => ?_)
            refine AT.big1 tOk 10 kr kr ?_
            refine LAt.callU tOk [.rd, .rd, .rd] (f := 139) (av := #[.tmp 41, .tmp 42, .tmp 43]) (ats := #[3, 55, 3]) (d := (some 44)) (ty := 70) (g := (some (6, false))) kr kr kr [] (impl_SayVec n x0 x1 x2 r5 er5) kr (.inl rfl) ?_
            refine LAt.fin kr (And.intro (And.intro kr kr) ?_)
            refine AT.big1 tOk 16 kr kr ?_
            refine LAt.callU tOk [.rd, .rd] (f := 187) (av := #[.tmp 44, .tmp 49]) (ats := #[70, 70]) (d := (some 50)) (ty := 4) (g := (some (6, false))) kr kr kr [] (impl_LessVec n r5 v6.Heard r7 er7) kr (.inl rfl) ?_
            refine LAt.fin kr (And.intro (And.intro kr kr) ?_)
            refine AT.runU tOk [(17, []), (18, [])] 0 [] [18, 17, 16, 10, 15, 14, 13, 12, 11, 9, 8, 7, 6, 5, 4, 3, 2, 1, 0] rfl kr (fun cx => ?_)
            exact AT.done [33, 6] [] _ kr kr rfl
          · refine Tr.to ⟨52, 0, [sB 33 r7, sI 6 0], []⟩ kr ?_
            cases h5 : r7
            · have H := bifF h5 H
              refine Tr.cond (b := false) kr (fun h => nomatch h) (fun _ => ?_)
              refine Tr.skip ?_
              show Tr _ _ _ _ _
              refine Tr.rs ?_
              refine LAt.runU tOk 1 kr ?_
              refine LAt.doneM 64 0 kr ?_
              refine Tr.ret ?_
              have H := Option.some.inj H
              subst H
              exact Fin.of _ [(false, [cI 3])] kr rfl rfl
            · have H := bifT h5 H
              refine Tr.cond (b := true) kr (fun _ => ?_) (fun h => nomatch h)
              refine Tr.rs ?_
              refine LAt.runU tOk 1 kr ?_
              refine LAt.doneM 64 0 kr ?_
              refine Tr.ret ?_
              have H := Option.some.inj H
              subst H
              exact Fin.of _ [(false, [cI 2])] kr rfl rfl
        · have H := bifT h4 H
          refine Tr.draws mixed 19 kr ⟨52, 0, [sB 33 true, sI 6 0], []⟩ (fun cx => ?_) ?_
          · refine AT.runU tOk [(0, []), (1, [])] 17 [] [1, 0] rfl kr (fun cx => ?_)
            refine AT.indexF tOk 2 (t := 55) (ty := 0) (x := (.tmp 34)) (y := (.tmp 35)) (d := 36) (g := none) ⟨(.slot 34), [], 0, false, 8, (CV.frzEs (x1.map Pt.row))⟩ x2 (Pt.row v4) _ kr kr kr kr kr kr rfl (idx_isF ev4) rfl (fun cx => ?_)
            refine AT.runU tOk [(3, []), (4, []), (5, []), (6, [])] 12 [] [6, 5, 4, 3, 2, 1, 0] rfl kr (fun cx => ?_)
            refine AT.to ⟨52, 0, [sB 40 (!v4.Has), sB 39 (!v4.Has), sB 38 v4.Has, (37, .fad (((Pt.row v4).drop 2))), (36, .fad ((Pt.row v4))), sI 35 x2, sC 34 (cF 8 x1 Pt.row), sB 29 false, sI 6 0, sI 0 x0, sC 1 (cF 8 x1 Pt.row), sI 2 x2], []⟩ kr ?_
            rw [h4]
            refine AT.runU tOk [(7, []), (8, []), (9, []), (10, []), (11, []), (12, []), (13, []), (14, []), (15, []), (16, []), (17, []), (18, [])] 0 [] [18, 17, 16, 15, 14, 13, 12, 11, 10, 9, 8, 7, 6, 5, 4, 3, 2, 1, 0] rfl kr (fun cx => ?_)
            exact AT.done [33, 6] [] _ kr kr rfl
          · refine Tr.cond (b := true) kr (fun _ => ?_) (fun h => nomatch h)
            refine Tr.rs ?_
            refine LAt.runU tOk 1 kr ?_
            refine LAt.doneM 64 0 kr ?_
            refine Tr.ret ?_
            have H := Option.some.inj H
            subst H
            exact Fin.of _ [(false, [cI 2])] kr rfl rfl
      · have H := bifT h3 H
        refine Tr.cond (b := true) kr (fun _ => ?_) (fun h => nomatch h)
        refine Tr.rs ?_
        refine LAt.runU tOk 1 kr ?_
        refine LAt.doneM 64 0 kr ?_
        refine Tr.ret ?_
        have H := Option.some.inj H
        subst H
        exact Fin.of _ [(false, [cI 1])] kr rfl rfl
    · have H := bifT h2 H
      refine Tr.cond (b := true) kr (fun _ => ?_) (fun h => nomatch h)
      refine Tr.rs ?_
      refine LAt.runU tOk 1 kr ?_
      refine LAt.doneM 71 0 kr ?_
      refine Tr.ret ?_
      have H := Option.some.inj H
      subst H
      exact Fin.of _ [(false, [cI 4])] kr rfl rfl
  · have H := bifT h1 H
    refine LAt.runU tOk 7 kr ?_
    refine LAt.doneM 4194375 0 kr ?_
    refine Tr.cond (b := true) kr (fun _ => ?_) (fun h => nomatch h)
    refine Tr.rs ?_
    refine LAt.runU tOk 1 kr ?_
    refine LAt.doneM 71 0 kr ?_
    refine Tr.ret ?_
    have H := Option.some.inj H
    subst H
    exact Fin.of _ [(false, [cI 4])] kr rfl rfl

def impl_Sends_J1 (n : Nat) (y3 : Int) : Option (Int) :=
  (some y3)
def impl_Sends_L2 (n : Nat) : Nat → Int → (List Pt) → Int → Int → Option ((Int) ⊕ (Int))
  | 0, _, _, _, _ => none
  | mo4 + 1, x0, x1, y1, y2 => (bif (decide (y1 < (x1.length : Int))) then (bif (decide (y1 < 6)) then ((impl_RoleOfF n x0 x1 y1).bind fun r5 => (bif (r5 == 1) then (bif (decide ((0 : Int) ≤ y1)) then (impl_Sends_L2 n mo4 x0 x1 (IntKind.wrap .i64 (y1 + 1)) (IntKind.wrap .i64 (BitVec.ofInt (IntKind.bits .i64) y2 ||| BitVec.ofInt (IntKind.bits .i64) (IntKind.wrap .i64 (1 * 2 ^ min ((y1 : Int)).toNat (IntKind.bits .i64)))).toNat)) else none) else (bif (r5 == 2) then (bif (decide ((0 : Int) ≤ y1)) then (impl_Sends_L2 n mo4 x0 x1 (IntKind.wrap .i64 (y1 + 1)) (IntKind.wrap .i64 (BitVec.ofInt (IntKind.bits .i64) y2 ||| BitVec.ofInt (IntKind.bits .i64) (IntKind.wrap .i64 (1 * 2 ^ min ((y1 : Int)).toNat (IntKind.bits .i64)))).toNat)) else none) else (impl_Sends_L2 n mo4 x0 x1 (IntKind.wrap .i64 (y1 + 1)) y2)))) else (some (Sum.inl y2))) else (some (Sum.inl y2)))
def impl_SendsF (n : Nat) (x0 : Int) (x1 : (List Pt)) : Option (Int) :=
  ((impl_Sends_L2 n n x0 x1 0 0).bind fun o => match o with | .inl y3 => (impl_Sends_J1 n y3) | .inr r => some r)
/-- loop.example/g00326/impl.Sends -/
theorem impl_Sends (n : Nat) (x0 : Int) (x1 : (List Pt)) (r : Int) (H : impl_SendsF n x0 x1 = some r) : LCall Try.prog 149 [.val false [.lit (.int .i64 x0)], .val false [.sl false 8 (CV.frzEs (x1.map Pt.row))]] [.val false [.lit (.int .i64 r)]] [] := by
  refine LCall.of_body tOk Try.func149 rfl (c := (.seq (.region 0 (rg Try.f149 0) false) (.seq (.region 1 (rg Try.f149 1) false) (.seq (.seq (.region 2 (rg Try.f149 2) false) (.block 0 (.loop (.seq (.seq (.region 3 (rg Try.f149 3) false) (.cond (.tmp 15) .skip (.exit 0))) (.seq (.block 1 (.seq (.region 5 (rg Try.f149 5) false) (.seq (.region 6 (rg Try.f149 6) false) (.cond (.tmp 27) (.region 7 (rg Try.f149 7) false) .skip)))) (.region 4 (rg Try.f149 4) false)))))) (.seq (.region 8 (rg Try.f149 8) false) .ret))))) kr (Nat.le_of_ble_eq_true kr) 0 (rs := [.tmp 4]) rfl [] .nil [(false, [.lit (.int .i64 r)])] [] [] fun cx => ?_
  show Tr _ _ _ ⟨33, 0, [sI 0 x0, sC 1 (cF 8 x1 Pt.row)], []⟩ _
  unfold impl_SendsF at H
  refine Tr.rs ?_
  refine LAt.runU tOk 1 kr ?_
  refine LAt.doneM 19 0 kr ?_
  refine Tr.rs ?_
  refine LAt.runU tOk 1 kr ?_
  refine LAt.doneM 51 0 kr ?_
  refine Tr.seq ?_
  refine Tr.rs ?_
  refine LAt.runU tOk 1 kr ?_
  refine LAt.doneM 115 0 kr ?_
  obtain ⟨o4, eo4, Ho4⟩ := bind_some H
  clear H
  refine Tr.mid (ι := Int) (fun v => ⟨33, 0, [sI 5 v, sI 4 0], []⟩) (fun v => impl_Sends_J1 n v = some r) ?_ ?_
  · refine Tr.block ?_
    refine Tr.loop (ι := Nat × (Int × Int)) (fun v => ⟨33, 0, [sI 6 v.2.1, sI 5 v.2.2, sI 4 0, sI 0 x0, sC 1 (cF 8 x1 Pt.row)], []⟩) (fun v => impl_Sends_L2 n v.1 x0 x1 v.2.1 v.2.2 = some o4) (fun v => v.1) (n, (0, 0)) eo4 (St.sub_of [6, 5, 4, 0, 1] [] kr) ?_
    rintro ⟨mo4, y1, y2⟩ H
    have H : impl_Sends_L2 n mo4 x0 x1 y1 y2 = some o4 := H
    obtain _ | mo4 := mo4
    · cases (show (none : Option _) = some o4 from H)
    · rw [impl_Sends_L2] at H
      refine Tr.seq ?_
      refine Tr.rs ?_
      refine LAt.runU tOk 2 kr ?_
      refine LAt.lenE tOk (t := 55) (ty := 3) (e := 114) (x := (.tmp 9)) (d := 10) (g := none) ⟨(.slot 9), [], 0, false, 8, (CV.frzEs (x1.map Pt.row))⟩ (x1).length _ kr kr kr kr kr (frz_len _ _) rfl ?_
      refine LAt.runU tOk 2 kr ?_
      refine LAt.to ⟨33, 0, [sB 12 (decide (y1 < (x1.length : Int))), sB 11 (decide (y1 < (x1.length : Int))), sI 10 (x1.length : Int), sC 9 (cF 8 x1 Pt.row), sI 8 y1, sI 6 y1, sI 5 y2, sI 4 0, sI 0 x0, sC 1 (cF 8 x1 Pt.row)], []⟩ kr ?_
      cases h1 : (decide (y1 < (x1.length : Int)))
      · have H := bifF h1 H
        refine LAt.runU tOk 3 kr ?_
        refine LAt.doneM 65395 0 kr ?_
        refine Tr.cond (b := false) kr (fun h => nomatch h) (fun _ => ?_)
        refine Tr.exit ?_
        refine And.intro (fun _ => ?_) (fun h => absurd rfl h)
        have H := Option.some.inj H
        subst H
        have H := Ho4
        dsimp only at H
        exact Exists.intro y2 (And.intro H (St.sub_of [5, 4] [] kr))
      · have H := bifT h1 H
        refine LAt.runU tOk 3 kr ?_
        refine LAt.doneM 65395 0 kr ?_
        refine Tr.to ⟨33, 0, [sB 15 (decide (y1 < 6)), sB 14 (decide (y1 < 6)), sI 13 y1, sB 12 true, sB 11 true, sI 10 (x1.length : Int), sC 9 (cF 8 x1 Pt.row), sI 8 y1, sI 6 y1, sI 5 y2, sI 4 0, sI 0 x0, sC 1 (cF 8 x1 Pt.row)], []⟩ kr ?_
        cases h2 : (decide (y1 < 6))
        · have H := bifF h2 H
          refine Tr.cond (b := false) kr (fun h => nomatch h) (fun _ => ?_)
          refine Tr.exit ?_
          refine And.intro (fun _ => ?_) (fun h => absurd rfl h)
          have H := Option.some.inj H
          subst H
          have H := Ho4
          dsimp only at H
          exact Exists.intro y2 (And.intro H (St.sub_of [5, 4] [] kr))
        · have H := bifT h2 H
          refine Tr.cond (b := true) kr (fun _ => ?_) (fun h => nomatch h)
          refine Tr.skip ?_
          show Tr _ _ _ _ _
          refine Tr.seq ?_
          refine Tr.block ?_
          refine Tr.rs ?_
          refine LAt.runU tOk 3 kr ?_
          obtain ⟨r5, er5, H⟩ := bind_some H
          refine LAt.callU tOk [.rd, .rd, .rd] (f := 172) (av := #[.tmp 18, .tmp 19, .tmp 20]) (ats := #[3, 55, 3]) (d := (some 21)) (ty := 3) (g := none) kr kr kr [] (impl_RoleOf n x0 x1 y1 r5 er5) kr (.inl rfl) ?_
          refine LAt.runU tOk 1 kr ?_
          refine LAt.doneM 3997683 0 kr ?_
          refine Tr.rs ?_
          refine LAt.runU tOk 3 kr ?_
          refine LAt.to ⟨33, 0, [sB 24 (r5 == 1), sB 23 (r5 == 1), sI 22 r5, sI 7 r5, sI 21 r5, sI 20 y1, sC 19 (cF 8 x1 Pt.row), sI 18 x0, sB 15 true, sB 14 true, sI 13 y1, sB 12 true, sB 11 true, sI 10 (x1.length : Int), sC 9 (cF 8 x1 Pt.row), sI 8 y1, sI 6 y1, sI 5 y2, sI 4 0, sI 0 x0, sC 1 (cF 8 x1 Pt.row)], []⟩ kr ?_
          cases h3 : (r5 == 1)
          · have H := bifF h3 H
            refine LAt.runU tOk 3 kr ?_
            refine LAt.doneM 268238835 0 kr ?_
            refine Tr.to ⟨33, 0, [sB 27 (r5 == 2), sB 26 (r5 == 2), sI 25 r5, sB 24 false, sB 23 false, sI 22 r5, sI 7 r5, sI 21 r5, sI 20 y1, sC 19 (cF 8 x1 Pt.row), sI 18 x0, sB 15 true, sB 14 true, sI 13 y1, sB 12 true, sB 11 true, sI 10 (x1.length : Int), sC 9 (cF 8 x1 Pt.row), sI 8 y1, sI 6 y1, sI 5 y2, sI 4 0, sI 0 x0, sC 1 (cF 8 x1 Pt.row)], []⟩ kr ?_
            cases h4 : (r5 == 2)
            · have H := bifF h4 H
              refine Tr.cond (b := false) kr (fun h => nomatch h) (fun _ => ?_)
              refine Tr.skip ?_
              show Tr _ _ _ _ _
              refine Tr.at ?_
              refine LAt.runU tOk 3 kr ?_
              refine LAt.doneM 268435443 0 kr ?_
              exact Exists.intro (mo4, ((IntKind.wrap .i64 (y1 + 1)), y2)) (And.intro H (And.intro (Nat.lt_succ_self mo4) (St.sub_of [6, 5, 4, 0, 1] [] kr)))
            · have H := bifT h4 H
              refine Tr.cond (b := true) kr (fun _ => ?_) (fun h => nomatch h)
              refine Tr.at ?_
              refine LAt.runU tOk 2 kr ?_
              obtain ⟨hg6, H⟩ := guard_some H
              refine LAt.binC tOk (op := .shl) (t := 3) (ty := 3) (ty' := 3) (x := (.const (.int .i64 1))) (y := (.tmp 29)) (d := 30) (g := none) (.int .i64 1) (.int .i64 y1) (.int .i64 (IntKind.wrap .i64 (1 * 2 ^ min ((y1 : Int)).toNat (IntKind.bits .i64)))) _ kr kr kr kr kr (φ := (0 : Int) ≤ y1) kr (of_decide_eq_true hg6) rfl ?_
              refine LAt.runU tOk 2 kr ?_
              refine LAt.doneM 4294770675 0 kr ?_
              show Tr _ _ _ _ _
              refine Tr.at ?_
              refine LAt.runU tOk 3 kr ?_
              refine LAt.doneM 4294967283 0 kr ?_
              exact Exists.intro (mo4, ((IntKind.wrap .i64 (y1 + 1)), (IntKind.wrap .i64 (BitVec.ofInt (IntKind.bits .i64) y2 ||| BitVec.ofInt (IntKind.bits .i64) (IntKind.wrap .i64 (1 * 2 ^ min ((y1 : Int)).toNat (IntKind.bits .i64)))).toNat))) (And.intro H (And.intro (Nat.lt_succ_self mo4) (St.sub_of [6, 5, 4, 0, 1] [] kr)))
          · have H := bifT h3 H
            refine LAt.runU tOk 3 kr ?_
            refine LAt.doneM 268238835 0 kr ?_
            refine Tr.cond (b := true) kr (fun _ => ?_) (fun h => nomatch h)
            refine Tr.at ?_
            refine LAt.runU tOk 2 kr ?_
            obtain ⟨hg7, H⟩ := guard_some H
            refine LAt.binC tOk (op := .shl) (t := 3) (ty := 3) (ty' := 3) (x := (.const (.int .i64 1))) (y := (.tmp 29)) (d := 30) (g := none) (.int .i64 1) (.int .i64 y1) (.int .i64 (IntKind.wrap .i64 (1 * 2 ^ min ((y1 : Int)).toNat (IntKind.bits .i64)))) _ kr kr kr kr kr (φ := (0 : Int) ≤ y1) kr (of_decide_eq_true hg7) rfl ?_
            refine LAt.runU tOk 2 kr ?_
            refine LAt.doneM 4294770675 0 kr ?_
            show Tr _ _ _ _ _
            refine Tr.at ?_
            refine LAt.runU tOk 3 kr ?_
            refine LAt.doneM 4294967283 0 kr ?_
            exact Exists.intro (mo4, ((IntKind.wrap .i64 (y1 + 1)), (IntKind.wrap .i64 (BitVec.ofInt (IntKind.bits .i64) y2 ||| BitVec.ofInt (IntKind.bits .i64) (IntKind.wrap .i64 (1 * 2 ^ min ((y1 : Int)).toNat (IntKind.bits .i64)))).toNat))) (And.intro H (And.intro (Nat.lt_succ_self mo4) (St.sub_of [6, 5, 4, 0, 1] [] kr)))
  · rintro y3 H
    have H : (impl_Sends_J1 n y3) = some r := H
    unfold impl_Sends_J1 at H
    show Tr _ _ _ _ _
    refine Tr.rs ?_
    refine LAt.runU tOk 2 kr ?_
    refine LAt.doneM 16 0 kr ?_
    refine Tr.ret ?_
    have H := Option.some.inj H
    subst H
    exact Fin.of _ [(false, [cI y3])] kr rfl rfl

def impl_hasPortF (n : Nat) (x0 : Int) (x1 : Int) : Option (Bool) :=
  ((impl_inF n x1 0 62).bind fun r1 => (bif r1 then (bif (decide ((0 : Int) ≤ x1)) then (some ((IntKind.wrap .i64 (BitVec.ofInt (IntKind.bits .i64) (Int.fdiv x0 (2 ^ min ((x1 : Int)).toNat (IntKind.bits .i64))) &&& BitVec.ofInt (IntKind.bits .i64) 1).toNat) == 1)) else none) else (some false)))
/-- loop.example/g00326/impl.hasPort -/
theorem impl_hasPort (n : Nat) (x0 : Int) (x1 : Int) (r : Bool) (H : impl_hasPortF n x0 x1 = some r) : LCall Try.prog 148 [.val false [.lit (.int .i64 x0)], .val false [.lit (.int .i64 x1)]] [.val false [.lit (.bool r)]] [] := by
  refine LCall.of_body tOk Try.func148 rfl (c := (.seq (.region 0 (rg Try.f148 0) false) (.seq (.region 1 (rg Try.f148 1) false) .ret))) kr (Nat.le_of_ble_eq_true kr) 0 (rs := [.tmp 4]) rfl [] .nil [(false, [.lit (.bool r)])] [] [] fun cx => ?_
  show Tr _ _ _ ⟨14, 0, [sI 0 x0, sI 1 x1], []⟩ _
  unfold impl_hasPortF at H
  refine Tr.rs ?_
  refine LAt.runU tOk 1 kr ?_
  refine LAt.doneM 19 0 kr ?_
  refine Tr.rs ?_
  refine LAt.runU tOk 1 kr ?_
  obtain ⟨r1, er1, H⟩ := bind_some H
  refine LAt.callU tOk [.rd, .rd, .rd] (f := 70) (av := #[.tmp 5, .const (.int .i64 0), .const (.int .i64 62)]) (ats := #[3, 3, 3]) (d := (some 6)) (ty := 4) (g := none) kr kr kr [] (impl_in n x1 0 62 r1 er1) kr (.inl rfl) ?_
  refine LAt.runU tOk 1 kr ?_
  refine LAt.to ⟨14, 0, [sB 7 r1, sB 6 r1, sI 5 x1, sB 4 false, sI 0 x0, sI 1 x1], []⟩ kr ?_
  cases h1 : r1
  · have H := bifF h1 H
    refine LAt.runU tOk 7 kr ?_
    refine LAt.doneM 16 0 kr ?_
    refine Tr.ret ?_
    have H := Option.some.inj H
    subst H
    exact Fin.of _ [(false, [cB false])] kr rfl rfl
  · have H := bifT h1 H
    refine LAt.runU tOk 2 kr ?_
    obtain ⟨hg2, H⟩ := guard_some H
    refine LAt.binC tOk (op := .shr) (t := 3) (ty := 3) (ty' := 3) (x := (.tmp 8)) (y := (.tmp 9)) (d := 10) (g := (some (2, true))) (.int .i64 x0) (.int .i64 x1) (.int .i64 (Int.fdiv x0 (2 ^ min ((x1 : Int)).toNat (IntKind.bits .i64)))) _ kr kr kr kr kr (φ := (0 : Int) ≤ x1) kr (of_decide_eq_true hg2) rfl ?_
    refine LAt.runU tOk 4 kr ?_
    refine LAt.doneM 16 0 kr ?_
    refine Tr.ret ?_
    have H := Option.some.inj H
    subst H
    exact Fin.of _ [(false, [cB ((IntKind.wrap .i64 (BitVec.ofInt (IntKind.bits .i64) (Int.fdiv x0 (2 ^ min ((x1 : Int)).toNat (IntKind.bits .i64))) &&& BitVec.ofInt (IntKind.bits .i64) 1).toNat) == 1)])] kr rfl rfl

def impl_FlushPort_J1 (n : Nat) (y3 : (List Fent)) : Option ((List Fent)) :=
  (some y3)
def impl_FlushPort_L2 (n : Nat) : Nat → (List Fent) → Int → Int → (List Fent) → Option (((List Fent)) ⊕ ((List Fent)))
  | 0, _, _, _, _ => none
  | mo4 + 1, x0, x1, y1, y2 => (bif (decide (y1 < (x0.length : Int))) then ((idx x0 y1).bind fun v5 => (bif v5.Static then (bif (decide (y2.length + [v5].length ≤ 268435456)) then (impl_FlushPort_L2 n mo4 x0 x1 (IntKind.wrap .i64 (y1 + 1)) (y2 ++ [v5])) else none) else (bif (v5.Port != x1) then (bif (decide (y2.length + [v5].length ≤ 268435456)) then (impl_FlushPort_L2 n mo4 x0 x1 (IntKind.wrap .i64 (y1 + 1)) (y2 ++ [v5])) else none) else (impl_FlushPort_L2 n mo4 x0 x1 (IntKind.wrap .i64 (y1 + 1)) y2)))) else (some (Sum.inl y2)))
def impl_FlushPortF (n : Nat) (x0 : (List Fent)) (x1 : Int) : Option ((List Fent)) :=
  ((impl_FlushPort_L2 n n x0 x1 0 ([] : List Fent)).bind fun o => match o with | .inl y3 => (impl_FlushPort_J1 n y3) | .inr r => some r)
/-- loop.example/g00326/impl.FlushPort -/
theorem impl_FlushPort (n : Nat) (x0 : (List Fent)) (x1 : Int) (r : (List Fent)) (H : impl_FlushPortF n x0 x1 = some r) : LCall Try.prog 160 [.val false [.sl false 5 (CV.frzEs (x0.map Fent.row))], .val false [.lit (.int .i64 x1)]] [.val false [.sl true 5 (r.map Fent.row)]] [] := by
  refine LCall.of_body tOk Try.func160 rfl (c := (.seq (.region 0 (rg Try.f160 0) false) (.seq (.region 1 (rg Try.f160 1) false) (.seq (.seq (.region 2 (rg Try.f160 2) false) (.block 0 (.loop (.seq (.region 3 (rg Try.f160 3) false) (.seq (.cond (.tmp 11) .skip (.exit 0)) (.seq (.block 1 (.seq (.region 4 (rg Try.f160 4) false) (.seq (.region 5 (rg Try.f160 5) false) (.cond (.tmp 21) (.region 6 (rg Try.f160 6) false) .skip)))) (.region 7 (rg Try.f160 7) false))))))) (.seq (.region 8 (rg Try.f160 8) false) .ret))))) kr (Nat.le_of_ble_eq_true kr) 0 (rs := [.tmp 4]) rfl [] .nil [(false, [.sl true 5 (r.map Fent.row)])] [] [] fun cx => ?_
  show Tr _ _ _ ⟨28, 0, [sC 0 (cF 5 x0 Fent.row), sI 1 x1], []⟩ _
  unfold impl_FlushPortF at H
  refine Tr.rs ?_
  refine LAt.runU tOk 1 kr ?_
  refine LAt.doneM 19 0 kr ?_
  refine Tr.rs ?_
  refine LAt.runU tOk 1 kr ?_
  refine LAt.doneM 51 0 kr ?_
  refine Tr.seq ?_
  refine Tr.rs ?_
  refine LAt.runU tOk 1 kr ?_
  refine LAt.lenE tOk (t := 56) (ty := 3) (e := 141) (x := (.tmp 8)) (d := 9) (g := none) ⟨(.slot 8), [], 0, false, 5, (CV.frzEs (x0.map Fent.row))⟩ (x0).length _ kr kr kr kr kr (frz_len _ _) rfl ?_
  refine LAt.runU tOk 1 kr ?_
  refine LAt.doneM 1842 0 kr ?_
  obtain ⟨o4, eo4, Ho4⟩ := bind_some H
  clear H
  refine Tr.mid (ι := (List Fent)) (fun v => ⟨28, 0, [sC 5 (cL 5 v Fent.row), sC 4 (cL 5 ([] : List Fent) Fent.row)], []⟩) (fun v => impl_FlushPort_J1 n v = some r) ?_ ?_
  · refine Tr.block ?_
    refine Tr.loop (ι := Nat × (Int × (List Fent))) (fun v => ⟨28, 0, [sI 10 v.2.1, sI 9 (x0.length : Int), sC 8 (cF 5 x0 Fent.row), sC 5 (cL 5 v.2.2 Fent.row), sC 4 (cL 5 ([] : List Fent) Fent.row), sI 1 x1], []⟩) (fun v => impl_FlushPort_L2 n v.1 x0 x1 v.2.1 v.2.2 = some o4) (fun v => v.1) (n, (0, ([] : List Fent))) eo4 (St.sub_of [10, 9, 8, 5, 4, 1] [] kr) ?_
    rintro ⟨mo4, y1, y2⟩ H
    have H : impl_FlushPort_L2 n mo4 x0 x1 y1 y2 = some o4 := H
    obtain _ | mo4 := mo4
    · cases (show (none : Option _) = some o4 from H)
    · rw [impl_FlushPort_L2] at H
      refine Tr.rs ?_
      refine LAt.runU tOk 1 kr ?_
      refine LAt.doneM 3890 0 kr ?_
      refine Tr.seq ?_
      refine Tr.to ⟨28, 0, [sB 11 (decide (y1 < (x0.length : Int))), sI 10 y1, sI 9 (x0.length : Int), sC 8 (cF 5 x0 Fent.row), sC 5 (cL 5 y2 Fent.row), sC 4 (cL 5 ([] : List Fent) Fent.row), sI 1 x1], []⟩ kr ?_
      cases h1 : (decide (y1 < (x0.length : Int)))
      · have H := bifF h1 H
        refine Tr.cond (b := false) kr (fun h => nomatch h) (fun _ => ?_)
        refine Tr.exit ?_
        refine And.intro (fun _ => ?_) (fun h => absurd rfl h)
        have H := Option.some.inj H
        subst H
        have H := Ho4
        dsimp only at H
        exact Exists.intro y2 (And.intro H (St.sub_of [5, 4] [] kr))
      · have H := bifT h1 H
        refine Tr.cond (b := true) kr (fun _ => ?_) (fun h => nomatch h)
        refine Tr.skip ?_
        show Tr _ _ _ _ _
        refine Tr.seq ?_
        refine Tr.block ?_
        refine Tr.rs ?_
        obtain ⟨v5, ev5, H⟩ := bind_some H
        refine LAt.indexF tOk (t := 56) (ty := 0) (x := (.tmp 8)) (y := (.tmp 10)) (d := 12) (g := none) ⟨(.slot 8), [], 0, false, 5, (CV.frzEs (x0.map Fent.row))⟩ y1 (Fent.row v5) _ kr kr kr kr rfl (idx_isF ev5) rfl ?_
        refine LAt.runU tOk 3 kr ?_
        refine LAt.doneM 16306 128 kr ?_
        refine Tr.seq ?_
        refine Tr.at ?_
        refine LAt.runU tOk 3 kr ?_
        refine LAt.to ⟨28, 0, [sB 16 v5.Static, sB 15 v5.Static, sA 14 7 5 4, sA 7 7 5 0, sV 13 (Fent.row v5), (12, .fad ((Fent.row v5))), sB 11 true, sI 10 y1, sI 9 (x0.length : Int), sC 8 (cF 5 x0 Fent.row), sC 5 (cL 5 y2 Fent.row), sC 4 (cL 5 ([] : List Fent) Fent.row), sI 1 x1], [(7, (Fent.row v5))]⟩ kr ?_
        cases h2 : v5.Static
        · have H := bifF h2 H
          refine LAt.runU tOk 5 kr ?_
          refine LAt.doneM 4194226 128 kr ?_
          show Tr _ _ _ _ _
          refine Tr.to ⟨28, 0, [sB 21 (v5.Port != x1), sB 20 (v5.Port != x1), sI 19 x1, sI 18 v5.Port, sA 17 7 5 2, sB 16 false, sB 15 false, sA 14 7 5 4, sA 7 7 5 0, sV 13 (Fent.row v5), (12, .fad ((Fent.row v5))), sB 11 true, sI 10 y1, sI 9 (x0.length : Int), sC 8 (cF 5 x0 Fent.row), sC 5 (cL 5 y2 Fent.row), sC 4 (cL 5 ([] : List Fent) Fent.row), sI 1 x1], [(7, (Fent.row v5))]⟩ kr ?_
          cases h3 : (v5.Port != x1)
          · have H := bifF h3 H
            refine Tr.cond (b := false) kr (fun h => nomatch h) (fun _ => ?_)
            refine Tr.skip ?_
            show Tr _ _ _ _ _
            refine Tr.at ?_
            refine LAt.runU tOk 2 kr ?_
            refine LAt.doneM 71303090 128 kr ?_
            exact Exists.intro (mo4, ((IntKind.wrap .i64 (y1 + 1)), y2)) (And.intro H (And.intro (Nat.lt_succ_self mo4) (St.sub_of [10, 9, 8, 5, 4, 1] [] kr)))
          · have H := bifT h3 H
            refine Tr.cond (b := true) kr (fun _ => ?_) (fun h => nomatch h)
            refine Tr.at ?_
            refine LAt.runU tOk 3 kr ?_
            obtain ⟨hg6, H⟩ := guard_some H
            refine LAt.appMU tOk (t := 56) (ty := 56) (e := 141) (x := (.tmp 22)) (y := (.tmp 24)) (d := 25) (g := none) ⟨.st [(0, 1, 3), (1, 1, 3), (2, 1, 3), (3, 1, 3), (4, 1, 4)], 5, 40, [.lit (.int .i64 0), .lit (.int .i64 0), .lit (.int .i64 0), .lit (.int .i64 0), .lit (.bool false)]⟩ Fent.row y2 [v5] kr kr kr kr kr kr kr kr kr kr hg6 ?_
            refine LAt.moveU (T := lk tab) (ty := 56) (x := (.tmp 25)) (d := 5) (g := none) false [cL 5 (y2 ++ [v5]) Fent.row] kr kr kr kr kr ?_
            refine LAt.doneM 12582834 128 kr ?_
            show Tr _ _ _ _ _
            refine Tr.at ?_
            refine LAt.runU tOk 2 kr ?_
            refine LAt.doneM 79691698 128 kr ?_
            exact Exists.intro (mo4, ((IntKind.wrap .i64 (y1 + 1)), (y2 ++ [v5]))) (And.intro H (And.intro (Nat.lt_succ_self mo4) (St.sub_of [10, 9, 8, 5, 4, 1] [] kr)))
        · have H := bifT h2 H
          refine LAt.runU tOk 5 kr ?_
          refine LAt.doneM 4194226 128 kr ?_
          show Tr _ _ _ _ _
          refine Tr.cond (b := true) kr (fun _ => ?_) (fun h => nomatch h)
          refine Tr.at ?_
          refine LAt.runU tOk 3 kr ?_
          obtain ⟨hg7, H⟩ := guard_some H
          refine LAt.appMU tOk (t := 56) (ty := 56) (e := 141) (x := (.tmp 22)) (y := (.tmp 24)) (d := 25) (g := none) ⟨.st [(0, 1, 3), (1, 1, 3), (2, 1, 3), (3, 1, 3), (4, 1, 4)], 5, 40, [.lit (.int .i64 0), .lit (.int .i64 0), .lit (.int .i64 0), .lit (.int .i64 0), .lit (.bool false)]⟩ Fent.row y2 [v5] kr kr kr kr kr kr kr kr kr kr hg7 ?_
          refine LAt.moveU (T := lk tab) (ty := 56) (x := (.tmp 25)) (d := 5) (g := none) false [cL 5 (y2 ++ [v5]) Fent.row] kr kr kr kr kr ?_
          refine LAt.doneM 12582834 128 kr ?_
          show Tr _ _ _ _ _
          refine Tr.at ?_
          refine LAt.runU tOk 2 kr ?_
          refine LAt.doneM 79691698 128 kr ?_
          exact Exists.intro (mo4, ((IntKind.wrap .i64 (y1 + 1)), (y2 ++ [v5]))) (And.intro H (And.intro (Nat.lt_succ_self mo4) (St.sub_of [10, 9, 8, 5, 4, 1] [] kr)))
  · rintro y3 H
    have H : (impl_FlushPort_J1 n y3) = some r := H
    unfold impl_FlushPort_J1 at H
    show Tr _ _ _ _ _
    refine Tr.rs ?_
    refine LAt.runU tOk 2 kr ?_
    refine LAt.doneM 48 0 kr ?_
    refine Tr.ret ?_
    have H := Option.some.inj H
    subst H
    exact Fin.of _ [(false, [cL 5 y3 Fent.row])] kr rfl rfl

def impl_Bridge_turn_J1 (n : Nat) (r1 : Int) (x0 : Bridge) (y5 : (List Fent)) : Option (Bridge) :=
  (some (⟨x0.Id, x0.Name, x0.Ports, y5, x0.V, x0.Ticks, x0.Parse, x0.Word, x0.Drops, r1⟩ : Bridge))
def impl_Bridge_turn_L2 (n : Nat) : Nat → Int → Bridge → Int → (List Fent) → Option (((List Fent)) ⊕ (Bridge))
  | 0, _, _, _, _ => none
  | mo6 + 1, r2, x0, y3, y4 => (bif (decide (y3 < (x0.Ports.length : Int))) then ((impl_hasPortF n r2 y3).bind fun r7 => (bif (!r7) then ((impl_FlushPortF n y4 y3).bind fun r8 => (impl_Bridge_turn_L2 n mo6 r2 x0 (IntKind.wrap .i64 (y3 + 1)) r8)) else (impl_Bridge_turn_L2 n mo6 r2 x0 (IntKind.wrap .i64 (y3 + 1)) y4))) else (some (Sum.inl y4)))
def impl_Bridge_turnF (n : Nat) (x0 : Bridge) : Option (Bridge) :=
  ((impl_moreF n x0.Vers).bind fun r1 => ((impl_SendsF n x0.Id x0.Ports).bind fun r2 => ((impl_Bridge_turn_L2 n n r2 x0 0 x0.F).bind fun o => match o with | .inl y5 => (impl_Bridge_turn_J1 n r1 x0 y5) | .inr r => some r)))
/-- (*loop.example/g00326/impl.Bridge).turn -/
theorem impl_Bridge_turn (n : Nat) (x0 : Bridge) (r : Bridge) (H : impl_Bridge_turnF n x0 = some r) : LCall Try.prog 105 [.ptr (Bridge.row x0)] [] [(0, (Bridge.row r))] := by
  refine LCall.of_body tOk Try.func105 rfl (c := (.seq (.region 0 (rg Try.f105 0) false) (.seq (.region 1 (rg Try.f105 1) true) (.seq (.region 2 (rg Try.f105 2) false) (.block 0 (.loop (.seq (.region 3 (rg Try.f105 3) false) (.seq (.cond (.tmp 27) .skip (.exit 0)) (.seq (.block 1 (.seq (.region 4 (rg Try.f105 4) false) (.seq (.region 5 (rg Try.f105 5) false) (.cond (.tmp 32) (.region 6 (rg Try.f105 6) false) .skip)))) (.region 7 (rg Try.f105 7) false)))))))))) kr (Nat.le_of_ble_eq_true kr) 1 (rs := []) rfl [] .nil [] [] [(0, (Bridge.row r))] fun cx => ?_
  show Tr _ _ _ ⟨43, 1, [sA 0 0 11 0], [(0, (Bridge.row x0))]⟩ _
  unfold impl_Bridge_turnF at H
  refine Tr.rs ?_
  refine LAt.runU tOk 5 kr ?_
  obtain ⟨r1, er1, H⟩ := bind_some H
  refine LAt.callU tOk [.rd] (f := 118) (av := #[.tmp 8]) (ats := #[3]) (d := (some 9)) (ty := 3) (g := none) kr kr kr [] (impl_more n x0.Vers r1 er1) kr (.inl rfl) ?_
  refine LAt.runU tOk 3 kr ?_
  refine LAt.doneM 1 1 kr ?_
  obtain ⟨r2, er2, H⟩ := bind_some H
  refine Tr.draws mixed 10 kr ⟨43, 1, [sI 2 r2, sA 0 0 11 0], [(0, [cI x0.Id, cS x0.Name, cL 8 x0.Ports Pt.row, cL 5 x0.F Fent.row, cL 3 x0.V.Rows Vrow.row, cL 1 x0.V.Pvid intRow, cI x0.Ticks, cI x0.Parse, cI x0.Word, cI x0.Drops, cI r1])]⟩ (fun cx => ?_) ?_
  · refine AT.runU tOk [(0, []), (1, []), (2, []), (3, [8]), (4, []), (5, []), (6, []), (7, [8])] 2 [⟨[8], 55, 18, 19⟩, ⟨[8], 3, 14, 15⟩] [7, 6, 5, 4, 3, 2, 1, 0] rfl kr (fun cx => ?_)
    refine AT.big1 tOk 8 kr kr ?_
    refine LAt.callU tOk [.rd, .rd] (f := 149) (av := #[.tmp 15, .tmp 19]) (ats := #[3, 55]) (d := (some 20)) (ty := 3) (g := none) kr kr kr [.box 0] (impl_Sends n x0.Id x0.Ports r2 er2) kr (.inr (rets_cons (mine_cons mine_lit mine_nil) rets_nil)) ?_
    refine LAt.fin kr (And.intro (And.intro kr kr) ?_)
    refine AT.runU tOk [(9, [])] 0 [⟨[8], 55, 18, 19⟩, ⟨[8], 3, 14, 15⟩] [9, 8, 7, 6, 5, 4, 3, 2, 1, 0] rfl kr (fun cx => ?_)
    exact AT.done [2, 0] [0] _ kr kr rfl
  · refine Tr.rs ?_
    refine LAt.runU tOk 4 kr ?_
    refine LAt.lenE tOk (t := 55) (ty := 3) (e := 114) (x := (.tmp 24)) (d := 25) (g := none) ⟨(.box 0), [(0, 0)], 2, true, 8, (x0.Ports.map Pt.row)⟩ (x0.Ports).length _ kr kr kr kr kr (map_len _ _) rfl ?_
    refine LAt.runU tOk 1 kr ?_
    refine LAt.doneM 100663301 1 kr ?_
    obtain ⟨o6, eo6, Ho6⟩ := bind_some H
    clear H
    refine Tr.mid (ι := (List Fent)) (fun v => ⟨43, 1, [sA 0 0 11 0], [(0, [cI x0.Id, cS x0.Name, cL 8 x0.Ports Pt.row, cL 5 v Fent.row, cL 3 x0.V.Rows Vrow.row, cL 1 x0.V.Pvid intRow, cI x0.Ticks, cI x0.Parse, cI x0.Word, cI x0.Drops, cI r1])]⟩) (fun v => impl_Bridge_turn_J1 n r1 x0 v = some r) ?_ ?_
    · refine Tr.block ?_
      refine Tr.loop (ι := Nat × (Int × (List Fent))) (fun v => ⟨43, 1, [sI 26 v.2.1, sI 25 (x0.Ports.length : Int), sI 2 r2, sA 0 0 11 0], [(0, [cI x0.Id, cS x0.Name, cL 8 x0.Ports Pt.row, cL 5 v.2.2 Fent.row, cL 3 x0.V.Rows Vrow.row, cL 1 x0.V.Pvid intRow, cI x0.Ticks, cI x0.Parse, cI x0.Word, cI x0.Drops, cI r1])]⟩) (fun v => impl_Bridge_turn_L2 n v.1 r2 x0 v.2.1 v.2.2 = some o6) (fun v => v.1) (n, (0, x0.F)) eo6 (St.sub_of [26, 25, 2, 0] [0] kr) ?_
      rintro ⟨mo6, y3, y4⟩ H
      have H : impl_Bridge_turn_L2 n mo6 r2 x0 y3 y4 = some o6 := H
      obtain _ | mo6 := mo6
      · cases (show (none : Option _) = some o6 from H)
      · rw [impl_Bridge_turn_L2] at H
        refine Tr.rs ?_
        refine LAt.runU tOk 1 kr ?_
        refine LAt.doneM 234881029 1 kr ?_
        refine Tr.seq ?_
        refine Tr.to ⟨43, 1, [sB 27 (decide (y3 < (x0.Ports.length : Int))), sI 26 y3, sI 25 (x0.Ports.length : Int), sI 2 r2, sA 0 0 11 0], [(0, [cI x0.Id, cS x0.Name, cL 8 x0.Ports Pt.row, cL 5 y4 Fent.row, cL 3 x0.V.Rows Vrow.row, cL 1 x0.V.Pvid intRow, cI x0.Ticks, cI x0.Parse, cI x0.Word, cI x0.Drops, cI r1])]⟩ kr ?_
        cases h1 : (decide (y3 < (x0.Ports.length : Int)))
        · have H := bifF h1 H
          refine Tr.cond (b := false) kr (fun h => nomatch h) (fun _ => ?_)
          refine Tr.exit ?_
          refine And.intro (fun _ => ?_) (fun h => absurd rfl h)
          have H := Option.some.inj H
          subst H
          have H := Ho6
          dsimp only at H
          exact Exists.intro y4 (And.intro H (St.sub_of [0] [0] kr))
        · have H := bifT h1 H
          refine Tr.cond (b := true) kr (fun _ => ?_) (fun h => nomatch h)
          refine Tr.skip ?_
          show Tr _ _ _ _ _
          refine Tr.seq ?_
          refine Tr.block ?_
          refine Tr.rs ?_
          refine LAt.runU tOk 2 kr ?_
          refine LAt.doneM 503316493 1 kr ?_
          refine Tr.rs ?_
          refine LAt.runU tOk 2 kr ?_
          obtain ⟨r7, er7, H⟩ := bind_some H
          refine LAt.callU tOk [.rd, .rd] (f := 148) (av := #[.tmp 29, .tmp 30]) (ats := #[3, 3]) (d := (some 31)) (ty := 4) (g := none) kr kr kr [] (impl_hasPort n r2 y3 r7 er7) kr (.inl rfl) ?_
          refine LAt.runU tOk 1 kr ?_
          refine LAt.doneM 8556380173 1 kr ?_
          refine Tr.to ⟨43, 1, [sB 32 (!r7), sB 31 r7, sI 30 y3, sI 29 r2, sI 3 y3, sI 28 y3, sB 27 true, sI 26 y3, sI 25 (x0.Ports.length : Int), sI 2 r2, sA 0 0 11 0], [(0, [cI x0.Id, cS x0.Name, cL 8 x0.Ports Pt.row, cL 5 y4 Fent.row, cL 3 x0.V.Rows Vrow.row, cL 1 x0.V.Pvid intRow, cI x0.Ticks, cI x0.Parse, cI x0.Word, cI x0.Drops, cI r1])]⟩ kr ?_
          cases h2 : (!r7)
          · have H := bifF h2 H
            refine Tr.cond (b := false) kr (fun h => nomatch h) (fun _ => ?_)
            refine Tr.skip ?_
            show Tr _ _ _ _ _
            refine Tr.at ?_
            refine LAt.runU tOk 2 kr ?_
            refine LAt.doneM 4406602891277 1 kr ?_
            exact Exists.intro (mo6, ((IntKind.wrap .i64 (y3 + 1)), y4)) (And.intro H (And.intro (Nat.lt_succ_self mo6) (St.sub_of [26, 25, 2, 0] [0] kr)))
          · have H := bifT h2 H
            refine Tr.cond (b := true) kr (fun _ => ?_) (fun h => nomatch h)
            refine Tr.at ?_
            refine LAt.runU tOk 6 kr ?_
            obtain ⟨r8, er8, H⟩ := bind_some H
            refine LAt.callU tOk [.rd, .rd] (f := 160) (av := #[.tmp 37, .tmp 38]) (ats := #[56, 3]) (d := (some 39)) (ty := 56) (g := none) kr kr kr [.box 0] (impl_FlushPort n y4 y3 r8 er8) kr (.inr (rets_cons (mine_cons (mine_sl (mine_map Fent.row_mine _)) mine_nil) rets_nil)) ?_
            refine LAt.runU tOk 3 kr ?_
            refine LAt.doneM 3710818189325 1 kr ?_
            show Tr _ _ _ _ _
            refine Tr.at ?_
            refine LAt.runU tOk 2 kr ?_
            refine LAt.doneM 8108864700429 1 kr ?_
            exact Exists.intro (mo6, ((IntKind.wrap .i64 (y3 + 1)), r8)) (And.intro H (And.intro (Nat.lt_succ_self mo6) (St.sub_of [26, 25, 2, 0] [0] kr)))
    · rintro y5 H
      have H : (impl_Bridge_turn_J1 n r1 x0 y5) = some r := H
      unfold impl_Bridge_turn_J1 at H
      have H := Option.some.inj H
      subst H
      exact Fin.ofY _ [] [] _ [] _ [(0, [cI x0.Id, cS x0.Name, cL 8 x0.Ports Pt.row, cL 5 y5 Fent.row, cL 3 x0.V.Rows Vrow.row, cL 1 x0.V.Pvid intRow, cI x0.Ticks, cI x0.Parse, cI x0.Word, cI x0.Drops, cI r1])] kr rfl rfl rfl kr kr kr kr rfl rfl rfl

def impl_HearVec_J1 (n : Nat) (r1 : Bridge) (x1 : Int) (x2 : Vec) (y2 : Bool) : Option (Bridge) :=
  (bif y2 then ((idx r1.Ports x1).bind fun v3 => ((idx (r1.Ports.set (x1.toNat) (⟨v3.Up, v3.Cost, true, v3.Heard⟩ : Pt)) x1).bind fun v4 => ((impl_Bridge_turnF n (⟨r1.Id, r1.Name, ((r1.Ports.set (x1.toNat) (⟨v3.Up, v3.Cost, true, v3.Heard⟩ : Pt)).set (x1.toNat) (⟨v4.Up, v4.Cost, v4.Has, x2⟩ : Pt)), r1.F, r1.V, r1.Ticks, r1.Parse, r1.Word, r1.Drops, r1.Vers⟩ : Bridge)).bind fun r5 => (some r5)))) else (some r1))
def impl_HearVecF (n : Nat) (x0 : Bridge) (x1 : Int) (x2 : Vec) : Option (Bridge) :=
  ((impl_copyBridgeF n x0).bind fun r1 => ((impl_isPortF n x0 x1).bind fun r6 => (bif r6 then ((idx x0.Ports x1).bind fun v7 => (bif v7.Up then ((impl_VecOkF n x2).bind fun r8 => (impl_HearVec_J1 n r1 x1 x2 r8)) else (impl_HearVec_J1 n r1 x1 x2 false))) else (impl_HearVec_J1 n r1 x1 x2 false))))
/-- loop.example/g00326/impl.HearVec -/
theorem impl_HearVec (n : Nat) (x0 : Bridge) (x1 : Int) (x2 : Vec) (r : Bridge) (H : impl_HearVecF n x0 x1 x2 = some r) : LCall Try.prog 44 [.val true (CV.frzRow (Bridge.row x0)), .val false [.lit (.int .i64 x1)], .val true (CV.frzRow (Vec.row x2))] [.val true (Bridge.row r)] [] := by
  refine LCall.of_body tOk Try.func44 rfl (c := (.seq (.region 0 (rg Try.f44 0) false) (.seq (.region 1 (rg Try.f44 1) false) (.seq (.seq (.region 2 (rg Try.f44 2) false) (.cond (.tmp 24) (.seq (.region 3 (rg Try.f44 3) true) (.region 4 (rg Try.f44 4) false)) .skip)) (.seq (.region 5 (rg Try.f44 5) false) .ret))))) kr (Nat.le_of_ble_eq_true kr) 0 (rs := [.cell 6 61]) rfl [] .nil [(true, (Bridge.row r))] [] [] fun cx => ?_
  show Tr _ _ _ ⟨38, 0, [sV 0 (CV.frzRow (Bridge.row x0)), sI 1 x1, sV 2 (Vec.row x2)], []⟩ _
  unfold impl_HearVecF at H
  refine Tr.rs ?_
  refine LAt.runU tOk 3 kr ?_
  refine LAt.doneM 106 104 kr ?_
  refine Tr.rs ?_
  refine LAt.runU tOk 1 kr ?_
  obtain ⟨r1, er1, H⟩ := bind_some H
  refine LAt.callU tOk [.rd] (f := 103) (av := #[.tmp 8]) (ats := #[61]) (d := (some 9)) (ty := 61) (g := none) kr kr kr [] (impl_copyBridge n x0 r1 er1) kr (.inl rfl) ?_
  refine LAt.runU tOk 2 kr ?_
  refine LAt.doneM 234 232 kr ?_
  refine Tr.seq ?_
  refine Tr.seq ?_
  refine Tr.mid (ι := Bool) (fun v => ⟨38, 0, [sB 24 v, sA 7 7 11 0, sA 6 6 11 0, sA 5 5 5 0, sI 1 x1], [(7, (Bridge.row r1)), (6, [cI 0, cS (⟨#[]⟩ : ByteArray), cL 8 ([] : List Pt) Pt.row, cL 5 ([] : List Fent) Fent.row, cL 3 ([] : List Vrow) Vrow.row, cL 1 ([] : List Int) intRow, cI 0, cI 0, cI 0, cI 0, cI 0]), (5, (Vec.row x2))]⟩) (fun v => impl_HearVec_J1 n r1 x1 x2 v = some r) ?_ ?_
  · refine Tr.at ?_
    refine LAt.runU tOk 2 kr ?_
    obtain ⟨r6, er6, H⟩ := bind_some H
    refine LAt.callU tOk [.rd, .rd] (f := 104) (av := #[.tmp 10, .tmp 11]) (ats := #[61, 3]) (d := (some 12)) (ty := 4) (g := none) kr kr kr [] (impl_isPort n x0 x1 r6 er6) kr (.inl rfl) ?_
    refine LAt.runU tOk 1 kr ?_
    refine LAt.to ⟨38, 0, [sB 13 r6, sB 12 r6, sI 11 x1, sV 10 (CV.frzRow (Bridge.row x0)), sA 7 7 11 0, sA 6 6 11 0, sA 5 5 5 0, sA 3 3 11 0, sI 1 x1], [(7, (Bridge.row r1)), (6, [cI 0, cS (⟨#[]⟩ : ByteArray), cL 8 ([] : List Pt) Pt.row, cL 5 ([] : List Fent) Fent.row, cL 3 ([] : List Vrow) Vrow.row, cL 1 ([] : List Int) intRow, cI 0, cI 0, cI 0, cI 0, cI 0]), (5, (Vec.row x2)), (3, (CV.frzRow (Bridge.row x0)))]⟩ kr ?_
    cases h2 : r6
    · have H := bifF h2 H
      refine LAt.runU tOk 11 kr ?_
      refine LAt.doneM 16777442 224 kr ?_
      exact Exists.intro false (And.intro H (St.sub_of [24, 7, 6, 5, 1] [7, 6, 5] kr))
    · have H := bifT h2 H
      refine LAt.runU tOk 3 kr ?_
      obtain ⟨v7, ev7, H⟩ := bind_some H
      refine LAt.indexF tOk (t := 55) (ty := 0) (x := (.tmp 15)) (y := (.tmp 16)) (d := 17) (g := (some (3, true))) ⟨(.slot 15), [], 0, false, 8, (CV.frzEs (x0.Ports.map Pt.row))⟩ x1 (Pt.row v7) _ kr kr kr kr rfl (idx_isF ev7) rfl ?_
      refine LAt.runU tOk 4 kr ?_
      refine LAt.to ⟨38, 0, [sB 21 v7.Up, sB 20 v7.Up, sB 19 v7.Up, (18, .fad ((Pt.row v7))), (17, .fad ((Pt.row v7))), sI 16 x1, sC 15 (cF 8 x0.Ports Pt.row), sA 14 3 11 2, sB 13 true, sB 12 true, sI 11 x1, sV 10 (CV.frzRow (Bridge.row x0)), sA 7 7 11 0, sA 6 6 11 0, sA 5 5 5 0, sA 3 3 11 0, sI 1 x1], [(7, (Bridge.row r1)), (6, [cI 0, cS (⟨#[]⟩ : ByteArray), cL 8 ([] : List Pt) Pt.row, cL 5 ([] : List Fent) Fent.row, cL 3 ([] : List Vrow) Vrow.row, cL 1 ([] : List Int) intRow, cI 0, cI 0, cI 0, cI 0, cI 0]), (5, (Vec.row x2)), (3, (CV.frzRow (Bridge.row x0)))]⟩ kr ?_
      cases h3 : v7.Up
      · have H := bifF h3 H
        refine LAt.runU tOk 3 kr ?_
        refine LAt.doneM 16777442 224 kr ?_
        exact Exists.intro false (And.intro H (St.sub_of [24, 7, 6, 5, 1] [7, 6, 5] kr))
      · have H := bifT h3 H
        refine LAt.runU tOk 1 kr ?_
        obtain ⟨r8, er8, H⟩ := bind_some H
        refine LAt.callU tOk [.rd] (f := 90) (av := #[.tmp 22]) (ats := #[70]) (d := (some 23)) (ty := 4) (g := (some (11, true))) kr kr kr [] (impl_VecOk n x2 r8 er8) kr (.inl rfl) ?_
        refine LAt.runU tOk 1 kr ?_
        refine LAt.doneM 16777442 224 kr ?_
        exact Exists.intro r8 (And.intro H (St.sub_of [24, 7, 6, 5, 1] [7, 6, 5] kr))
  · rintro y2 H
    have H : (impl_HearVec_J1 n r1 x1 x2 y2) = some r := H
    unfold impl_HearVec_J1 at H
    show Tr _ _ _ _ _
    refine Tr.to ⟨38, 0, [sB 24 y2, sA 7 7 11 0, sA 6 6 11 0, sA 5 5 5 0, sI 1 x1], [(7, (Bridge.row r1)), (6, [cI 0, cS (⟨#[]⟩ : ByteArray), cL 8 ([] : List Pt) Pt.row, cL 5 ([] : List Fent) Fent.row, cL 3 ([] : List Vrow) Vrow.row, cL 1 ([] : List Int) intRow, cI 0, cI 0, cI 0, cI 0, cI 0]), (5, (Vec.row x2))]⟩ kr ?_
    cases h1 : y2
    · have H := bifF h1 H
      refine Tr.cond (b := false) kr (fun h => nomatch h) (fun _ => ?_)
      refine Tr.skip ?_
      show Tr _ _ _ _ _
      refine Tr.rs ?_
      refine LAt.runU tOk 2 kr ?_
      refine LAt.doneM 64 64 kr ?_
      refine Tr.ret ?_
      have H := Option.some.inj H
      subst H
      exact Fin.of _ [(true, (Bridge.row r1))] kr rfl rfl
    · have H := bifT h1 H
      refine Tr.cond (b := true) kr (fun _ => ?_) (fun h => nomatch h)
      obtain ⟨v3, ev3, H⟩ := bind_some H
      obtain ⟨v4, ev4, H⟩ := bind_some H
      refine Tr.draws mixed 13 kr ⟨38, 0, [sA 7 7 11 0, sA 6 6 11 0], [(7, [cI r1.Id, cS r1.Name, cL 8 ((r1.Ports.set (x1.toNat) (⟨v3.Up, v3.Cost, true, v3.Heard⟩ : Pt)).set (x1.toNat) (⟨v4.Up, v4.Cost, v4.Has, x2⟩ : Pt)) Pt.row, cL 5 r1.F Fent.row, cL 3 r1.V.Rows Vrow.row, cL 1 r1.V.Pvid intRow, cI r1.Ticks, cI r1.Parse, cI r1.Word, cI r1.Drops, cI r1.Vers]), (6, [cI 0, cS (⟨#[]⟩ : ByteArray), cL 8 ([] : List Pt) Pt.row, cL 5 ([] : List Fent) Fent.row, cL 3 ([] : List Vrow) Vrow.row, cL 1 ([] : List Int) intRow, cI 0, cI 0, cI 0, cI 0, cI 0])]⟩ (fun cx => ?_) ?_
      · refine AT.runU tOk [(0, []), (1, [9, 12]), (2, []), (3, []), (4, [9, 12]), (5, []), (6, [12])] 6 [⟨[12], 70, 5, 31⟩, ⟨[9, 12], 55, 28, 29⟩, ⟨[9, 12], 55, 25, 26⟩] [6, 5, 4, 3, 2, 1, 0] rfl kr (fun cx => ?_)
        refine AT.indexO tOk 7 (t := 55) (ty := 0) (x := (.tmp 26)) (y := (.tmp 27)) (d := 32) (g := none) ⟨(.box 7), [(0, 0)], 2, true, 8, (r1.Ports.map Pt.row)⟩ x1 (x1.toNat) (Pt.row v3) _ kr kr kr kr kr kr rfl kr (idx_isE ev3) rfl rfl (fun cx => ?_)
        refine AT.runU tOk [(8, [])] 4 [⟨[12], 70, 5, 31⟩, ⟨[9, 12], 55, 28, 29⟩, ⟨[9, 12], 55, 25, 26⟩] [8, 7, 6, 5, 4, 3, 2, 1, 0] rfl kr (fun cx => ?_)
        refine AT.big1 tOk 9 kr kr ?_
        refine LAt.storeK tOk (t := 4) (ty := 0) (ad := (.tmp 33)) (x := (.const (.bool true))) (g := none) ⟨.bool, 1, 1, [.lit (.bool false)]⟩ false [cB true] (.box 7) [(0, 0), (2, (x1.toNat))] [(2, (x1.toNat))] 8 2 [.sl true 11 [(Bridge.row r1)]] (Pt.row v3) (Bridge.row r1) [cI r1.Id, cS r1.Name, cL 8 (r1.Ports.set (x1.toNat) (⟨v3.Up, v3.Cost, true, v3.Heard⟩ : Pt)) Pt.row, cL 5 r1.F Fent.row, cL 3 r1.V.Rows Vrow.row, cL 1 r1.V.Pvid intRow, cI r1.Ticks, cI r1.Parse, cI r1.Word, cI r1.Drops, cI r1.Vers] kr kr kr kr kr kr (getQ_elemB rfl (idx_get ev3).2) rfl (by intro h; cases h) kr kr kr (modQ_elem (new := (⟨v3.Up, v3.Cost, true, v3.Heard⟩ : Pt)) rfl (idx_get ev3).2 rfl) kr ?_
        refine LAt.fin kr (And.intro (And.intro kr kr) ?_)
        refine AT.indexO tOk 10 (t := 55) (ty := 0) (x := (.tmp 29)) (y := (.tmp 30)) (d := 34) (g := none) ⟨(.box 7), [(0, 0)], 2, true, 8, ((r1.Ports.set (x1.toNat) (⟨v3.Up, v3.Cost, true, v3.Heard⟩ : Pt)).map Pt.row)⟩ x1 (x1.toNat) (Pt.row v4) _ kr kr kr kr kr kr rfl kr (idx_isE ev4) rfl rfl (fun cx => ?_)
        refine AT.runU tOk [(11, [])] 1 [⟨[12], 70, 5, 31⟩, ⟨[9, 12], 55, 28, 29⟩, ⟨[9, 12], 55, 25, 26⟩] [11, 10, 9, 8, 7, 6, 5, 4, 3, 2, 1, 0] rfl kr (fun cx => ?_)
        refine AT.big1 tOk 12 kr kr ?_
        refine LAt.storeK tOk (t := 70) (ty := 0) (ad := (.tmp 35)) (x := (.tmp 31)) (g := none) ⟨.st [(0, 1, 3), (1, 1, 3), (2, 1, 3), (3, 1, 3), (4, 1, 3)], 5, 40, [.lit (.int .i64 0), .lit (.int .i64 0), .lit (.int .i64 0), .lit (.int .i64 0), .lit (.int .i64 0)]⟩ true (Vec.row x2) (.box 7) [(0, 0), (2, (x1.toNat))] [(2, (x1.toNat))] 8 3 [.sl true 11 [[cI r1.Id, cS r1.Name, cL 8 (r1.Ports.set (x1.toNat) (⟨v3.Up, v3.Cost, true, v3.Heard⟩ : Pt)) Pt.row, cL 5 r1.F Fent.row, cL 3 r1.V.Rows Vrow.row, cL 1 r1.V.Pvid intRow, cI r1.Ticks, cI r1.Parse, cI r1.Word, cI r1.Drops, cI r1.Vers]]] (Pt.row v4) [cI r1.Id, cS r1.Name, cL 8 (r1.Ports.set (x1.toNat) (⟨v3.Up, v3.Cost, true, v3.Heard⟩ : Pt)) Pt.row, cL 5 r1.F Fent.row, cL 3 r1.V.Rows Vrow.row, cL 1 r1.V.Pvid intRow, cI r1.Ticks, cI r1.Parse, cI r1.Word, cI r1.Drops, cI r1.Vers] [cI r1.Id, cS r1.Name, cL 8 ((r1.Ports.set (x1.toNat) (⟨v3.Up, v3.Cost, true, v3.Heard⟩ : Pt)).set (x1.toNat) (⟨v4.Up, v4.Cost, v4.Has, x2⟩ : Pt)) Pt.row, cL 5 r1.F Fent.row, cL 3 r1.V.Rows Vrow.row, cL 1 r1.V.Pvid intRow, cI r1.Ticks, cI r1.Parse, cI r1.Word, cI r1.Drops, cI r1.Vers] kr kr kr kr kr kr (getQ_elemB rfl (idx_get ev4).2) rfl (by intro h; cases h) kr kr kr (modQ_elem (new := (⟨v4.Up, v4.Cost, v4.Has, x2⟩ : Pt)) rfl (idx_get ev4).2 rfl) kr ?_
        refine LAt.fin kr (And.intro (And.intro kr kr) ?_)
        exact AT.done [7, 6] [7, 6] _ kr kr rfl
      · refine Tr.at ?_
        obtain ⟨r5, er5, H⟩ := bind_some H
        refine LAt.callL tOk [.lend] (f := 105) (av := #[.tmp 7]) (ats := #[61]) (d := (some 36)) (ty := 0) (g := none) kr kr kr [] (impl_Bridge_turn n (⟨r1.Id, r1.Name, ((r1.Ports.set (x1.toNat) (⟨v3.Up, v3.Cost, true, v3.Heard⟩ : Pt)).set (x1.toNat) (⟨v4.Up, v4.Cost, v4.Has, x2⟩ : Pt)), r1.F, r1.V, r1.Ticks, r1.Parse, r1.Word, r1.Drops, r1.Vers⟩ : Bridge) r5 er5) kr (.inl rfl) ?_
        refine LAt.doneM 192 192 kr ?_
        show Tr _ _ _ _ _
        refine Tr.rs ?_
        refine LAt.runU tOk 2 kr ?_
        refine LAt.doneM 64 64 kr ?_
        refine Tr.ret ?_
        have H := Option.some.inj H
        subst H
        exact Fin.of _ [(true, (Bridge.row r5))] kr rfl rfl

def laws_eqVecF (n : Nat) (x0 : Vec) (x1 : Vec) : Option (Bool) :=
  (bif (x0.Root != x1.Root) then (some false) else (bif (x0.Cost != x1.Cost) then (some false) else (bif (x0.Hops != x1.Hops) then (some false) else (bif (x0.Bridge != x1.Bridge) then (some false) else (bif (x0.Port != x1.Port) then (some false) else (some true))))))
/-- loop.example/g00326/laws.eqVec -/
theorem laws_eqVec (n : Nat) (x0 : Vec) (x1 : Vec) (r : Bool) (H : laws_eqVecF n x0 x1 = some r) : LCall Try.prog 173 [.val true (CV.frzRow (Vec.row x0)), .val true (CV.frzRow (Vec.row x1))] [.val false [.lit (.bool r)]] [] := by
  refine LCall.of_body tOk Try.func173 rfl (c := (.seq (.region 0 (rg Try.f173 0) false) (.seq (.seq (.region 1 (rg Try.f173 1) false) (.cond (.tmp 9) (.seq (.region 2 (rg Try.f173 2) false) .ret) .skip)) (.seq (.seq (.region 3 (rg Try.f173 3) false) (.cond (.tmp 14) (.seq (.region 4 (rg Try.f173 4) false) .ret) .skip)) (.seq (.seq (.region 5 (rg Try.f173 5) false) (.cond (.tmp 19) (.seq (.region 6 (rg Try.f173 6) false) .ret) .skip)) (.seq (.seq (.region 7 (rg Try.f173 7) false) (.cond (.tmp 24) (.seq (.region 8 (rg Try.f173 8) false) .ret) .skip)) (.seq (.seq (.region 9 (rg Try.f173 9) false) (.cond (.tmp 29) (.seq (.region 10 (rg Try.f173 10) false) .ret) .skip)) (.seq (.region 11 (rg Try.f173 11) false) .ret)))))))) kr (Nat.le_of_ble_eq_true kr) 0 (rs := [.tmp 4]) rfl [] .nil [(false, [.lit (.bool r)])] [] [] fun cx => ?_
  show Tr _ _ _ ⟨30, 0, [sV 0 (Vec.row x0), sV 1 (Vec.row x1)], []⟩ _
  unfold laws_eqVecF at H
  refine Tr.rs ?_
  refine LAt.runU tOk 3 kr ?_
  refine LAt.doneM 28 12 kr ?_
  refine Tr.seq ?_
  refine Tr.rs ?_
  refine LAt.runU tOk 5 kr ?_
  refine LAt.doneM 540 12 kr ?_
  refine Tr.to ⟨30, 0, [sB 9 (x0.Root != x1.Root), sB 4 false, sA 3 3 5 0, sA 2 2 5 0], [(3, (Vec.row x1)), (2, (Vec.row x0))]⟩ kr ?_
  cases h1 : (x0.Root != x1.Root)
  · have H := bifF h1 H
    refine Tr.cond (b := false) kr (fun h => nomatch h) (fun _ => ?_)
    refine Tr.skip ?_
    show Tr _ _ _ _ _
    refine Tr.seq ?_
    refine Tr.rs ?_
    refine LAt.runU tOk 5 kr ?_
    refine LAt.doneM 16412 12 kr ?_
    refine Tr.to ⟨30, 0, [sB 14 (x0.Cost != x1.Cost), sB 4 false, sA 3 3 5 0, sA 2 2 5 0], [(3, (Vec.row x1)), (2, (Vec.row x0))]⟩ kr ?_
    cases h2 : (x0.Cost != x1.Cost)
    · have H := bifF h2 H
      refine Tr.cond (b := false) kr (fun h => nomatch h) (fun _ => ?_)
      refine Tr.skip ?_
      show Tr _ _ _ _ _
      refine Tr.seq ?_
      refine Tr.rs ?_
      refine LAt.runU tOk 5 kr ?_
      refine LAt.doneM 524316 12 kr ?_
      refine Tr.to ⟨30, 0, [sB 19 (x0.Hops != x1.Hops), sB 4 false, sA 3 3 5 0, sA 2 2 5 0], [(3, (Vec.row x1)), (2, (Vec.row x0))]⟩ kr ?_
      cases h3 : (x0.Hops != x1.Hops)
      · have H := bifF h3 H
        refine Tr.cond (b := false) kr (fun h => nomatch h) (fun _ => ?_)
        refine Tr.skip ?_
        show Tr _ _ _ _ _
        refine Tr.seq ?_
        refine Tr.rs ?_
        refine LAt.runU tOk 5 kr ?_
        refine LAt.doneM 16777244 12 kr ?_
        refine Tr.to ⟨30, 0, [sB 24 (x0.Bridge != x1.Bridge), sB 4 false, sA 3 3 5 0, sA 2 2 5 0], [(3, (Vec.row x1)), (2, (Vec.row x0))]⟩ kr ?_
        cases h4 : (x0.Bridge != x1.Bridge)
        · have H := bifF h4 H
          refine Tr.cond (b := false) kr (fun h => nomatch h) (fun _ => ?_)
          refine Tr.skip ?_
          show Tr _ _ _ _ _
          refine Tr.seq ?_
          refine Tr.rs ?_
          refine LAt.runU tOk 5 kr ?_
          refine LAt.doneM 536870928 0 kr ?_
          refine Tr.to ⟨30, 0, [sB 29 (x0.Port != x1.Port), sB 4 false], []⟩ kr ?_
          cases h5 : (x0.Port != x1.Port)
          · have H := bifF h5 H
            refine Tr.cond (b := false) kr (fun h => nomatch h) (fun _ => ?_)
            refine Tr.skip ?_
            show Tr _ _ _ _ _
            refine Tr.rs ?_
            refine LAt.runU tOk 1 kr ?_
            refine LAt.doneM 16 0 kr ?_
            refine Tr.ret ?_
            have H := Option.some.inj H
            subst H
            exact Fin.of _ [(false, [cB true])] kr rfl rfl
          · have H := bifT h5 H
            refine Tr.cond (b := true) kr (fun _ => ?_) (fun h => nomatch h)
            refine Tr.rs ?_
            refine LAt.runU tOk 1 kr ?_
            refine LAt.doneM 16 0 kr ?_
            refine Tr.ret ?_
            have H := Option.some.inj H
            subst H
            exact Fin.of _ [(false, [cB false])] kr rfl rfl
        · have H := bifT h4 H
          refine Tr.cond (b := true) kr (fun _ => ?_) (fun h => nomatch h)
          refine Tr.rs ?_
          refine LAt.runU tOk 1 kr ?_
          refine LAt.doneM 28 12 kr ?_
          refine Tr.ret ?_
          have H := Option.some.inj H
          subst H
          exact Fin.of _ [(false, [cB false])] kr rfl rfl
      · have H := bifT h3 H
        refine Tr.cond (b := true) kr (fun _ => ?_) (fun h => nomatch h)
        refine Tr.rs ?_
        refine LAt.runU tOk 1 kr ?_
        refine LAt.doneM 28 12 kr ?_
        refine Tr.ret ?_
        have H := Option.some.inj H
        subst H
        exact Fin.of _ [(false, [cB false])] kr rfl rfl
    · have H := bifT h2 H
      refine Tr.cond (b := true) kr (fun _ => ?_) (fun h => nomatch h)
      refine Tr.rs ?_
      refine LAt.runU tOk 1 kr ?_
      refine LAt.doneM 28 12 kr ?_
      refine Tr.ret ?_
      have H := Option.some.inj H
      subst H
      exact Fin.of _ [(false, [cB false])] kr rfl rfl
  · have H := bifT h1 H
    refine Tr.cond (b := true) kr (fun _ => ?_) (fun h => nomatch h)
    refine Tr.rs ?_
    refine LAt.runU tOk 1 kr ?_
    refine LAt.doneM 28 12 kr ?_
    refine Tr.ret ?_
    have H := Option.some.inj H
    subst H
    exact Fin.of _ [(false, [cB false])] kr rfl rfl

def laws_eqPtF (n : Nat) (x0 : Pt) (x1 : Pt) : Option (Bool) :=
  (bif (!(x0.Up == x1.Up)) then (some false) else (bif (x0.Cost != x1.Cost) then (some false) else (bif (!(x0.Has == x1.Has)) then (some false) else ((laws_eqVecF n x0.Heard x1.Heard).bind fun r1 => (bif (!r1) then (some false) else (some true))))))
/-- loop.example/g00326/laws.eqPt -/
theorem laws_eqPt (n : Nat) (x0 : Pt) (x1 : Pt) (r : Bool) (H : laws_eqPtF n x0 x1 = some r) : LCall Try.prog 161 [.val true (CV.frzRow (Pt.row x0)), .val true (CV.frzRow (Pt.row x1))] [.val false [.lit (.bool r)]] [] := by
  refine LCall.of_body tOk Try.func161 rfl (c := (.seq (.region 0 (rg Try.f161 0) false) (.seq (.seq (.region 1 (rg Try.f161 1) false) (.cond (.tmp 9) (.seq (.region 2 (rg Try.f161 2) false) .ret) .skip)) (.seq (.seq (.region 3 (rg Try.f161 3) false) (.cond (.tmp 14) (.seq (.region 4 (rg Try.f161 4) false) .ret) .skip)) (.seq (.seq (.region 5 (rg Try.f161 5) false) (.cond (.tmp 19) (.seq (.region 6 (rg Try.f161 6) false) .ret) .skip)) (.seq (.seq (.region 7 (rg Try.f161 7) false) (.cond (.tmp 25) (.seq (.region 8 (rg Try.f161 8) false) .ret) .skip)) (.seq (.region 9 (rg Try.f161 9) false) .ret))))))) kr (Nat.le_of_ble_eq_true kr) 0 (rs := [.tmp 4]) rfl [] .nil [(false, [.lit (.bool r)])] [] [] fun cx => ?_
  show Tr _ _ _ ⟨26, 0, [sV 0 (Pt.row x0), sV 1 (Pt.row x1)], []⟩ _
  unfold laws_eqPtF at H
  refine Tr.rs ?_
  refine LAt.runU tOk 3 kr ?_
  refine LAt.doneM 28 12 kr ?_
  refine Tr.seq ?_
  refine Tr.rs ?_
  refine LAt.runU tOk 5 kr ?_
  refine LAt.doneM 540 12 kr ?_
  refine Tr.to ⟨26, 0, [sB 9 (!(x0.Up == x1.Up)), sB 4 false, sA 3 3 8 0, sA 2 2 8 0], [(3, (Pt.row x1)), (2, (Pt.row x0))]⟩ kr ?_
  cases h1 : (!(x0.Up == x1.Up))
  · have H := bifF h1 H
    refine Tr.cond (b := false) kr (fun h => nomatch h) (fun _ => ?_)
    refine Tr.skip ?_
    show Tr _ _ _ _ _
    refine Tr.seq ?_
    refine Tr.rs ?_
    refine LAt.runU tOk 5 kr ?_
    refine LAt.doneM 16412 12 kr ?_
    refine Tr.to ⟨26, 0, [sB 14 (x0.Cost != x1.Cost), sB 4 false, sA 3 3 8 0, sA 2 2 8 0], [(3, (Pt.row x1)), (2, (Pt.row x0))]⟩ kr ?_
    cases h2 : (x0.Cost != x1.Cost)
    · have H := bifF h2 H
      refine Tr.cond (b := false) kr (fun h => nomatch h) (fun _ => ?_)
      refine Tr.skip ?_
      show Tr _ _ _ _ _
      refine Tr.seq ?_
      refine Tr.rs ?_
      refine LAt.runU tOk 5 kr ?_
      refine LAt.doneM 524316 12 kr ?_
      refine Tr.to ⟨26, 0, [sB 19 (!(x0.Has == x1.Has)), sB 4 false, sA 3 3 8 0, sA 2 2 8 0], [(3, (Pt.row x1)), (2, (Pt.row x0))]⟩ kr ?_
      cases h3 : (!(x0.Has == x1.Has))
      · have H := bifF h3 H
        refine Tr.cond (b := false) kr (fun h => nomatch h) (fun _ => ?_)
        refine Tr.skip ?_
        show Tr _ _ _ _ _
        refine Tr.seq ?_
        refine Tr.rs ?_
        refine LAt.runU tOk 4 kr ?_
        obtain ⟨r1, er1, H⟩ := bind_some H
        refine LAt.callU tOk [.rd, .rd] (f := 173) (av := #[.tmp 21, .tmp 23]) (ats := #[70, 70]) (d := (some 24)) (ty := 4) (g := none) kr kr kr [] (laws_eqVec n x0.Heard x1.Heard r1 er1) kr (.inl rfl) ?_
        refine LAt.runU tOk 1 kr ?_
        refine LAt.doneM 33554448 0 kr ?_
        refine Tr.to ⟨26, 0, [sB 25 (!r1), sB 4 false], []⟩ kr ?_
        cases h4 : (!r1)
        · have H := bifF h4 H
          refine Tr.cond (b := false) kr (fun h => nomatch h) (fun _ => ?_)
          refine Tr.skip ?_
          show Tr _ _ _ _ _
          refine Tr.rs ?_
          refine LAt.runU tOk 1 kr ?_
          refine LAt.doneM 16 0 kr ?_
          refine Tr.ret ?_
          have H := Option.some.inj H
          subst H
          exact Fin.of _ [(false, [cB true])] kr rfl rfl
        · have H := bifT h4 H
          refine Tr.cond (b := true) kr (fun _ => ?_) (fun h => nomatch h)
          refine Tr.rs ?_
          refine LAt.runU tOk 1 kr ?_
          refine LAt.doneM 16 0 kr ?_
          refine Tr.ret ?_
          have H := Option.some.inj H
          subst H
          exact Fin.of _ [(false, [cB false])] kr rfl rfl
      · have H := bifT h3 H
        refine Tr.cond (b := true) kr (fun _ => ?_) (fun h => nomatch h)
        refine Tr.rs ?_
        refine LAt.runU tOk 1 kr ?_
        refine LAt.doneM 28 12 kr ?_
        refine Tr.ret ?_
        have H := Option.some.inj H
        subst H
        exact Fin.of _ [(false, [cB false])] kr rfl rfl
    · have H := bifT h2 H
      refine Tr.cond (b := true) kr (fun _ => ?_) (fun h => nomatch h)
      refine Tr.rs ?_
      refine LAt.runU tOk 1 kr ?_
      refine LAt.doneM 28 12 kr ?_
      refine Tr.ret ?_
      have H := Option.some.inj H
      subst H
      exact Fin.of _ [(false, [cB false])] kr rfl rfl
  · have H := bifT h1 H
    refine Tr.cond (b := true) kr (fun _ => ?_) (fun h => nomatch h)
    refine Tr.rs ?_
    refine LAt.runU tOk 1 kr ?_
    refine LAt.doneM 28 12 kr ?_
    refine Tr.ret ?_
    have H := Option.some.inj H
    subst H
    exact Fin.of _ [(false, [cB false])] kr rfl rfl

def laws_eqPtS_J1 (n : Nat) : Option (Bool) :=
  (some true)
def laws_eqPtS_L2 (n : Nat) : Nat → (List Pt) → (List Pt) → Int → Option ((Unit) ⊕ (Bool))
  | 0, _, _, _ => none
  | mo2 + 1, x0, x1, y1 => (bif (decide (y1 < (x0.length : Int))) then ((idx x0 y1).bind fun v3 => ((idx x1 y1).bind fun v4 => ((laws_eqPtF n v3 v4).bind fun r5 => (bif (!r5) then (some (Sum.inr false)) else (laws_eqPtS_L2 n mo2 x0 x1 (IntKind.wrap .i64 (y1 + 1))))))) else (some (Sum.inl ())))
def laws_eqPtSF (n : Nat) (x0 : (List Pt)) (x1 : (List Pt)) : Option (Bool) :=
  (bif ((x0.length : Int) != (x1.length : Int)) then (some false) else ((laws_eqPtS_L2 n n x0 x1 0).bind fun o => match o with | .inl _ => (laws_eqPtS_J1 n) | .inr r => some r))
/-- loop.example/g00326/laws.eqPtS -/
theorem laws_eqPtS (n : Nat) (x0 : (List Pt)) (x1 : (List Pt)) (r : Bool) (H : laws_eqPtSF n x0 x1 = some r) : LCall Try.prog 106 [.val false [.sl false 8 (CV.frzEs (x0.map Pt.row))], .val false [.sl false 8 (CV.frzEs (x1.map Pt.row))]] [.val false [.lit (.bool r)]] [] := by
  refine LCall.of_body tOk Try.func106 rfl (c := (.seq (.region 0 (rg Try.f106 0) false) (.seq (.seq (.region 1 (rg Try.f106 1) false) (.cond (.tmp 10) (.seq (.region 2 (rg Try.f106 2) false) .ret) .skip)) (.seq (.seq (.region 3 (rg Try.f106 3) false) (.block 0 (.loop (.seq (.seq (.region 4 (rg Try.f106 4) false) (.cond (.tmp 14) .skip (.exit 0))) (.seq (.block 1 (.seq (.region 6 (rg Try.f106 6) true) (.cond (.tmp 26) (.seq (.region 7 (rg Try.f106 7) false) .ret) .skip))) (.region 5 (rg Try.f106 5) false)))))) (.seq (.region 8 (rg Try.f106 8) false) .ret))))) kr (Nat.le_of_ble_eq_true kr) 0 (rs := [.tmp 4]) rfl [] .nil [(false, [.lit (.bool r)])] [] [] fun cx => ?_
  show Tr _ _ _ ⟨27, 0, [sC 0 (cF 8 x0 Pt.row), sC 1 (cF 8 x1 Pt.row)], []⟩ _
  unfold laws_eqPtSF at H
  refine Tr.rs ?_
  refine LAt.runU tOk 1 kr ?_
  refine LAt.doneM 19 0 kr ?_
  refine Tr.seq ?_
  refine Tr.rs ?_
  refine LAt.runU tOk 1 kr ?_
  refine LAt.lenE tOk (t := 55) (ty := 3) (e := 114) (x := (.tmp 6)) (d := 7) (g := none) ⟨(.slot 6), [], 0, false, 8, (CV.frzEs (x0.map Pt.row))⟩ (x0).length _ kr kr kr kr kr (frz_len _ _) rfl ?_
  refine LAt.runU tOk 1 kr ?_
  refine LAt.lenE tOk (t := 55) (ty := 3) (e := 114) (x := (.tmp 8)) (d := 9) (g := none) ⟨(.slot 8), [], 0, false, 8, (CV.frzEs (x1.map Pt.row))⟩ (x1).length _ kr kr kr kr kr (frz_len _ _) rfl ?_
  refine LAt.runU tOk 1 kr ?_
  refine LAt.doneM 1043 0 kr ?_
  refine Tr.to ⟨27, 0, [sB 10 ((x0.length : Int) != (x1.length : Int)), sB 4 false, sC 0 (cF 8 x0 Pt.row), sC 1 (cF 8 x1 Pt.row)], []⟩ kr ?_
  cases h1 : ((x0.length : Int) != (x1.length : Int))
  · have H := bifF h1 H
    refine Tr.cond (b := false) kr (fun h => nomatch h) (fun _ => ?_)
    refine Tr.skip ?_
    show Tr _ _ _ _ _
    refine Tr.seq ?_
    refine Tr.rs ?_
    refine LAt.runU tOk 1 kr ?_
    refine LAt.doneM 51 0 kr ?_
    obtain ⟨o2, eo2, Ho2⟩ := bind_some H
    clear H
    refine Tr.mid (ι := Unit) (fun v => ⟨27, 0, [sB 4 false], []⟩) (fun v => laws_eqPtS_J1 n = some r) ?_ ?_
    · refine Tr.block ?_
      refine Tr.loop (ι := Nat × (Int)) (fun v => ⟨27, 0, [sI 5 v.2, sB 4 false, sC 0 (cF 8 x0 Pt.row), sC 1 (cF 8 x1 Pt.row)], []⟩) (fun v => laws_eqPtS_L2 n v.1 x0 x1 v.2 = some o2) (fun v => v.1) (n, 0) eo2 (St.sub_of [5, 4, 0, 1] [] kr) ?_
      rintro ⟨mo2, y1⟩ H
      have H : laws_eqPtS_L2 n mo2 x0 x1 y1 = some o2 := H
      obtain _ | mo2 := mo2
      · cases (show (none : Option _) = some o2 from H)
      · rw [laws_eqPtS_L2] at H
        refine Tr.seq ?_
        refine Tr.rs ?_
        refine LAt.runU tOk 2 kr ?_
        refine LAt.lenE tOk (t := 55) (ty := 3) (e := 114) (x := (.tmp 12)) (d := 13) (g := none) ⟨(.slot 12), [], 0, false, 8, (CV.frzEs (x0.map Pt.row))⟩ (x0).length _ kr kr kr kr kr (frz_len _ _) rfl ?_
        refine LAt.runU tOk 1 kr ?_
        refine LAt.doneM 30771 0 kr ?_
        refine Tr.to ⟨27, 0, [sB 14 (decide (y1 < (x0.length : Int))), sI 13 (x0.length : Int), sC 12 (cF 8 x0 Pt.row), sI 11 y1, sI 5 y1, sB 4 false, sC 0 (cF 8 x0 Pt.row), sC 1 (cF 8 x1 Pt.row)], []⟩ kr ?_
        cases h2 : (decide (y1 < (x0.length : Int)))
        · have H := bifF h2 H
          refine Tr.cond (b := false) kr (fun h => nomatch h) (fun _ => ?_)
          refine Tr.exit ?_
          refine And.intro (fun _ => ?_) (fun h => absurd rfl h)
          have H := Option.some.inj H
          subst H
          have H := Ho2
          dsimp only at H
          exact Exists.intro () (And.intro H (St.sub_of [4] [] kr))
        · have H := bifT h2 H
          refine Tr.cond (b := true) kr (fun _ => ?_) (fun h => nomatch h)
          refine Tr.skip ?_
          show Tr _ _ _ _ _
          refine Tr.seq ?_
          refine Tr.block ?_
          obtain ⟨v3, ev3, H⟩ := bind_some H
          obtain ⟨v4, ev4, H⟩ := bind_some H
          obtain ⟨r5, er5, H⟩ := bind_some H
          refine Tr.draws mixed 10 kr ⟨27, 0, [sB 26 (!r5), sB 25 r5, sV 24 (Pt.row v4), (23, .fad ((Pt.row v4))), sI 22 y1, sC 21 (cF 8 x1 Pt.row), sV 20 (Pt.row v3), (19, .fad ((Pt.row v3))), sI 18 y1, sC 17 (cF 8 x0 Pt.row), sB 14 true, sI 13 (x0.length : Int), sC 12 (cF 8 x0 Pt.row), sI 11 y1, sI 5 y1, sB 4 false, sC 0 (cF 8 x0 Pt.row), sC 1 (cF 8 x1 Pt.row)], []⟩ (fun cx => ?_) ?_
          · refine AT.runU tOk [(0, []), (1, [])] 8 [] [1, 0] rfl kr (fun cx => ?_)
            refine AT.indexF tOk 2 (t := 55) (ty := 0) (x := (.tmp 17)) (y := (.tmp 18)) (d := 19) (g := none) ⟨(.slot 17), [], 0, false, 8, (CV.frzEs (x0.map Pt.row))⟩ y1 (Pt.row v3) _ kr kr kr kr kr kr rfl (idx_isF ev3) rfl (fun cx => ?_)
            refine AT.runU tOk [(3, []), (4, []), (5, [])] 4 [] [5, 4, 3, 2, 1, 0] rfl kr (fun cx => ?_)
            refine AT.indexF tOk 6 (t := 55) (ty := 0) (x := (.tmp 21)) (y := (.tmp 22)) (d := 23) (g := none) ⟨(.slot 21), [], 0, false, 8, (CV.frzEs (x1.map Pt.row))⟩ y1 (Pt.row v4) _ kr kr kr kr kr kr rfl (idx_isF ev4) rfl (fun cx => ?_)
            refine AT.runU tOk [(7, [])] 2 [] [7, 6, 5, 4, 3, 2, 1, 0] rfl kr (fun cx => ?_)
            refine AT.big1 tOk 8 kr kr ?_
            refine LAt.callU tOk [.rd, .rd] (f := 161) (av := #[.tmp 20, .tmp 24]) (ats := #[114, 114]) (d := (some 25)) (ty := 4) (g := none) kr kr kr [] (laws_eqPt n v3 v4 r5 er5) kr (.inl rfl) ?_
            refine LAt.fin kr (And.intro (And.intro kr kr) ?_)
            refine AT.runU tOk [(9, [])] 0 [] [9, 8, 7, 6, 5, 4, 3, 2, 1, 0] rfl kr (fun cx => ?_)
            exact AT.done [26, 25, 24, 23, 22, 21, 20, 19, 18, 17, 14, 13, 12, 11, 5, 4, 0, 1] [] _ kr kr rfl
          · refine Tr.to ⟨27, 0, [sB 26 (!r5), sB 25 r5, sV 24 (Pt.row v4), (23, .fad ((Pt.row v4))), sI 22 y1, sC 21 (cF 8 x1 Pt.row), sV 20 (Pt.row v3), (19, .fad ((Pt.row v3))), sI 18 y1, sC 17 (cF 8 x0 Pt.row), sB 14 true, sI 13 (x0.length : Int), sC 12 (cF 8 x0 Pt.row), sI 11 y1, sI 5 y1, sB 4 false, sC 0 (cF 8 x0 Pt.row), sC 1 (cF 8 x1 Pt.row)], []⟩ kr ?_
            cases h3 : (!r5)
            · have H := bifF h3 H
              refine Tr.cond (b := false) kr (fun h => nomatch h) (fun _ => ?_)
              refine Tr.skip ?_
              show Tr _ _ _ _ _
              refine Tr.at ?_
              refine LAt.runU tOk 3 kr ?_
              refine LAt.doneM 134215731 0 kr ?_
              exact Exists.intro (mo2, (IntKind.wrap .i64 (y1 + 1))) (And.intro H (And.intro (Nat.lt_succ_self mo2) (St.sub_of [5, 4, 0, 1] [] kr)))
            · have H := bifT h3 H
              refine Tr.cond (b := true) kr (fun _ => ?_) (fun h => nomatch h)
              refine Tr.rs ?_
              refine LAt.runU tOk 1 kr ?_
              refine LAt.doneM 134117427 0 kr ?_
              refine Tr.ret ?_
              have H := Option.some.inj H
              subst H
              have H := Ho2
              dsimp only at H
              have H := Option.some.inj H
              subst H
              exact Fin.of _ [(false, [cB false])] kr rfl rfl
    · rintro _ H
      have H : (laws_eqPtS_J1 n) = some r := H
      unfold laws_eqPtS_J1 at H
      show Tr _ _ _ _ _
      refine Tr.rs ?_
      refine LAt.runU tOk 1 kr ?_
      refine LAt.doneM 16 0 kr ?_
      refine Tr.ret ?_
      have H := Option.some.inj H
      subst H
      exact Fin.of _ [(false, [cB true])] kr rfl rfl
  · have H := bifT h1 H
    refine Tr.cond (b := true) kr (fun _ => ?_) (fun h => nomatch h)
    refine Tr.rs ?_
    refine LAt.runU tOk 1 kr ?_
    refine LAt.doneM 19 0 kr ?_
    refine Tr.ret ?_
    have H := Option.some.inj H
    subst H
    exact Fin.of _ [(false, [cB false])] kr rfl rfl

def laws_eqFentF (n : Nat) (x0 : Fent) (x1 : Fent) : Option (Bool) :=
  (bif (x0.Tag != x1.Tag) then (some false) else (bif (x0.Mac != x1.Mac) then (some false) else (bif (x0.Port != x1.Port) then (some false) else (bif (x0.Age != x1.Age) then (some false) else (bif (!(x0.Static == x1.Static)) then (some false) else (some true))))))
/-- loop.example/g00326/laws.eqFent -/
theorem laws_eqFent (n : Nat) (x0 : Fent) (x1 : Fent) (r : Bool) (H : laws_eqFentF n x0 x1 = some r) : LCall Try.prog 162 [.val true (CV.frzRow (Fent.row x0)), .val true (CV.frzRow (Fent.row x1))] [.val false [.lit (.bool r)]] [] := by
  refine LCall.of_body tOk Try.func162 rfl (c := (.seq (.region 0 (rg Try.f162 0) false) (.seq (.seq (.region 1 (rg Try.f162 1) false) (.cond (.tmp 9) (.seq (.region 2 (rg Try.f162 2) false) .ret) .skip)) (.seq (.seq (.region 3 (rg Try.f162 3) false) (.cond (.tmp 14) (.seq (.region 4 (rg Try.f162 4) false) .ret) .skip)) (.seq (.seq (.region 5 (rg Try.f162 5) false) (.cond (.tmp 19) (.seq (.region 6 (rg Try.f162 6) false) .ret) .skip)) (.seq (.seq (.region 7 (rg Try.f162 7) false) (.cond (.tmp 24) (.seq (.region 8 (rg Try.f162 8) false) .ret) .skip)) (.seq (.seq (.region 9 (rg Try.f162 9) false) (.cond (.tmp 29) (.seq (.region 10 (rg Try.f162 10) false) .ret) .skip)) (.seq (.region 11 (rg Try.f162 11) false) .ret)))))))) kr (Nat.le_of_ble_eq_true kr) 0 (rs := [.tmp 4]) rfl [] .nil [(false, [.lit (.bool r)])] [] [] fun cx => ?_
  show Tr _ _ _ ⟨30, 0, [sV 0 (Fent.row x0), sV 1 (Fent.row x1)], []⟩ _
  unfold laws_eqFentF at H
  refine Tr.rs ?_
  refine LAt.runU tOk 3 kr ?_
  refine LAt.doneM 28 12 kr ?_
  refine Tr.seq ?_
  refine Tr.rs ?_
  refine LAt.runU tOk 5 kr ?_
  refine LAt.doneM 540 12 kr ?_
  refine Tr.to ⟨30, 0, [sB 9 (x0.Tag != x1.Tag), sB 4 false, sA 3 3 5 0, sA 2 2 5 0], [(3, (Fent.row x1)), (2, (Fent.row x0))]⟩ kr ?_
  cases h1 : (x0.Tag != x1.Tag)
  · have H := bifF h1 H
    refine Tr.cond (b := false) kr (fun h => nomatch h) (fun _ => ?_)
    refine Tr.skip ?_
    show Tr _ _ _ _ _
    refine Tr.seq ?_
    refine Tr.rs ?_
    refine LAt.runU tOk 5 kr ?_
    refine LAt.doneM 16412 12 kr ?_
    refine Tr.to ⟨30, 0, [sB 14 (x0.Mac != x1.Mac), sB 4 false, sA 3 3 5 0, sA 2 2 5 0], [(3, (Fent.row x1)), (2, (Fent.row x0))]⟩ kr ?_
    cases h2 : (x0.Mac != x1.Mac)
    · have H := bifF h2 H
      refine Tr.cond (b := false) kr (fun h => nomatch h) (fun _ => ?_)
      refine Tr.skip ?_
      show Tr _ _ _ _ _
      refine Tr.seq ?_
      refine Tr.rs ?_
      refine LAt.runU tOk 5 kr ?_
      refine LAt.doneM 524316 12 kr ?_
      refine Tr.to ⟨30, 0, [sB 19 (x0.Port != x1.Port), sB 4 false, sA 3 3 5 0, sA 2 2 5 0], [(3, (Fent.row x1)), (2, (Fent.row x0))]⟩ kr ?_
      cases h3 : (x0.Port != x1.Port)
      · have H := bifF h3 H
        refine Tr.cond (b := false) kr (fun h => nomatch h) (fun _ => ?_)
        refine Tr.skip ?_
        show Tr _ _ _ _ _
        refine Tr.seq ?_
        refine Tr.rs ?_
        refine LAt.runU tOk 5 kr ?_
        refine LAt.doneM 16777244 12 kr ?_
        refine Tr.to ⟨30, 0, [sB 24 (x0.Age != x1.Age), sB 4 false, sA 3 3 5 0, sA 2 2 5 0], [(3, (Fent.row x1)), (2, (Fent.row x0))]⟩ kr ?_
        cases h4 : (x0.Age != x1.Age)
        · have H := bifF h4 H
          refine Tr.cond (b := false) kr (fun h => nomatch h) (fun _ => ?_)
          refine Tr.skip ?_
          show Tr _ _ _ _ _
          refine Tr.seq ?_
          refine Tr.rs ?_
          refine LAt.runU tOk 5 kr ?_
          refine LAt.doneM 536870928 0 kr ?_
          refine Tr.to ⟨30, 0, [sB 29 (!(x0.Static == x1.Static)), sB 4 false], []⟩ kr ?_
          cases h5 : (!(x0.Static == x1.Static))
          · have H := bifF h5 H
            refine Tr.cond (b := false) kr (fun h => nomatch h) (fun _ => ?_)
            refine Tr.skip ?_
            show Tr _ _ _ _ _
            refine Tr.rs ?_
            refine LAt.runU tOk 1 kr ?_
            refine LAt.doneM 16 0 kr ?_
            refine Tr.ret ?_
            have H := Option.some.inj H
            subst H
            exact Fin.of _ [(false, [cB true])] kr rfl rfl
          · have H := bifT h5 H
            refine Tr.cond (b := true) kr (fun _ => ?_) (fun h => nomatch h)
            refine Tr.rs ?_
            refine LAt.runU tOk 1 kr ?_
            refine LAt.doneM 16 0 kr ?_
            refine Tr.ret ?_
            have H := Option.some.inj H
            subst H
            exact Fin.of _ [(false, [cB false])] kr rfl rfl
        · have H := bifT h4 H
          refine Tr.cond (b := true) kr (fun _ => ?_) (fun h => nomatch h)
          refine Tr.rs ?_
          refine LAt.runU tOk 1 kr ?_
          refine LAt.doneM 28 12 kr ?_
          refine Tr.ret ?_
          have H := Option.some.inj H
          subst H
          exact Fin.of _ [(false, [cB false])] kr rfl rfl
      · have H := bifT h3 H
        refine Tr.cond (b := true) kr (fun _ => ?_) (fun h => nomatch h)
        refine Tr.rs ?_
        refine LAt.runU tOk 1 kr ?_
        refine LAt.doneM 28 12 kr ?_
        refine Tr.ret ?_
        have H := Option.some.inj H
        subst H
        exact Fin.of _ [(false, [cB false])] kr rfl rfl
    · have H := bifT h2 H
      refine Tr.cond (b := true) kr (fun _ => ?_) (fun h => nomatch h)
      refine Tr.rs ?_
      refine LAt.runU tOk 1 kr ?_
      refine LAt.doneM 28 12 kr ?_
      refine Tr.ret ?_
      have H := Option.some.inj H
      subst H
      exact Fin.of _ [(false, [cB false])] kr rfl rfl
  · have H := bifT h1 H
    refine Tr.cond (b := true) kr (fun _ => ?_) (fun h => nomatch h)
    refine Tr.rs ?_
    refine LAt.runU tOk 1 kr ?_
    refine LAt.doneM 28 12 kr ?_
    refine Tr.ret ?_
    have H := Option.some.inj H
    subst H
    exact Fin.of _ [(false, [cB false])] kr rfl rfl

def laws_eqFentS_J1 (n : Nat) : Option (Bool) :=
  (some true)
def laws_eqFentS_L2 (n : Nat) : Nat → (List Fent) → (List Fent) → Int → Option ((Unit) ⊕ (Bool))
  | 0, _, _, _ => none
  | mo2 + 1, x0, x1, y1 => (bif (decide (y1 < (x0.length : Int))) then ((idx x0 y1).bind fun v3 => ((idx x1 y1).bind fun v4 => ((laws_eqFentF n v3 v4).bind fun r5 => (bif (!r5) then (some (Sum.inr false)) else (laws_eqFentS_L2 n mo2 x0 x1 (IntKind.wrap .i64 (y1 + 1))))))) else (some (Sum.inl ())))
def laws_eqFentSF (n : Nat) (x0 : (List Fent)) (x1 : (List Fent)) : Option (Bool) :=
  (bif ((x0.length : Int) != (x1.length : Int)) then (some false) else ((laws_eqFentS_L2 n n x0 x1 0).bind fun o => match o with | .inl _ => (laws_eqFentS_J1 n) | .inr r => some r))
/-- loop.example/g00326/laws.eqFentS -/
theorem laws_eqFentS (n : Nat) (x0 : (List Fent)) (x1 : (List Fent)) (r : Bool) (H : laws_eqFentSF n x0 x1 = some r) : LCall Try.prog 107 [.val false [.sl false 5 (CV.frzEs (x0.map Fent.row))], .val false [.sl false 5 (CV.frzEs (x1.map Fent.row))]] [.val false [.lit (.bool r)]] [] := by
  refine LCall.of_body tOk Try.func107 rfl (c := (.seq (.region 0 (rg Try.f107 0) false) (.seq (.seq (.region 1 (rg Try.f107 1) false) (.cond (.tmp 10) (.seq (.region 2 (rg Try.f107 2) false) .ret) .skip)) (.seq (.seq (.region 3 (rg Try.f107 3) false) (.block 0 (.loop (.seq (.seq (.region 4 (rg Try.f107 4) false) (.cond (.tmp 14) .skip (.exit 0))) (.seq (.block 1 (.seq (.region 6 (rg Try.f107 6) true) (.cond (.tmp 26) (.seq (.region 7 (rg Try.f107 7) false) .ret) .skip))) (.region 5 (rg Try.f107 5) false)))))) (.seq (.region 8 (rg Try.f107 8) false) .ret))))) kr (Nat.le_of_ble_eq_true kr) 0 (rs := [.tmp 4]) rfl [] .nil [(false, [.lit (.bool r)])] [] [] fun cx => ?_
  show Tr _ _ _ ⟨27, 0, [sC 0 (cF 5 x0 Fent.row), sC 1 (cF 5 x1 Fent.row)], []⟩ _
  unfold laws_eqFentSF at H
  refine Tr.rs ?_
  refine LAt.runU tOk 1 kr ?_
  refine LAt.doneM 19 0 kr ?_
  refine Tr.seq ?_
  refine Tr.rs ?_
  refine LAt.runU tOk 1 kr ?_
  refine LAt.lenE tOk (t := 56) (ty := 3) (e := 141) (x := (.tmp 6)) (d := 7) (g := none) ⟨(.slot 6), [], 0, false, 5, (CV.frzEs (x0.map Fent.row))⟩ (x0).length _ kr kr kr kr kr (frz_len _ _) rfl ?_
  refine LAt.runU tOk 1 kr ?_
  refine LAt.lenE tOk (t := 56) (ty := 3) (e := 141) (x := (.tmp 8)) (d := 9) (g := none) ⟨(.slot 8), [], 0, false, 5, (CV.frzEs (x1.map Fent.row))⟩ (x1).length _ kr kr kr kr kr (frz_len _ _) rfl ?_
  refine LAt.runU tOk 1 kr ?_
  refine LAt.doneM 1043 0 kr ?_
  refine Tr.to ⟨27, 0, [sB 10 ((x0.length : Int) != (x1.length : Int)), sB 4 false, sC 0 (cF 5 x0 Fent.row), sC 1 (cF 5 x1 Fent.row)], []⟩ kr ?_
  cases h1 : ((x0.length : Int) != (x1.length : Int))
  · have H := bifF h1 H
    refine Tr.cond (b := false) kr (fun h => nomatch h) (fun _ => ?_)
    refine Tr.skip ?_
    show Tr _ _ _ _ _
    refine Tr.seq ?_
    refine Tr.rs ?_
    refine LAt.runU tOk 1 kr ?_
    refine LAt.doneM 51 0 kr ?_
    obtain ⟨o2, eo2, Ho2⟩ := bind_some H
    clear H
    refine Tr.mid (ι := Unit) (fun v => ⟨27, 0, [sB 4 false], []⟩) (fun v => laws_eqFentS_J1 n = some r) ?_ ?_
    · refine Tr.block ?_
      refine Tr.loop (ι := Nat × (Int)) (fun v => ⟨27, 0, [sI 5 v.2, sB 4 false, sC 0 (cF 5 x0 Fent.row), sC 1 (cF 5 x1 Fent.row)], []⟩) (fun v => laws_eqFentS_L2 n v.1 x0 x1 v.2 = some o2) (fun v => v.1) (n, 0) eo2 (St.sub_of [5, 4, 0, 1] [] kr) ?_
      rintro ⟨mo2, y1⟩ H
      have H : laws_eqFentS_L2 n mo2 x0 x1 y1 = some o2 := H
      obtain _ | mo2 := mo2
      · cases (show (none : Option _) = some o2 from H)
      · rw [laws_eqFentS_L2] at H
        refine Tr.seq ?_
        refine Tr.rs ?_
        refine LAt.runU tOk 2 kr ?_
        refine LAt.lenE tOk (t := 56) (ty := 3) (e := 141) (x := (.tmp 12)) (d := 13) (g := none) ⟨(.slot 12), [], 0, false, 5, (CV.frzEs (x0.map Fent.row))⟩ (x0).length _ kr kr kr kr kr (frz_len _ _) rfl ?_
        refine LAt.runU tOk 1 kr ?_
        refine LAt.doneM 30771 0 kr ?_
        refine Tr.to ⟨27, 0, [sB 14 (decide (y1 < (x0.length : Int))), sI 13 (x0.length : Int), sC 12 (cF 5 x0 Fent.row), sI 11 y1, sI 5 y1, sB 4 false, sC 0 (cF 5 x0 Fent.row), sC 1 (cF 5 x1 Fent.row)], []⟩ kr ?_
        cases h2 : (decide (y1 < (x0.length : Int)))
        · have H := bifF h2 H
          refine Tr.cond (b := false) kr (fun h => nomatch h) (fun _ => ?_)
          refine Tr.exit ?_
          refine And.intro (fun _ => ?_) (fun h => absurd rfl h)
          have H := Option.some.inj H
          subst H
          have H := Ho2
          dsimp only at H
          exact Exists.intro () (And.intro H (St.sub_of [4] [] kr))
        · have H := bifT h2 H
          refine Tr.cond (b := true) kr (fun _ => ?_) (fun h => nomatch h)
          refine Tr.skip ?_
          show Tr _ _ _ _ _
          refine Tr.seq ?_
          refine Tr.block ?_
          obtain ⟨v3, ev3, H⟩ := bind_some H
          obtain ⟨v4, ev4, H⟩ := bind_some H
          obtain ⟨r5, er5, H⟩ := bind_some H
          refine Tr.draws mixed 10 kr ⟨27, 0, [sB 26 (!r5), sB 25 r5, sV 24 (Fent.row v4), (23, .fad ((Fent.row v4))), sI 22 y1, sC 21 (cF 5 x1 Fent.row), sV 20 (Fent.row v3), (19, .fad ((Fent.row v3))), sI 18 y1, sC 17 (cF 5 x0 Fent.row), sB 14 true, sI 13 (x0.length : Int), sC 12 (cF 5 x0 Fent.row), sI 11 y1, sI 5 y1, sB 4 false, sC 0 (cF 5 x0 Fent.row), sC 1 (cF 5 x1 Fent.row)], []⟩ (fun cx => ?_) ?_
          · refine AT.runU tOk [(0, []), (1, [])] 8 [] [1, 0] rfl kr (fun cx => ?_)
            refine AT.indexF tOk 2 (t := 56) (ty := 0) (x := (.tmp 17)) (y := (.tmp 18)) (d := 19) (g := none) ⟨(.slot 17), [], 0, false, 5, (CV.frzEs (x0.map Fent.row))⟩ y1 (Fent.row v3) _ kr kr kr kr kr kr rfl (idx_isF ev3) rfl (fun cx => ?_)
            refine AT.runU tOk [(3, []), (4, []), (5, [])] 4 [] [5, 4, 3, 2, 1, 0] rfl kr (fun cx => ?_)
            refine AT.indexF tOk 6 (t := 56) (ty := 0) (x := (.tmp 21)) (y := (.tmp 22)) (d := 23) (g := none) ⟨(.slot 21), [], 0, false, 5, (CV.frzEs (x1.map Fent.row))⟩ y1 (Fent.row v4) _ kr kr kr kr kr kr rfl (idx_isF ev4) rfl (fun cx => ?_)
            refine AT.runU tOk [(7, [])] 2 [] [7, 6, 5, 4, 3, 2, 1, 0] rfl kr (fun cx => ?_)
            refine AT.big1 tOk 8 kr kr ?_
            refine LAt.callU tOk [.rd, .rd] (f := 162) (av := #[.tmp 20, .tmp 24]) (ats := #[141, 141]) (d := (some 25)) (ty := 4) (g := none) kr kr kr [] (laws_eqFent n v3 v4 r5 er5) kr (.inl rfl) ?_
            refine LAt.fin kr (And.intro (And.intro kr kr) ?_)
            refine AT.runU tOk [(9, [])] 0 [] [9, 8, 7, 6, 5, 4, 3, 2, 1, 0] rfl kr (fun cx => ?_)
            exact AT.done [26, 25, 24, 23, 22, 21, 20, 19, 18, 17, 14, 13, 12, 11, 5, 4, 0, 1] [] _ kr kr rfl
          · refine Tr.to ⟨27, 0, [sB 26 (!r5), sB 25 r5, sV 24 (Fent.row v4), (23, .fad ((Fent.row v4))), sI 22 y1, sC 21 (cF 5 x1 Fent.row), sV 20 (Fent.row v3), (19, .fad ((Fent.row v3))), sI 18 y1, sC 17 (cF 5 x0 Fent.row), sB 14 true, sI 13 (x0.length : Int), sC 12 (cF 5 x0 Fent.row), sI 11 y1, sI 5 y1, sB 4 false, sC 0 (cF 5 x0 Fent.row), sC 1 (cF 5 x1 Fent.row)], []⟩ kr ?_
            cases h3 : (!r5)
            · have H := bifF h3 H
              refine Tr.cond (b := false) kr (fun h => nomatch h) (fun _ => ?_)
              refine Tr.skip ?_
              show Tr _ _ _ _ _
              refine Tr.at ?_
              refine LAt.runU tOk 3 kr ?_
              refine LAt.doneM 134215731 0 kr ?_
              exact Exists.intro (mo2, (IntKind.wrap .i64 (y1 + 1))) (And.intro H (And.intro (Nat.lt_succ_self mo2) (St.sub_of [5, 4, 0, 1] [] kr)))
            · have H := bifT h3 H
              refine Tr.cond (b := true) kr (fun _ => ?_) (fun h => nomatch h)
              refine Tr.rs ?_
              refine LAt.runU tOk 1 kr ?_
              refine LAt.doneM 134117427 0 kr ?_
              refine Tr.ret ?_
              have H := Option.some.inj H
              subst H
              have H := Ho2
              dsimp only at H
              have H := Option.some.inj H
              subst H
              exact Fin.of _ [(false, [cB false])] kr rfl rfl
    · rintro _ H
      have H : (laws_eqFentS_J1 n) = some r := H
      unfold laws_eqFentS_J1 at H
      show Tr _ _ _ _ _
      refine Tr.rs ?_
      refine LAt.runU tOk 1 kr ?_
      refine LAt.doneM 16 0 kr ?_
      refine Tr.ret ?_
      have H := Option.some.inj H
      subst H
      exact Fin.of _ [(false, [cB true])] kr rfl rfl
  · have H := bifT h1 H
    refine Tr.cond (b := true) kr (fun _ => ?_) (fun h => nomatch h)
    refine Tr.rs ?_
    refine LAt.runU tOk 1 kr ?_
    refine LAt.doneM 19 0 kr ?_
    refine Tr.ret ?_
    have H := Option.some.inj H
    subst H
    exact Fin.of _ [(false, [cB false])] kr rfl rfl

def laws_eqVrowF (n : Nat) (x0 : Vrow) (x1 : Vrow) : Option (Bool) :=
  (bif (x0.Id != x1.Id) then (some false) else (bif (x0.Members != x1.Members) then (some false) else (bif (x0.Bare != x1.Bare) then (some false) else (some true))))
/-- loop.example/g00326/laws.eqVrow -/
theorem laws_eqVrow (n : Nat) (x0 : Vrow) (x1 : Vrow) (r : Bool) (H : laws_eqVrowF n x0 x1 = some r) : LCall Try.prog 181 [.val true (CV.frzRow (Vrow.row x0)), .val true (CV.frzRow (Vrow.row x1))] [.val false [.lit (.bool r)]] [] := by
  refine LCall.of_body tOk Try.func181 rfl (c := (.seq (.region 0 (rg Try.f181 0) false) (.seq (.seq (.region 1 (rg Try.f181 1) false) (.cond (.tmp 9) (.seq (.region 2 (rg Try.f181 2) false) .ret) .skip)) (.seq (.seq (.region 3 (rg Try.f181 3) false) (.cond (.tmp 14) (.seq (.region 4 (rg Try.f181 4) false) .ret) .skip)) (.seq (.seq (.region 5 (rg Try.f181 5) false) (.cond (.tmp 19) (.seq (.region 6 (rg Try.f181 6) false) .ret) .skip)) (.seq (.region 7 (rg Try.f181 7) false) .ret)))))) kr (Nat.le_of_ble_eq_true kr) 0 (rs := [.tmp 4]) rfl [] .nil [(false, [.lit (.bool r)])] [] [] fun cx => ?_
  show Tr _ _ _ ⟨20, 0, [sV 0 (Vrow.row x0), sV 1 (Vrow.row x1)], []⟩ _
  unfold laws_eqVrowF at H
  refine Tr.rs ?_
  refine LAt.runU tOk 3 kr ?_
  refine LAt.doneM 28 12 kr ?_
  refine Tr.seq ?_
  refine Tr.rs ?_
  refine LAt.runU tOk 5 kr ?_
  refine LAt.doneM 540 12 kr ?_
  refine Tr.to ⟨20, 0, [sB 9 (x0.Id != x1.Id), sB 4 false, sA 3 3 3 0, sA 2 2 3 0], [(3, (Vrow.row x1)), (2, (Vrow.row x0))]⟩ kr ?_
  cases h1 : (x0.Id != x1.Id)
  · have H := bifF h1 H
    refine Tr.cond (b := false) kr (fun h => nomatch h) (fun _ => ?_)
    refine Tr.skip ?_
    show Tr _ _ _ _ _
    refine Tr.seq ?_
    refine Tr.rs ?_
    refine LAt.runU tOk 5 kr ?_
    refine LAt.doneM 16412 12 kr ?_
    refine Tr.to ⟨20, 0, [sB 14 (x0.Members != x1.Members), sB 4 false, sA 3 3 3 0, sA 2 2 3 0], [(3, (Vrow.row x1)), (2, (Vrow.row x0))]⟩ kr ?_
    cases h2 : (x0.Members != x1.Members)
    · have H := bifF h2 H
      refine Tr.cond (b := false) kr (fun h => nomatch h) (fun _ => ?_)
      refine Tr.skip ?_
      show Tr _ _ _ _ _
      refine Tr.seq ?_
      refine Tr.rs ?_
      refine LAt.runU tOk 5 kr ?_
      refine LAt.doneM 524304 0 kr ?_
      refine Tr.to ⟨20, 0, [sB 19 (x0.Bare != x1.Bare), sB 4 false], []⟩ kr ?_
      cases h3 : (x0.Bare != x1.Bare)
      · have H := bifF h3 H
        refine Tr.cond (b := false) kr (fun h => nomatch h) (fun _ => ?_)
        refine Tr.skip ?_
        show Tr _ _ _ _ _
        refine Tr.rs ?_
        refine LAt.runU tOk 1 kr ?_
        refine LAt.doneM 16 0 kr ?_
        refine Tr.ret ?_
        have H := Option.some.inj H
        subst H
        exact Fin.of _ [(false, [cB true])] kr rfl rfl
      · have H := bifT h3 H
        refine Tr.cond (b := true) kr (fun _ => ?_) (fun h => nomatch h)
        refine Tr.rs ?_
        refine LAt.runU tOk 1 kr ?_
        refine LAt.doneM 16 0 kr ?_
        refine Tr.ret ?_
        have H := Option.some.inj H
        subst H
        exact Fin.of _ [(false, [cB false])] kr rfl rfl
    · have H := bifT h2 H
      refine Tr.cond (b := true) kr (fun _ => ?_) (fun h => nomatch h)
      refine Tr.rs ?_
      refine LAt.runU tOk 1 kr ?_
      refine LAt.doneM 28 12 kr ?_
      refine Tr.ret ?_
      have H := Option.some.inj H
      subst H
      exact Fin.of _ [(false, [cB false])] kr rfl rfl
  · have H := bifT h1 H
    refine Tr.cond (b := true) kr (fun _ => ?_) (fun h => nomatch h)
    refine Tr.rs ?_
    refine LAt.runU tOk 1 kr ?_
    refine LAt.doneM 28 12 kr ?_
    refine Tr.ret ?_
    have H := Option.some.inj H
    subst H
    exact Fin.of _ [(false, [cB false])] kr rfl rfl

def laws_eqVrowS_J1 (n : Nat) : Option (Bool) :=
  (some true)
def laws_eqVrowS_L2 (n : Nat) : Nat → (List Vrow) → (List Vrow) → Int → Option ((Unit) ⊕ (Bool))
  | 0, _, _, _ => none
  | mo2 + 1, x0, x1, y1 => (bif (decide (y1 < (x0.length : Int))) then ((idx x0 y1).bind fun v3 => ((idx x1 y1).bind fun v4 => ((laws_eqVrowF n v3 v4).bind fun r5 => (bif (!r5) then (some (Sum.inr false)) else (laws_eqVrowS_L2 n mo2 x0 x1 (IntKind.wrap .i64 (y1 + 1))))))) else (some (Sum.inl ())))
def laws_eqVrowSF (n : Nat) (x0 : (List Vrow)) (x1 : (List Vrow)) : Option (Bool) :=
  (bif ((x0.length : Int) != (x1.length : Int)) then (some false) else ((laws_eqVrowS_L2 n n x0 x1 0).bind fun o => match o with | .inl _ => (laws_eqVrowS_J1 n) | .inr r => some r))
/-- loop.example/g00326/laws.eqVrowS -/
theorem laws_eqVrowS (n : Nat) (x0 : (List Vrow)) (x1 : (List Vrow)) (r : Bool) (H : laws_eqVrowSF n x0 x1 = some r) : LCall Try.prog 163 [.val false [.sl false 3 (CV.frzEs (x0.map Vrow.row))], .val false [.sl false 3 (CV.frzEs (x1.map Vrow.row))]] [.val false [.lit (.bool r)]] [] := by
  refine LCall.of_body tOk Try.func163 rfl (c := (.seq (.region 0 (rg Try.f163 0) false) (.seq (.seq (.region 1 (rg Try.f163 1) false) (.cond (.tmp 10) (.seq (.region 2 (rg Try.f163 2) false) .ret) .skip)) (.seq (.seq (.region 3 (rg Try.f163 3) false) (.block 0 (.loop (.seq (.seq (.region 4 (rg Try.f163 4) false) (.cond (.tmp 14) .skip (.exit 0))) (.seq (.block 1 (.seq (.region 6 (rg Try.f163 6) true) (.cond (.tmp 26) (.seq (.region 7 (rg Try.f163 7) false) .ret) .skip))) (.region 5 (rg Try.f163 5) false)))))) (.seq (.region 8 (rg Try.f163 8) false) .ret))))) kr (Nat.le_of_ble_eq_true kr) 0 (rs := [.tmp 4]) rfl [] .nil [(false, [.lit (.bool r)])] [] [] fun cx => ?_
  show Tr _ _ _ ⟨27, 0, [sC 0 (cF 3 x0 Vrow.row), sC 1 (cF 3 x1 Vrow.row)], []⟩ _
  unfold laws_eqVrowSF at H
  refine Tr.rs ?_
  refine LAt.runU tOk 1 kr ?_
  refine LAt.doneM 19 0 kr ?_
  refine Tr.seq ?_
  refine Tr.rs ?_
  refine LAt.runU tOk 1 kr ?_
  refine LAt.lenE tOk (t := 57) (ty := 3) (e := 138) (x := (.tmp 6)) (d := 7) (g := none) ⟨(.slot 6), [], 0, false, 3, (CV.frzEs (x0.map Vrow.row))⟩ (x0).length _ kr kr kr kr kr (frz_len _ _) rfl ?_
  refine LAt.runU tOk 1 kr ?_
  refine LAt.lenE tOk (t := 57) (ty := 3) (e := 138) (x := (.tmp 8)) (d := 9) (g := none) ⟨(.slot 8), [], 0, false, 3, (CV.frzEs (x1.map Vrow.row))⟩ (x1).length _ kr kr kr kr kr (frz_len _ _) rfl ?_
  refine LAt.runU tOk 1 kr ?_
  refine LAt.doneM 1043 0 kr ?_
  refine Tr.to ⟨27, 0, [sB 10 ((x0.length : Int) != (x1.length : Int)), sB 4 false, sC 0 (cF 3 x0 Vrow.row), sC 1 (cF 3 x1 Vrow.row)], []⟩ kr ?_
  cases h1 : ((x0.length : Int) != (x1.length : Int))
  · have H := bifF h1 H
    refine Tr.cond (b := false) kr (fun h => nomatch h) (fun _ => ?_)
    refine Tr.skip ?_
    show Tr _ _ _ _ _
    refine Tr.seq ?_
    refine Tr.rs ?_
    refine LAt.runU tOk 1 kr ?_
    refine LAt.doneM 51 0 kr ?_
    obtain ⟨o2, eo2, Ho2⟩ := bind_some H
    clear H
    refine Tr.mid (ι := Unit) (fun v => ⟨27, 0, [sB 4 false], []⟩) (fun v => laws_eqVrowS_J1 n = some r) ?_ ?_
    · refine Tr.block ?_
      refine Tr.loop (ι := Nat × (Int)) (fun v => ⟨27, 0, [sI 5 v.2, sB 4 false, sC 0 (cF 3 x0 Vrow.row), sC 1 (cF 3 x1 Vrow.row)], []⟩) (fun v => laws_eqVrowS_L2 n v.1 x0 x1 v.2 = some o2) (fun v => v.1) (n, 0) eo2 (St.sub_of [5, 4, 0, 1] [] kr) ?_
      rintro ⟨mo2, y1⟩ H
      have H : laws_eqVrowS_L2 n mo2 x0 x1 y1 = some o2 := H
      obtain _ | mo2 := mo2
      · cases (show (none : Option _) = some o2 from H)
      · rw [laws_eqVrowS_L2] at H
        refine Tr.seq ?_
        refine Tr.rs ?_
        refine LAt.runU tOk 2 kr ?_
        refine LAt.lenE tOk (t := 57) (ty := 3) (e := 138) (x := (.tmp 12)) (d := 13) (g := none) ⟨(.slot 12), [], 0, false, 3, (CV.frzEs (x0.map Vrow.row))⟩ (x0).length _ kr kr kr kr kr (frz_len _ _) rfl ?_
        refine LAt.runU tOk 1 kr ?_
        refine LAt.doneM 30771 0 kr ?_
        refine Tr.to ⟨27, 0, [sB 14 (decide (y1 < (x0.length : Int))), sI 13 (x0.length : Int), sC 12 (cF 3 x0 Vrow.row), sI 11 y1, sI 5 y1, sB 4 false, sC 0 (cF 3 x0 Vrow.row), sC 1 (cF 3 x1 Vrow.row)], []⟩ kr ?_
        cases h2 : (decide (y1 < (x0.length : Int)))
        · have H := bifF h2 H
          refine Tr.cond (b := false) kr (fun h => nomatch h) (fun _ => ?_)
          refine Tr.exit ?_
          refine And.intro (fun _ => ?_) (fun h => absurd rfl h)
          have H := Option.some.inj H
          subst H
          have H := Ho2
          dsimp only at H
          exact Exists.intro () (And.intro H (St.sub_of [4] [] kr))
        · have H := bifT h2 H
          refine Tr.cond (b := true) kr (fun _ => ?_) (fun h => nomatch h)
          refine Tr.skip ?_
          show Tr _ _ _ _ _
          refine Tr.seq ?_
          refine Tr.block ?_
          obtain ⟨v3, ev3, H⟩ := bind_some H
          obtain ⟨v4, ev4, H⟩ := bind_some H
          obtain ⟨r5, er5, H⟩ := bind_some H
          refine Tr.draws mixed 10 kr ⟨27, 0, [sB 26 (!r5), sB 25 r5, sV 24 (Vrow.row v4), (23, .fad ((Vrow.row v4))), sI 22 y1, sC 21 (cF 3 x1 Vrow.row), sV 20 (Vrow.row v3), (19, .fad ((Vrow.row v3))), sI 18 y1, sC 17 (cF 3 x0 Vrow.row), sB 14 true, sI 13 (x0.length : Int), sC 12 (cF 3 x0 Vrow.row), sI 11 y1, sI 5 y1, sB 4 false, sC 0 (cF 3 x0 Vrow.row), sC 1 (cF 3 x1 Vrow.row)], []⟩ (fun cx => ?_) ?_
          · refine AT.runU tOk [(0, []), (1, [])] 8 [] [1, 0] rfl kr (fun cx => ?_)
            refine AT.indexF tOk 2 (t := 57) (ty := 0) (x := (.tmp 17)) (y := (.tmp 18)) (d := 19) (g := none) ⟨(.slot 17), [], 0, false, 3, (CV.frzEs (x0.map Vrow.row))⟩ y1 (Vrow.row v3) _ kr kr kr kr kr kr rfl (idx_isF ev3) rfl (fun cx => ?_)
            refine AT.runU tOk [(3, []), (4, []), (5, [])] 4 [] [5, 4, 3, 2, 1, 0] rfl kr (fun cx => ?_)
            refine AT.indexF tOk 6 (t := 57) (ty := 0) (x := (.tmp 21)) (y := (.tmp 22)) (d := 23) (g := none) ⟨(.slot 21), [], 0, false, 3, (CV.frzEs (x1.map Vrow.row))⟩ y1 (Vrow.row v4) _ kr kr kr kr kr kr rfl (idx_isF ev4) rfl (fun cx => ?_)
            refine AT.runU tOk [(7, [])] 2 [] [7, 6, 5, 4, 3, 2, 1, 0] rfl kr (fun cx => ?_)
            refine AT.big1 tOk 8 kr kr ?_
            refine LAt.callU tOk [.rd, .rd] (f := 181) (av := #[.tmp 20, .tmp 24]) (ats := #[138, 138]) (d := (some 25)) (ty := 4) (g := none) kr kr kr [] (laws_eqVrow n v3 v4 r5 er5) kr (.inl rfl) ?_
            refine LAt.fin kr (And.intro (And.intro kr kr) ?_)
            refine AT.runU tOk [(9, [])] 0 [] [9, 8, 7, 6, 5, 4, 3, 2, 1, 0] rfl kr (fun cx => ?_)
            exact AT.done [26, 25, 24, 23, 22, 21, 20, 19, 18, 17, 14, 13, 12, 11, 5, 4, 0, 1] [] _ kr kr rfl
          · refine Tr.to ⟨27, 0, [sB 26 (!r5), sB 25 r5, sV 24 (Vrow.row v4), (23, .fad ((Vrow.row v4))), sI 22 y1, sC 21 (cF 3 x1 Vrow.row), sV 20 (Vrow.row v3), (19, .fad ((Vrow.row v3))), sI 18 y1, sC 17 (cF 3 x0 Vrow.row), sB 14 true, sI 13 (x0.length : Int), sC 12 (cF 3 x0 Vrow.row), sI 11 y1, sI 5 y1, sB 4 false, sC 0 (cF 3 x0 Vrow.row), sC 1 (cF 3 x1 Vrow.row)], []⟩ kr ?_
            cases h3 : (!r5)
            · have H := bifF h3 H
              refine Tr.cond (b := false) kr (fun h => nomatch h) (fun _ => ?_)
              refine Tr.skip ?_
              show Tr _ _ _ _ _
              refine Tr.at ?_
              refine LAt.runU tOk 3 kr ?_
              refine LAt.doneM 134215731 0 kr ?_
              exact Exists.intro (mo2, (IntKind.wrap .i64 (y1 + 1))) (And.intro H (And.intro (Nat.lt_succ_self mo2) (St.sub_of [5, 4, 0, 1] [] kr)))
            · have H := bifT h3 H
              refine Tr.cond (b := true) kr (fun _ => ?_) (fun h => nomatch h)
              refine Tr.rs ?_
              refine LAt.runU tOk 1 kr ?_
              refine LAt.doneM 134117427 0 kr ?_
              refine Tr.ret ?_
              have H := Option.some.inj H
              subst H
              have H := Ho2
              dsimp only at H
              have H := Option.some.inj H
              subst H
              exact Fin.of _ [(false, [cB false])] kr rfl rfl
    · rintro _ H
      have H : (laws_eqVrowS_J1 n) = some r := H
      unfold laws_eqVrowS_J1 at H
      show Tr _ _ _ _ _
      refine Tr.rs ?_
      refine LAt.runU tOk 1 kr ?_
      refine LAt.doneM 16 0 kr ?_
      refine Tr.ret ?_
      have H := Option.some.inj H
      subst H
      exact Fin.of _ [(false, [cB true])] kr rfl rfl
  · have H := bifT h1 H
    refine Tr.cond (b := true) kr (fun _ => ?_) (fun h => nomatch h)
    refine Tr.rs ?_
    refine LAt.runU tOk 1 kr ?_
    refine LAt.doneM 19 0 kr ?_
    refine Tr.ret ?_
    have H := Option.some.inj H
    subst H
    exact Fin.of _ [(false, [cB false])] kr rfl rfl

def laws_eqIntS_J1 (n : Nat) : Option (Bool) :=
  (some true)
def laws_eqIntS_L2 (n : Nat) : Nat → (List Int) → (List Int) → Int → Option ((Unit) ⊕ (Bool))
  | 0, _, _, _ => none
  | mo2 + 1, x0, x1, y1 => (bif (decide (y1 < (x0.length : Int))) then ((idx x0 y1).bind fun v3 => ((idx x1 y1).bind fun v4 => (bif (v3 != v4) then (some (Sum.inr false)) else (laws_eqIntS_L2 n mo2 x0 x1 (IntKind.wrap .i64 (y1 + 1)))))) else (some (Sum.inl ())))
def laws_eqIntSF (n : Nat) (x0 : (List Int)) (x1 : (List Int)) : Option (Bool) :=
  (bif ((x0.length : Int) != (x1.length : Int)) then (some false) else ((laws_eqIntS_L2 n n x0 x1 0).bind fun o => match o with | .inl _ => (laws_eqIntS_J1 n) | .inr r => some r))
/-- loop.example/g00326/laws.eqIntS -/
theorem laws_eqIntS (n : Nat) (x0 : (List Int)) (x1 : (List Int)) (r : Bool) (H : laws_eqIntSF n x0 x1 = some r) : LCall Try.prog 21 [.val false [.sl false 1 (CV.frzEs (x0.map intRow))], .val false [.sl false 1 (CV.frzEs (x1.map intRow))]] [.val false [.lit (.bool r)]] [] := by
  refine LCall.of_body tOk Try.func21 rfl (c := (.seq (.region 0 (rg Try.f21 0) false) (.seq (.seq (.region 1 (rg Try.f21 1) false) (.cond (.tmp 10) (.seq (.region 2 (rg Try.f21 2) false) .ret) .skip)) (.seq (.seq (.region 3 (rg Try.f21 3) false) (.block 0 (.loop (.seq (.seq (.region 4 (rg Try.f21 4) false) (.cond (.tmp 14) .skip (.exit 0))) (.seq (.block 1 (.seq (.region 6 (rg Try.f21 6) true) (.cond (.tmp 25) (.seq (.region 7 (rg Try.f21 7) false) .ret) .skip))) (.region 5 (rg Try.f21 5) false)))))) (.seq (.region 8 (rg Try.f21 8) false) .ret))))) kr (Nat.le_of_ble_eq_true kr) 0 (rs := [.tmp 4]) rfl [] .nil [(false, [.lit (.bool r)])] [] [] fun cx => ?_
  show Tr _ _ _ ⟨26, 0, [sC 0 (cF 1 x0 intRow), sC 1 (cF 1 x1 intRow)], []⟩ _
  unfold laws_eqIntSF at H
  refine Tr.rs ?_
  refine LAt.runU tOk 1 kr ?_
  refine LAt.doneM 19 0 kr ?_
  refine Tr.seq ?_
  refine Tr.rs ?_
  refine LAt.runU tOk 1 kr ?_
  refine LAt.lenE tOk (t := 27) (ty := 3) (e := 3) (x := (.tmp 6)) (d := 7) (g := none) ⟨(.slot 6), [], 0, false, 1, (CV.frzEs (x0.map intRow))⟩ (x0).length _ kr kr kr kr kr (frz_len _ _) rfl ?_
  refine LAt.runU tOk 1 kr ?_
  refine LAt.lenE tOk (t := 27) (ty := 3) (e := 3) (x := (.tmp 8)) (d := 9) (g := none) ⟨(.slot 8), [], 0, false, 1, (CV.frzEs (x1.map intRow))⟩ (x1).length _ kr kr kr kr kr (frz_len _ _) rfl ?_
  refine LAt.runU tOk 1 kr ?_
  refine LAt.doneM 1043 0 kr ?_
  refine Tr.to ⟨26, 0, [sB 10 ((x0.length : Int) != (x1.length : Int)), sB 4 false, sC 0 (cF 1 x0 intRow), sC 1 (cF 1 x1 intRow)], []⟩ kr ?_
  cases h1 : ((x0.length : Int) != (x1.length : Int))
  · have H := bifF h1 H
    refine Tr.cond (b := false) kr (fun h => nomatch h) (fun _ => ?_)
    refine Tr.skip ?_
    show Tr _ _ _ _ _
    refine Tr.seq ?_
    refine Tr.rs ?_
    refine LAt.runU tOk 1 kr ?_
    refine LAt.doneM 51 0 kr ?_
    obtain ⟨o2, eo2, Ho2⟩ := bind_some H
    clear H
    refine Tr.mid (ι := Unit) (fun v => ⟨26, 0, [sB 4 false], []⟩) (fun v => laws_eqIntS_J1 n = some r) ?_ ?_
    · refine Tr.block ?_
      refine Tr.loop (ι := Nat × (Int)) (fun v => ⟨26, 0, [sI 5 v.2, sB 4 false, sC 0 (cF 1 x0 intRow), sC 1 (cF 1 x1 intRow)], []⟩) (fun v => laws_eqIntS_L2 n v.1 x0 x1 v.2 = some o2) (fun v => v.1) (n, 0) eo2 (St.sub_of [5, 4, 0, 1] [] kr) ?_
      rintro ⟨mo2, y1⟩ H
      have H : laws_eqIntS_L2 n mo2 x0 x1 y1 = some o2 := H
      obtain _ | mo2 := mo2
      · cases (show (none : Option _) = some o2 from H)
      · rw [laws_eqIntS_L2] at H
        refine Tr.seq ?_
        refine Tr.rs ?_
        refine LAt.runU tOk 2 kr ?_
        refine LAt.lenE tOk (t := 27) (ty := 3) (e := 3) (x := (.tmp 12)) (d := 13) (g := none) ⟨(.slot 12), [], 0, false, 1, (CV.frzEs (x0.map intRow))⟩ (x0).length _ kr kr kr kr kr (frz_len _ _) rfl ?_
        refine LAt.runU tOk 1 kr ?_
        refine LAt.doneM 30771 0 kr ?_
        refine Tr.to ⟨26, 0, [sB 14 (decide (y1 < (x0.length : Int))), sI 13 (x0.length : Int), sC 12 (cF 1 x0 intRow), sI 11 y1, sI 5 y1, sB 4 false, sC 0 (cF 1 x0 intRow), sC 1 (cF 1 x1 intRow)], []⟩ kr ?_
        cases h2 : (decide (y1 < (x0.length : Int)))
        · have H := bifF h2 H
          refine Tr.cond (b := false) kr (fun h => nomatch h) (fun _ => ?_)
          refine Tr.exit ?_
          refine And.intro (fun _ => ?_) (fun h => absurd rfl h)
          have H := Option.some.inj H
          subst H
          have H := Ho2
          dsimp only at H
          exact Exists.intro () (And.intro H (St.sub_of [4] [] kr))
        · have H := bifT h2 H
          refine Tr.cond (b := true) kr (fun _ => ?_) (fun h => nomatch h)
          refine Tr.skip ?_
          show Tr _ _ _ _ _
          refine Tr.seq ?_
          refine Tr.block ?_
          obtain ⟨v3, ev3, H⟩ := bind_some H
          obtain ⟨v4, ev4, H⟩ := bind_some H
          refine Tr.draws mixed 9 kr ⟨26, 0, [sB 25 (v3 != v4), sI 24 v4, (23, .fad ([cI v4])), sI 22 y1, sC 21 (cF 1 x1 intRow), sI 20 v3, (19, .fad ([cI v3])), sI 18 y1, sC 17 (cF 1 x0 intRow), sB 14 true, sI 13 (x0.length : Int), sC 12 (cF 1 x0 intRow), sI 11 y1, sI 5 y1, sB 4 false, sC 0 (cF 1 x0 intRow), sC 1 (cF 1 x1 intRow)], []⟩ (fun cx => ?_) ?_
          · refine AT.runU tOk [(0, []), (1, [])] 7 [] [1, 0] rfl kr (fun cx => ?_)
            refine AT.indexF tOk 2 (t := 27) (ty := 0) (x := (.tmp 17)) (y := (.tmp 18)) (d := 19) (g := none) ⟨(.slot 17), [], 0, false, 1, (CV.frzEs (x0.map intRow))⟩ y1 [cI v3] _ kr kr kr kr kr kr rfl (idx_isF ev3) rfl (fun cx => ?_)
            refine AT.runU tOk [(3, []), (4, []), (5, [])] 3 [] [5, 4, 3, 2, 1, 0] rfl kr (fun cx => ?_)
            refine AT.indexF tOk 6 (t := 27) (ty := 0) (x := (.tmp 21)) (y := (.tmp 22)) (d := 23) (g := none) ⟨(.slot 21), [], 0, false, 1, (CV.frzEs (x1.map intRow))⟩ y1 [cI v4] _ kr kr kr kr kr kr rfl (idx_isF ev4) rfl (fun cx => ?_)
            refine AT.runU tOk [(7, []), (8, [])] 0 [] [8, 7, 6, 5, 4, 3, 2, 1, 0] rfl kr (fun cx => ?_)
            exact AT.done [25, 24, 23, 22, 21, 20, 19, 18, 17, 14, 13, 12, 11, 5, 4, 0, 1] [] _ kr kr rfl
          · refine Tr.to ⟨26, 0, [sB 25 (v3 != v4), sI 24 v4, (23, .fad ([cI v4])), sI 22 y1, sC 21 (cF 1 x1 intRow), sI 20 v3, (19, .fad ([cI v3])), sI 18 y1, sC 17 (cF 1 x0 intRow), sB 14 true, sI 13 (x0.length : Int), sC 12 (cF 1 x0 intRow), sI 11 y1, sI 5 y1, sB 4 false, sC 0 (cF 1 x0 intRow), sC 1 (cF 1 x1 intRow)], []⟩ kr ?_
            cases h3 : (v3 != v4)
            · have H := bifF h3 H
              refine Tr.cond (b := false) kr (fun h => nomatch h) (fun _ => ?_)
              refine Tr.skip ?_
              show Tr _ _ _ _ _
              refine Tr.at ?_
              refine LAt.runU tOk 3 kr ?_
              refine LAt.doneM 67106867 0 kr ?_
              exact Exists.intro (mo2, (IntKind.wrap .i64 (y1 + 1))) (And.intro H (And.intro (Nat.lt_succ_self mo2) (St.sub_of [5, 4, 0, 1] [] kr)))
            · have H := bifT h3 H
              refine Tr.cond (b := true) kr (fun _ => ?_) (fun h => nomatch h)
              refine Tr.rs ?_
              refine LAt.runU tOk 1 kr ?_
              refine LAt.doneM 67008563 0 kr ?_
              refine Tr.ret ?_
              have H := Option.some.inj H
              subst H
              have H := Ho2
              dsimp only at H
              have H := Option.some.inj H
              subst H
              exact Fin.of _ [(false, [cB false])] kr rfl rfl
    · rintro _ H
      have H : (laws_eqIntS_J1 n) = some r := H
      unfold laws_eqIntS_J1 at H
      show Tr _ _ _ _ _
      refine Tr.rs ?_
      refine LAt.runU tOk 1 kr ?_
      refine LAt.doneM 16 0 kr ?_
      refine Tr.ret ?_
      have H := Option.some.inj H
      subst H
      exact Fin.of _ [(false, [cB true])] kr rfl rfl
  · have H := bifT h1 H
    refine Tr.cond (b := true) kr (fun _ => ?_) (fun h => nomatch h)
    refine Tr.rs ?_
    refine LAt.runU tOk 1 kr ?_
    refine LAt.doneM 19 0 kr ?_
    refine Tr.ret ?_
    have H := Option.some.inj H
    subst H
    exact Fin.of _ [(false, [cB false])] kr rfl rfl

def laws_eqVtabF (n : Nat) (x0 : Vtab) (x1 : Vtab) : Option (Bool) :=
  ((laws_eqVrowSF n x0.Rows x1.Rows).bind fun r1 => (bif (!r1) then (some false) else ((laws_eqIntSF n x0.Pvid x1.Pvid).bind fun r2 => (bif (!r2) then (some false) else (some true)))))
/-- loop.example/g00326/laws.eqVtab -/
theorem laws_eqVtab (n : Nat) (x0 : Vtab) (x1 : Vtab) (r : Bool) (H : laws_eqVtabF n x0 x1 = some r) : LCall Try.prog 108 [.val true (CV.frzRow (Vtab.row x0)), .val true (CV.frzRow (Vtab.row x1))] [.val false [.lit (.bool r)]] [] := by
  refine LCall.of_body tOk Try.func108 rfl (c := (.seq (.region 0 (rg Try.f108 0) false) (.seq (.seq (.region 1 (rg Try.f108 1) false) (.cond (.tmp 10) (.seq (.region 2 (rg Try.f108 2) false) .ret) .skip)) (.seq (.seq (.region 3 (rg Try.f108 3) false) (.cond (.tmp 16) (.seq (.region 4 (rg Try.f108 4) false) .ret) .skip)) (.seq (.region 5 (rg Try.f108 5) false) .ret))))) kr (Nat.le_of_ble_eq_true kr) 0 (rs := [.tmp 4]) rfl [] .nil [(false, [.lit (.bool r)])] [] [] fun cx => ?_
  show Tr _ _ _ ⟨17, 0, [sV 0 (CV.frzRow (Vtab.row x0)), sV 1 (CV.frzRow (Vtab.row x1))], []⟩ _
  unfold laws_eqVtabF at H
  refine Tr.rs ?_
  refine LAt.runU tOk 3 kr ?_
  refine LAt.doneM 28 12 kr ?_
  refine Tr.seq ?_
  refine Tr.rs ?_
  refine LAt.runU tOk 4 kr ?_
  obtain ⟨r1, er1, H⟩ := bind_some H
  refine LAt.callU tOk [.rd, .rd] (f := 163) (av := #[.tmp 6, .tmp 8]) (ats := #[57, 57]) (d := (some 9)) (ty := 4) (g := none) kr kr kr [] (laws_eqVrowS n x0.Rows x1.Rows r1 er1) kr (.inl rfl) ?_
  refine LAt.runU tOk 1 kr ?_
  refine LAt.doneM 1052 12 kr ?_
  refine Tr.to ⟨17, 0, [sB 10 (!r1), sB 4 false, sA 3 3 2 0, sA 2 2 2 0], [(3, (CV.frzRow (Vtab.row x1))), (2, (CV.frzRow (Vtab.row x0)))]⟩ kr ?_
  cases h1 : (!r1)
  · have H := bifF h1 H
    refine Tr.cond (b := false) kr (fun h => nomatch h) (fun _ => ?_)
    refine Tr.skip ?_
    show Tr _ _ _ _ _
    refine Tr.seq ?_
    refine Tr.rs ?_
    refine LAt.runU tOk 4 kr ?_
    obtain ⟨r2, er2, H⟩ := bind_some H
    refine LAt.callU tOk [.rd, .rd] (f := 21) (av := #[.tmp 12, .tmp 14]) (ats := #[27, 27]) (d := (some 15)) (ty := 4) (g := none) kr kr kr [] (laws_eqIntS n x0.Pvid x1.Pvid r2 er2) kr (.inl rfl) ?_
    refine LAt.runU tOk 1 kr ?_
    refine LAt.doneM 65552 0 kr ?_
    refine Tr.to ⟨17, 0, [sB 16 (!r2), sB 4 false], []⟩ kr ?_
    cases h2 : (!r2)
    · have H := bifF h2 H
      refine Tr.cond (b := false) kr (fun h => nomatch h) (fun _ => ?_)
      refine Tr.skip ?_
      show Tr _ _ _ _ _
      refine Tr.rs ?_
      refine LAt.runU tOk 1 kr ?_
      refine LAt.doneM 16 0 kr ?_
      refine Tr.ret ?_
      have H := Option.some.inj H
      subst H
      exact Fin.of _ [(false, [cB true])] kr rfl rfl
    · have H := bifT h2 H
      refine Tr.cond (b := true) kr (fun _ => ?_) (fun h => nomatch h)
      refine Tr.rs ?_
      refine LAt.runU tOk 1 kr ?_
      refine LAt.doneM 16 0 kr ?_
      refine Tr.ret ?_
      have H := Option.some.inj H
      subst H
      exact Fin.of _ [(false, [cB false])] kr rfl rfl
  · have H := bifT h1 H
    refine Tr.cond (b := true) kr (fun _ => ?_) (fun h => nomatch h)
    refine Tr.rs ?_
    refine LAt.runU tOk 1 kr ?_
    refine LAt.doneM 28 12 kr ?_
    refine Tr.ret ?_
    have H := Option.some.inj H
    subst H
    exact Fin.of _ [(false, [cB false])] kr rfl rfl

def laws_eqBridgeF (n : Nat) (x0 : Bridge) (x1 : Bridge) : Option (Bool) :=
  (bif (x0.Id != x1.Id) then (some false) else (bif (!(x0.Name.toList == x1.Name.toList)) then (some false) else ((laws_eqPtSF n x0.Ports x1.Ports).bind fun r1 => (bif (!r1) then (some false) else ((laws_eqFentSF n x0.F x1.F).bind fun r2 => (bif (!r2) then (some false) else ((laws_eqVtabF n x0.V x1.V).bind fun r3 => (bif (!r3) then (some false) else (bif (x0.Ticks != x1.Ticks) then (some false) else (bif (x0.Parse != x1.Parse) then (some false) else (bif (x0.Word != x1.Word) then (some false) else (bif (x0.Drops != x1.Drops) then (some false) else (bif (x0.Vers != x1.Vers) then (some false) else (some true))))))))))))))
/-- loop.example/g00326/laws.eqBridge -/
theorem laws_eqBridge (n : Nat) (x0 : Bridge) (x1 : Bridge) (r : Bool) (H : laws_eqBridgeF n x0 x1 = some r) : LCall Try.prog 39 [.val true (CV.frzRow (Bridge.row x0)), .val true (CV.frzRow (Bridge.row x1))] [.val false [.lit (.bool r)]] [] := by
  refine LCall.of_body tOk Try.func39 rfl (c := (.seq (.region 0 (rg Try.f39 0) false) (.seq (.seq (.region 1 (rg Try.f39 1) false) (.cond (.tmp 9) (.seq (.region 2 (rg Try.f39 2) false) .ret) .skip)) (.seq (.seq (.region 3 (rg Try.f39 3) false) (.cond (.tmp 14) (.seq (.region 4 (rg Try.f39 4) false) .ret) .skip)) (.seq (.seq (.region 5 (rg Try.f39 5) false) (.cond (.tmp 20) (.seq (.region 6 (rg Try.f39 6) false) .ret) .skip)) (.seq (.seq (.region 7 (rg Try.f39 7) false) (.cond (.tmp 26) (.seq (.region 8 (rg Try.f39 8) false) .ret) .skip)) (.seq (.seq (.region 9 (rg Try.f39 9) false) (.cond (.tmp 32) (.seq (.region 10 (rg Try.f39 10) false) .ret) .skip)) (.seq (.seq (.region 11 (rg Try.f39 11) false) (.cond (.tmp 37) (.seq (.region 12 (rg Try.f39 12) false) .ret) .skip)) (.seq (.seq (.region 13 (rg Try.f39 13) false) (.cond (.tmp 42) (.seq (.region 14 (rg Try.f39 14) false) .ret) .skip)) (.seq (.seq (.region 15 (rg Try.f39 15) false) (.cond (.tmp 47) (.seq (.region 16 (rg Try.f39 16) false) .ret) .skip)) (.seq (.seq (.region 17 (rg Try.f39 17) false) (.cond (.tmp 52) (.seq (.region 18 (rg Try.f39 18) false) .ret) .skip)) (.seq (.seq (.region 19 (rg Try.f39 19) false) (.cond (.tmp 57) (.seq (.region 20 (rg Try.f39 20) false) .ret) .skip)) (.seq (.region 21 (rg Try.f39 21) false) .ret))))))))))))) kr (Nat.le_of_ble_eq_true kr) 0 (rs := [.tmp 4]) rfl [] .nil [(false, [.lit (.bool r)])] [] [] fun cx => ?_
  show Tr _ _ _ ⟨58, 0, [sV 0 (CV.frzRow (Bridge.row x0)), sV 1 (CV.frzRow (Bridge.row x1))], []⟩ _
  unfold laws_eqBridgeF at H
  refine Tr.rs ?_
  refine LAt.runU tOk 3 kr ?_
  refine LAt.doneM 28 12 kr ?_
  refine Tr.seq ?_
  refine Tr.rs ?_
  refine LAt.runU tOk 5 kr ?_
  refine LAt.doneM 540 12 kr ?_
  refine Tr.to ⟨58, 0, [sB 9 (x0.Id != x1.Id), sB 4 false, sA 3 3 11 0, sA 2 2 11 0], [(3, (CV.frzRow (Bridge.row x1))), (2, (CV.frzRow (Bridge.row x0)))]⟩ kr ?_
  cases h1 : (x0.Id != x1.Id)
  · have H := bifF h1 H
    refine Tr.cond (b := false) kr (fun h => nomatch h) (fun _ => ?_)
    refine Tr.skip ?_
    show Tr _ _ _ _ _
    refine Tr.seq ?_
    refine Tr.rs ?_
    refine LAt.runU tOk 5 kr ?_
    refine LAt.doneM 16412 12 kr ?_
    refine Tr.to ⟨58, 0, [sB 14 (!(x0.Name.toList == x1.Name.toList)), sB 4 false, sA 3 3 11 0, sA 2 2 11 0], [(3, (CV.frzRow (Bridge.row x1))), (2, (CV.frzRow (Bridge.row x0)))]⟩ kr ?_
    cases h2 : (!(x0.Name.toList == x1.Name.toList))
    · have H := bifF h2 H
      refine Tr.cond (b := false) kr (fun h => nomatch h) (fun _ => ?_)
      refine Tr.skip ?_
      show Tr _ _ _ _ _
      refine Tr.seq ?_
      refine Tr.rs ?_
      refine LAt.runU tOk 4 kr ?_
      obtain ⟨r1, er1, H⟩ := bind_some H
      refine LAt.callU tOk [.rd, .rd] (f := 106) (av := #[.tmp 16, .tmp 18]) (ats := #[55, 55]) (d := (some 19)) (ty := 4) (g := none) kr kr kr [] (laws_eqPtS n x0.Ports x1.Ports r1 er1) kr (.inl rfl) ?_
      refine LAt.runU tOk 1 kr ?_
      refine LAt.doneM 1048604 12 kr ?_
      refine Tr.to ⟨58, 0, [sB 20 (!r1), sB 4 false, sA 3 3 11 0, sA 2 2 11 0], [(3, (CV.frzRow (Bridge.row x1))), (2, (CV.frzRow (Bridge.row x0)))]⟩ kr ?_
      cases h3 : (!r1)
      · have H := bifF h3 H
        refine Tr.cond (b := false) kr (fun h => nomatch h) (fun _ => ?_)
        refine Tr.skip ?_
        show Tr _ _ _ _ _
        refine Tr.seq ?_
        refine Tr.rs ?_
        refine LAt.runU tOk 4 kr ?_
        obtain ⟨r2, er2, H⟩ := bind_some H
        refine LAt.callU tOk [.rd, .rd] (f := 107) (av := #[.tmp 22, .tmp 24]) (ats := #[56, 56]) (d := (some 25)) (ty := 4) (g := none) kr kr kr [] (laws_eqFentS n x0.F x1.F r2 er2) kr (.inl rfl) ?_
        refine LAt.runU tOk 1 kr ?_
        refine LAt.doneM 67108892 12 kr ?_
        refine Tr.to ⟨58, 0, [sB 26 (!r2), sB 4 false, sA 3 3 11 0, sA 2 2 11 0], [(3, (CV.frzRow (Bridge.row x1))), (2, (CV.frzRow (Bridge.row x0)))]⟩ kr ?_
        cases h4 : (!r2)
        · have H := bifF h4 H
          refine Tr.cond (b := false) kr (fun h => nomatch h) (fun _ => ?_)
          refine Tr.skip ?_
          show Tr _ _ _ _ _
          refine Tr.seq ?_
          refine Tr.rs ?_
          refine LAt.runU tOk 4 kr ?_
          obtain ⟨r3, er3, H⟩ := bind_some H
          refine LAt.callU tOk [.rd, .rd] (f := 108) (av := #[.tmp 28, .tmp 30]) (ats := #[59, 59]) (d := (some 31)) (ty := 4) (g := none) kr kr kr [] (laws_eqVtab n x0.V x1.V r3 er3) kr (.inl rfl) ?_
          refine LAt.runU tOk 1 kr ?_
          refine LAt.doneM 4294967324 12 kr ?_
          refine Tr.to ⟨58, 0, [sB 32 (!r3), sB 4 false, sA 3 3 11 0, sA 2 2 11 0], [(3, (CV.frzRow (Bridge.row x1))), (2, (CV.frzRow (Bridge.row x0)))]⟩ kr ?_
          cases h5 : (!r3)
          · have H := bifF h5 H
            refine Tr.cond (b := false) kr (fun h => nomatch h) (fun _ => ?_)
            refine Tr.skip ?_
            show Tr _ _ _ _ _
            refine Tr.seq ?_
            refine Tr.rs ?_
            refine LAt.runU tOk 5 kr ?_
            refine LAt.doneM 137438953500 12 kr ?_
            refine Tr.to ⟨58, 0, [sB 37 (x0.Ticks != x1.Ticks), sB 4 false, sA 3 3 11 0, sA 2 2 11 0], [(3, (CV.frzRow (Bridge.row x1))), (2, (CV.frzRow (Bridge.row x0)))]⟩ kr ?_
            cases h6 : (x0.Ticks != x1.Ticks)
            · have H := bifF h6 H
              refine Tr.cond (b := false) kr (fun h => nomatch h) (fun _ => ?_)
              refine Tr.skip ?_
              show Tr _ _ _ _ _
              refine Tr.seq ?_
              refine Tr.rs ?_
              refine LAt.runU tOk 5 kr ?_
              refine LAt.doneM 4398046511132 12 kr ?_
              refine Tr.to ⟨58, 0, [sB 42 (x0.Parse != x1.Parse), sB 4 false, sA 3 3 11 0, sA 2 2 11 0], [(3, (CV.frzRow (Bridge.row x1))), (2, (CV.frzRow (Bridge.row x0)))]⟩ kr ?_
              cases h7 : (x0.Parse != x1.Parse)
              · have H := bifF h7 H
                refine Tr.cond (b := false) kr (fun h => nomatch h) (fun _ => ?_)
                refine Tr.skip ?_
                show Tr _ _ _ _ _
                refine Tr.seq ?_
                refine Tr.rs ?_
                refine LAt.runU tOk 5 kr ?_
                refine LAt.doneM 140737488355356 12 kr ?_
                refine Tr.to ⟨58, 0, [sB 47 (x0.Word != x1.Word), sB 4 false, sA 3 3 11 0, sA 2 2 11 0], [(3, (CV.frzRow (Bridge.row x1))), (2, (CV.frzRow (Bridge.row x0)))]⟩ kr ?_
                cases h8 : (x0.Word != x1.Word)
                · have H := bifF h8 H
                  refine Tr.cond (b := false) kr (fun h => nomatch h) (fun _ => ?_)
                  refine Tr.skip ?_
                  show Tr _ _ _ _ _
                  refine Tr.seq ?_
                  refine Tr.rs ?_
                  refine LAt.runU tOk 5 kr ?_
                  refine LAt.doneM 4503599627370524 12 kr ?_
                  refine Tr.to ⟨58, 0, [sB 52 (x0.Drops != x1.Drops), sB 4 false, sA 3 3 11 0, sA 2 2 11 0], [(3, (CV.frzRow (Bridge.row x1))), (2, (CV.frzRow (Bridge.row x0)))]⟩ kr ?_
                  cases h9 : (x0.Drops != x1.Drops)
                  · have H := bifF h9 H
                    refine Tr.cond (b := false) kr (fun h => nomatch h) (fun _ => ?_)
                    refine Tr.skip ?_
                    show Tr _ _ _ _ _
                    refine Tr.seq ?_
                    refine Tr.rs ?_
                    refine LAt.runU tOk 5 kr ?_
                    refine LAt.doneM 144115188075855888 0 kr ?_
                    refine Tr.to ⟨58, 0, [sB 57 (x0.Vers != x1.Vers), sB 4 false], []⟩ kr ?_
                    cases h10 : (x0.Vers != x1.Vers)
                    · have H := bifF h10 H
                      refine Tr.cond (b := false) kr (fun h => nomatch h) (fun _ => ?_)
                      refine Tr.skip ?_
                      show Tr _ _ _ _ _
                      refine Tr.rs ?_
                      refine LAt.runU tOk 1 kr ?_
                      refine LAt.doneM 16 0 kr ?_
                      refine Tr.ret ?_
                      have H := Option.some.inj H
                      subst H
                      exact Fin.of _ [(false, [cB true])] kr rfl rfl
                    · have H := bifT h10 H
                      refine Tr.cond (b := true) kr (fun _ => ?_) (fun h => nomatch h)
                      refine Tr.rs ?_
                      refine LAt.runU tOk 1 kr ?_
                      refine LAt.doneM 16 0 kr ?_
                      refine Tr.ret ?_
                      have H := Option.some.inj H
                      subst H
                      exact Fin.of _ [(false, [cB false])] kr rfl rfl
                  · have H := bifT h9 H
                    refine Tr.cond (b := true) kr (fun _ => ?_) (fun h => nomatch h)
                    refine Tr.rs ?_
                    refine LAt.runU tOk 1 kr ?_
                    refine LAt.doneM 28 12 kr ?_
                    refine Tr.ret ?_
                    have H := Option.some.inj H
                    subst H
                    exact Fin.of _ [(false, [cB false])] kr rfl rfl
                · have H := bifT h8 H
                  refine Tr.cond (b := true) kr (fun _ => ?_) (fun h => nomatch h)
                  refine Tr.rs ?_
                  refine LAt.runU tOk 1 kr ?_
                  refine LAt.doneM 28 12 kr ?_
                  refine Tr.ret ?_
                  have H := Option.some.inj H
                  subst H
                  exact Fin.of _ [(false, [cB false])] kr rfl rfl
              · have H := bifT h7 H
                refine Tr.cond (b := true) kr (fun _ => ?_) (fun h => nomatch h)
                refine Tr.rs ?_
                refine LAt.runU tOk 1 kr ?_
                refine LAt.doneM 28 12 kr ?_
                refine Tr.ret ?_
                have H := Option.some.inj H
                subst H
                exact Fin.of _ [(false, [cB false])] kr rfl rfl
            · have H := bifT h6 H
              refine Tr.cond (b := true) kr (fun _ => ?_) (fun h => nomatch h)
              refine Tr.rs ?_
              refine LAt.runU tOk 1 kr ?_
              refine LAt.doneM 28 12 kr ?_
              refine Tr.ret ?_
              have H := Option.some.inj H
              subst H
              exact Fin.of _ [(false, [cB false])] kr rfl rfl
          · have H := bifT h5 H
            refine Tr.cond (b := true) kr (fun _ => ?_) (fun h => nomatch h)
            refine Tr.rs ?_
            refine LAt.runU tOk 1 kr ?_
            refine LAt.doneM 28 12 kr ?_
            refine Tr.ret ?_
            have H := Option.some.inj H
            subst H
            exact Fin.of _ [(false, [cB false])] kr rfl rfl
        · have H := bifT h4 H
          refine Tr.cond (b := true) kr (fun _ => ?_) (fun h => nomatch h)
          refine Tr.rs ?_
          refine LAt.runU tOk 1 kr ?_
          refine LAt.doneM 28 12 kr ?_
          refine Tr.ret ?_
          have H := Option.some.inj H
          subst H
          exact Fin.of _ [(false, [cB false])] kr rfl rfl
      · have H := bifT h3 H
        refine Tr.cond (b := true) kr (fun _ => ?_) (fun h => nomatch h)
        refine Tr.rs ?_
        refine LAt.runU tOk 1 kr ?_
        refine LAt.doneM 28 12 kr ?_
        refine Tr.ret ?_
        have H := Option.some.inj H
        subst H
        exact Fin.of _ [(false, [cB false])] kr rfl rfl
    · have H := bifT h2 H
      refine Tr.cond (b := true) kr (fun _ => ?_) (fun h => nomatch h)
      refine Tr.rs ?_
      refine LAt.runU tOk 1 kr ?_
      refine LAt.doneM 28 12 kr ?_
      refine Tr.ret ?_
      have H := Option.some.inj H
      subst H
      exact Fin.of _ [(false, [cB false])] kr rfl rfl
  · have H := bifT h1 H
    refine Tr.cond (b := true) kr (fun _ => ?_) (fun h => nomatch h)
    refine Tr.rs ?_
    refine LAt.runU tOk 1 kr ?_
    refine LAt.doneM 28 12 kr ?_
    refine Tr.ret ?_
    have H := Option.some.inj H
    subst H
    exact Fin.of _ [(false, [cB false])] kr rfl rfl

def laws_markPtS_J1 (n : Nat) (y4 : (List Pt)) (y5 : Int) : Option (Int × (List Pt)) :=
  (some (y5, y4))
def laws_markPtS_L2 (n : Nat) : Nat → Int → (List Pt) → Int → Option (((List Pt) × Int) ⊕ (Int × (List Pt)))
  | 0, _, _, _ => none
  | mo6 + 1, y1, y2, y3 => (bif (decide (y1 < (y2.length : Int))) then (bif (decide ((3 : Int) ≠ 0)) then ((idx y2 y1).bind fun v8 => ((idx (y2.set (y1.toNat) (⟨((Int.tmod y3 3) == 0), v8.Cost, v8.Has, v8.Heard⟩ : Pt)) y1).bind fun v9 => (bif (decide ((3 : Int) ≠ 0)) then ((idx ((y2.set (y1.toNat) (⟨((Int.tmod y3 3) == 0), v8.Cost, v8.Has, v8.Heard⟩ : Pt)).set (y1.toNat) (⟨v9.Up, (IntKind.wrap .i64 (y3 + 1)), v9.Has, v9.Heard⟩ : Pt)) y1).bind fun v11 => ((idx (((y2.set (y1.toNat) (⟨((Int.tmod y3 3) == 0), v8.Cost, v8.Has, v8.Heard⟩ : Pt)).set (y1.toNat) (⟨v9.Up, (IntKind.wrap .i64 (y3 + 1)), v9.Has, v9.Heard⟩ : Pt)).set (y1.toNat) (⟨v11.Up, v11.Cost, ((Int.tmod (IntKind.wrap .i64 ((IntKind.wrap .i64 (y3 + 1)) + 1)) 3) == 0), v11.Heard⟩ : Pt)) y1).bind fun v12 => ((idx ((((y2.set (y1.toNat) (⟨((Int.tmod y3 3) == 0), v8.Cost, v8.Has, v8.Heard⟩ : Pt)).set (y1.toNat) (⟨v9.Up, (IntKind.wrap .i64 (y3 + 1)), v9.Has, v9.Heard⟩ : Pt)).set (y1.toNat) (⟨v11.Up, v11.Cost, ((Int.tmod (IntKind.wrap .i64 ((IntKind.wrap .i64 (y3 + 1)) + 1)) 3) == 0), v11.Heard⟩ : Pt)).set (y1.toNat) (⟨v12.Up, v12.Cost, v12.Has, (⟨(IntKind.wrap .i64 ((IntKind.wrap .i64 ((IntKind.wrap .i64 (y3 + 1)) + 1)) + 1)), v12.Heard.Cost, v12.Heard.Hops, v12.Heard.Bridge, v12.Heard.Port⟩ : Vec)⟩ : Pt)) y1).bind fun v13 => ((idx (((((y2.set (y1.toNat) (⟨((Int.tmod y3 3) == 0), v8.Cost, v8.Has, v8.Heard⟩ : Pt)).set (y1.toNat) (⟨v9.Up, (IntKind.wrap .i64 (y3 + 1)), v9.Has, v9.Heard⟩ : Pt)).set (y1.toNat) (⟨v11.Up, v11.Cost, ((Int.tmod (IntKind.wrap .i64 ((IntKind.wrap .i64 (y3 + 1)) + 1)) 3) == 0), v11.Heard⟩ : Pt)).set (y1.toNat) (⟨v12.Up, v12.Cost, v12.Has, (⟨(IntKind.wrap .i64 ((IntKind.wrap .i64 ((IntKind.wrap .i64 (y3 + 1)) + 1)) + 1)), v12.Heard.Cost, v12.Heard.Hops, v12.Heard.Bridge, v12.Heard.Port⟩ : Vec)⟩ : Pt)).set (y1.toNat) (⟨v13.Up, v13.Cost, v13.Has, (⟨v13.Heard.Root, (IntKind.wrap .i64 ((IntKind.wrap .i64 ((IntKind.wrap .i64 ((IntKind.wrap .i64 (y3 + 1)) + 1)) + 1)) + 1)), v13.Heard.Hops, v13.Heard.Bridge, v13.Heard.Port⟩ : Vec)⟩ : Pt)) y1).bind fun v14 => ((idx ((((((y2.set (y1.toNat) (⟨((Int.tmod y3 3) == 0), v8.Cost, v8.Has, v8.Heard⟩ : Pt)).set (y1.toNat) (⟨v9.Up, (IntKind.wrap .i64 (y3 + 1)), v9.Has, v9.Heard⟩ : Pt)).set (y1.toNat) (⟨v11.Up, v11.Cost, ((Int.tmod (IntKind.wrap .i64 ((IntKind.wrap .i64 (y3 + 1)) + 1)) 3) == 0), v11.Heard⟩ : Pt)).set (y1.toNat) (⟨v12.Up, v12.Cost, v12.Has, (⟨(IntKind.wrap .i64 ((IntKind.wrap .i64 ((IntKind.wrap .i64 (y3 + 1)) + 1)) + 1)), v12.Heard.Cost, v12.Heard.Hops, v12.Heard.Bridge, v12.Heard.Port⟩ : Vec)⟩ : Pt)).set (y1.toNat) (⟨v13.Up, v13.Cost, v13.Has, (⟨v13.Heard.Root, (IntKind.wrap .i64 ((IntKind.wrap .i64 ((IntKind.wrap .i64 ((IntKind.wrap .i64 (y3 + 1)) + 1)) + 1)) + 1)), v13.Heard.Hops, v13.Heard.Bridge, v13.Heard.Port⟩ : Vec)⟩ : Pt)).set (y1.toNat) (⟨v14.Up, v14.Cost, v14.Has, (⟨v14.Heard.Root, v14.Heard.Cost, (IntKind.wrap .i64 ((IntKind.wrap .i64 ((IntKind.wrap .i64 ((IntKind.wrap .i64 ((IntKind.wrap .i64 (y3 + 1)) + 1)) + 1)) + 1)) + 1)), v14.Heard.Bridge, v14.Heard.Port⟩ : Vec)⟩ : Pt)) y1).bind fun v15 => ((idx (((((((y2.set (y1.toNat) (⟨((Int.tmod y3 3) == 0), v8.Cost, v8.Has, v8.Heard⟩ : Pt)).set (y1.toNat) (⟨v9.Up, (IntKind.wrap .i64 (y3 + 1)), v9.Has, v9.Heard⟩ : Pt)).set (y1.toNat) (⟨v11.Up, v11.Cost, ((Int.tmod (IntKind.wrap .i64 ((IntKind.wrap .i64 (y3 + 1)) + 1)) 3) == 0), v11.Heard⟩ : Pt)).set (y1.toNat) (⟨v12.Up, v12.Cost, v12.Has, (⟨(IntKind.wrap .i64 ((IntKind.wrap .i64 ((IntKind.wrap .i64 (y3 + 1)) + 1)) + 1)), v12.Heard.Cost, v12.Heard.Hops, v12.Heard.Bridge, v12.Heard.Port⟩ : Vec)⟩ : Pt)).set (y1.toNat) (⟨v13.Up, v13.Cost, v13.Has, (⟨v13.Heard.Root, (IntKind.wrap .i64 ((IntKind.wrap .i64 ((IntKind.wrap .i64 ((IntKind.wrap .i64 (y3 + 1)) + 1)) + 1)) + 1)), v13.Heard.Hops, v13.Heard.Bridge, v13.Heard.Port⟩ : Vec)⟩ : Pt)).set (y1.toNat) (⟨v14.Up, v14.Cost, v14.Has, (⟨v14.Heard.Root, v14.Heard.Cost, (IntKind.wrap .i64 ((IntKind.wrap .i64 ((IntKind.wrap .i64 ((IntKind.wrap .i64 ((IntKind.wrap .i64 (y3 + 1)) + 1)) + 1)) + 1)) + 1)), v14.Heard.Bridge, v14.Heard.Port⟩ : Vec)⟩ : Pt)).set (y1.toNat) (⟨v15.Up, v15.Cost, v15.Has, (⟨v15.Heard.Root, v15.Heard.Cost, v15.Heard.Hops, (IntKind.wrap .i64 ((IntKind.wrap .i64 ((IntKind.wrap .i64 ((IntKind.wrap .i64 ((IntKind.wrap .i64 ((IntKind.wrap .i64 (y3 + 1)) + 1)) + 1)) + 1)) + 1)) + 1)), v15.Heard.Port⟩ : Vec)⟩ : Pt)) y1).bind fun v16 => (laws_markPtS_L2 n mo6 (IntKind.wrap .i64 (y1 + 1)) ((((((((y2.set (y1.toNat) (⟨((Int.tmod y3 3) == 0), v8.Cost, v8.Has, v8.Heard⟩ : Pt)).set (y1.toNat) (⟨v9.Up, (IntKind.wrap .i64 (y3 + 1)), v9.Has, v9.Heard⟩ : Pt)).set (y1.toNat) (⟨v11.Up, v11.Cost, ((Int.tmod (IntKind.wrap .i64 ((IntKind.wrap .i64 (y3 + 1)) + 1)) 3) == 0), v11.Heard⟩ : Pt)).set (y1.toNat) (⟨v12.Up, v12.Cost, v12.Has, (⟨(IntKind.wrap .i64 ((IntKind.wrap .i64 ((IntKind.wrap .i64 (y3 + 1)) + 1)) + 1)), v12.Heard.Cost, v12.Heard.Hops, v12.Heard.Bridge, v12.Heard.Port⟩ : Vec)⟩ : Pt)).set (y1.toNat) (⟨v13.Up, v13.Cost, v13.Has, (⟨v13.Heard.Root, (IntKind.wrap .i64 ((IntKind.wrap .i64 ((IntKind.wrap .i64 ((IntKind.wrap .i64 (y3 + 1)) + 1)) + 1)) + 1)), v13.Heard.Hops, v13.Heard.Bridge, v13.Heard.Port⟩ : Vec)⟩ : Pt)).set (y1.toNat) (⟨v14.Up, v14.Cost, v14.Has, (⟨v14.Heard.Root, v14.Heard.Cost, (IntKind.wrap .i64 ((IntKind.wrap .i64 ((IntKind.wrap .i64 ((IntKind.wrap .i64 ((IntKind.wrap .i64 (y3 + 1)) + 1)) + 1)) + 1)) + 1)), v14.Heard.Bridge, v14.Heard.Port⟩ : Vec)⟩ : Pt)).set (y1.toNat) (⟨v15.Up, v15.Cost, v15.Has, (⟨v15.Heard.Root, v15.Heard.Cost, v15.Heard.Hops, (IntKind.wrap .i64 ((IntKind.wrap .i64 ((IntKind.wrap .i64 ((IntKind.wrap .i64 ((IntKind.wrap .i64 ((IntKind.wrap .i64 (y3 + 1)) + 1)) + 1)) + 1)) + 1)) + 1)), v15.Heard.Port⟩ : Vec)⟩ : Pt)).set (y1.toNat) (⟨v16.Up, v16.Cost, v16.Has, (⟨v16.Heard.Root, v16.Heard.Cost, v16.Heard.Hops, v16.Heard.Bridge, (IntKind.wrap .i64 ((IntKind.wrap .i64 ((IntKind.wrap .i64 ((IntKind.wrap .i64 ((IntKind.wrap .i64 ((IntKind.wrap .i64 ((IntKind.wrap .i64 (y3 + 1)) + 1)) + 1)) + 1)) + 1)) + 1)) + 1))⟩ : Vec)⟩ : Pt)) (IntKind.wrap .i64 ((IntKind.wrap .i64 ((IntKind.wrap .i64 ((IntKind.wrap .i64 ((IntKind.wrap .i64 ((IntKind.wrap .i64 ((IntKind.wrap .i64 ((IntKind.wrap .i64 (y3 + 1)) + 1)) + 1)) + 1)) + 1)) + 1)) + 1)) + 1))))))))) else none))) else none) else (some (Sum.inl (y2, y3))))
def laws_markPtSF (n : Nat) (x0 : (List Pt)) (x1 : Int) : Option (Int × (List Pt)) :=
  ((laws_markPtS_L2 n n 0 x0 x1).bind fun o => match o with | .inl (y4, y5) => (laws_markPtS_J1 n y4 y5) | .inr r => some r)
/-- loop.example/g00326/laws.markPtS -/
theorem laws_markPtS (n : Nat) (x0 : (List Pt)) (x1 : Int) (r : Int × (List Pt)) (H : laws_markPtSF n x0 x1 = some r) : LCall Try.prog 109 [.io false [.sl true 8 (x0.map Pt.row)], .val false [.lit (.int .i64 x1)]] [.val false [.lit (.int .i64 r.1)]] [(0, [.sl true 8 (r.2.map Pt.row)])] := by
  refine LCall.of_body tOk Try.func109 rfl (c := (.seq (.region 0 (rg Try.f109 0) false) (.seq (.seq (.region 1 (rg Try.f109 1) false) (.block 0 (.loop (.seq (.seq (.region 2 (rg Try.f109 2) false) (.cond (.tmp 9) .skip (.exit 0))) (.seq (.block 1 (.seq (.region 4 (rg Try.f109 4) false) (.seq (.region 5 (rg Try.f109 5) false) (.seq (.region 6 (rg Try.f109 6) false) (.seq (.region 7 (rg Try.f109 7) false) (.seq (.region 8 (rg Try.f109 8) false) (.seq (.region 9 (rg Try.f109 9) false) (.seq (.region 10 (rg Try.f109 10) false) (.seq (.region 11 (rg Try.f109 11) false) (.seq (.region 12 (rg Try.f109 12) false) (.seq (.region 13 (rg Try.f109 13) false) (.seq (.region 14 (rg Try.f109 14) false) (.seq (.region 15 (rg Try.f109 15) false) (.seq (.region 16 (rg Try.f109 16) false) (.seq (.region 17 (rg Try.f109 17) false) (.seq (.region 18 (rg Try.f109 18) false) (.region 19 (rg Try.f109 19) false))))))))))))))))) (.region 3 (rg Try.f109 3) false)))))) (.seq (.region 20 (rg Try.f109 20) false) .ret)))) kr (Nat.le_of_ble_eq_true kr) 1 (rs := [.tmp 4]) rfl [0] (by decide) [(false, [.lit (.int .i64 r.1)])] [[.sl true 8 (r.2.map Pt.row)]] [] fun cx => ?_
  show Tr _ _ _ ⟨78, 1, [sC 0 (cL 8 x0 Pt.row), sI 1 x1], []⟩ _
  unfold laws_markPtSF at H
  refine Tr.rs ?_
  refine LAt.runU tOk 1 kr ?_
  refine LAt.doneM 19 0 kr ?_
  refine Tr.seq ?_
  refine Tr.rs ?_
  refine LAt.runU tOk 1 kr ?_
  refine LAt.doneM 51 0 kr ?_
  obtain ⟨o6, eo6, Ho6⟩ := bind_some H
  clear H
  refine Tr.mid (ι := (List Pt) × Int) (fun v => ⟨78, 1, [sI 4 0, sC 0 (cL 8 v.1 Pt.row), sI 1 v.2], []⟩) (fun v => laws_markPtS_J1 n v.1 v.2 = some r) ?_ ?_
  · refine Tr.block ?_
    refine Tr.loop (ι := Nat × (Int × (List Pt) × Int)) (fun v => ⟨78, 1, [sI 5 v.2.1, sI 4 0, sC 0 (cL 8 v.2.2.1 Pt.row), sI 1 v.2.2.2], []⟩) (fun v => laws_markPtS_L2 n v.1 v.2.1 v.2.2.1 v.2.2.2 = some o6) (fun v => v.1) (n, (0, x0, x1)) eo6 (St.sub_of [5, 4, 0, 1] [] kr) ?_
    rintro ⟨mo6, y1, y2, y3⟩ H
    have H : laws_markPtS_L2 n mo6 y1 y2 y3 = some o6 := H
    obtain _ | mo6 := mo6
    · cases (show (none : Option _) = some o6 from H)
    · rw [laws_markPtS_L2] at H
      refine Tr.seq ?_
      refine Tr.rs ?_
      refine LAt.runU tOk 2 kr ?_
      refine LAt.lenE tOk (t := 55) (ty := 3) (e := 114) (x := (.tmp 7)) (d := 8) (g := none) ⟨(.slot 0), [], 0, true, 8, (y2.map Pt.row)⟩ (y2).length _ kr kr kr kr kr (map_len _ _) rfl ?_
      refine LAt.runU tOk 1 kr ?_
      refine LAt.doneM 1011 0 kr ?_
      refine Tr.to ⟨78, 1, [sB 9 (decide (y1 < (y2.length : Int))), sI 8 (y2.length : Int), (7, .ref (.slot 0) [] 0 0 1 false), sI 6 y1, sI 5 y1, sI 4 0, sC 0 (cL 8 y2 Pt.row), sI 1 y3], []⟩ kr ?_
      cases h1 : (decide (y1 < (y2.length : Int)))
      · have H := bifF h1 H
        refine Tr.cond (b := false) kr (fun h => nomatch h) (fun _ => ?_)
        refine Tr.exit ?_
        refine And.intro (fun _ => ?_) (fun h => absurd rfl h)
        have H := Option.some.inj H
        subst H
        have H := Ho6
        dsimp only at H
        exact Exists.intro (y2, y3) (And.intro H (St.sub_of [4, 0, 1] [] kr))
      · have H := bifT h1 H
        refine Tr.cond (b := true) kr (fun _ => ?_) (fun h => nomatch h)
        refine Tr.skip ?_
        show Tr _ _ _ _ _
        refine Tr.seq ?_
        refine Tr.block ?_
        refine Tr.rs ?_
        refine LAt.runU tOk 3 kr ?_
        obtain ⟨hg7, H⟩ := guard_some H
        refine LAt.binC tOk (op := .rem) (t := 3) (ty := 3) (ty' := 3) (x := (.tmp 14)) (y := (.const (.int .i64 3))) (d := 15) (g := none) (.int .i64 y3) (.int .i64 3) (.int .i64 (Int.tmod y3 3)) _ kr kr kr kr kr (φ := (IntKind.i64 = IntKind.i64 ∧ (3 : Int) ≠ 0)) kr (⟨rfl, of_decide_eq_true hg7⟩) rfl ?_
        refine LAt.runU tOk 1 kr ?_
        obtain ⟨v8, ev8, H⟩ := bind_some H
        refine LAt.indexO tOk (t := 55) (ty := 0) (x := (.tmp 12)) (y := (.tmp 13)) (d := 17) (g := none) ⟨(.slot 0), [], 0, true, 8, (y2.map Pt.row)⟩ y1 (y1.toNat) (Pt.row v8) _ kr kr kr kr rfl kr (idx_isE ev8) rfl rfl ?_
        refine LAt.runU tOk 1 kr ?_
        refine LAt.storeK tOk (t := 4) (ty := 0) (ad := (.tmp 18)) (x := (.tmp 16)) (g := none) ⟨.bool, 1, 1, [.lit (.bool false)]⟩ false [cB ((Int.tmod y3 3) == 0)] (.slot 0) [(0, (y1.toNat))] [(0, (y1.toNat))] 8 0 [cL 8 y2 Pt.row] (Pt.row v8) [cL 8 y2 Pt.row] [cL 8 (y2.set (y1.toNat) (⟨((Int.tmod y3 3) == 0), v8.Cost, v8.Has, v8.Heard⟩ : Pt)) Pt.row] kr kr kr kr kr kr (getQ_elem rfl (idx_get ev8).2) rfl (by intro h; cases h) kr kr kr (modQ_elem (new := (⟨((Int.tmod y3 3) == 0), v8.Cost, v8.Has, v8.Heard⟩ : Pt)) rfl (idx_get ev8).2 rfl) kr ?_
        refine LAt.doneM 521203 0 kr ?_
        refine Tr.rs ?_
        refine LAt.runU tOk 3 kr ?_
        refine LAt.doneM 2094067 0 kr ?_
        refine Tr.rs ?_
        refine LAt.runU tOk 3 kr ?_
        obtain ⟨v9, ev9, H⟩ := bind_some H
        refine LAt.indexO tOk (t := 55) (ty := 0) (x := (.tmp 21)) (y := (.tmp 22)) (d := 24) (g := none) ⟨(.slot 0), [], 0, true, 8, ((y2.set (y1.toNat) (⟨((Int.tmod y3 3) == 0), v8.Cost, v8.Has, v8.Heard⟩ : Pt)).map Pt.row)⟩ y1 (y1.toNat) (Pt.row v9) _ kr kr kr kr rfl kr (idx_isE ev9) rfl rfl ?_
        refine LAt.runU tOk 1 kr ?_
        refine LAt.storeK tOk (t := 3) (ty := 0) (ad := (.tmp 25)) (x := (.tmp 23)) (g := none) ⟨.int .i64, 1, 8, [.lit (.int .i64 0)]⟩ false [cI (IntKind.wrap .i64 (y3 + 1))] (.slot 0) [(0, (y1.toNat))] [(0, (y1.toNat))] 8 1 [cL 8 (y2.set (y1.toNat) (⟨((Int.tmod y3 3) == 0), v8.Cost, v8.Has, v8.Heard⟩ : Pt)) Pt.row] (Pt.row v9) [cL 8 (y2.set (y1.toNat) (⟨((Int.tmod y3 3) == 0), v8.Cost, v8.Has, v8.Heard⟩ : Pt)) Pt.row] [cL 8 ((y2.set (y1.toNat) (⟨((Int.tmod y3 3) == 0), v8.Cost, v8.Has, v8.Heard⟩ : Pt)).set (y1.toNat) (⟨v9.Up, (IntKind.wrap .i64 (y3 + 1)), v9.Has, v9.Heard⟩ : Pt)) Pt.row] kr kr kr kr kr kr (getQ_elem rfl (idx_get ev9).2) rfl (by intro h; cases h) kr kr kr (modQ_elem (new := (⟨v9.Up, (IntKind.wrap .i64 (y3 + 1)), v9.Has, v9.Heard⟩ : Pt)) rfl (idx_get ev9).2 rfl) kr ?_
        refine LAt.doneM 67105779 0 kr ?_
        refine Tr.rs ?_
        refine LAt.runU tOk 3 kr ?_
        refine LAt.doneM 268432371 0 kr ?_
        refine Tr.rs ?_
        refine LAt.runU tOk 3 kr ?_
        obtain ⟨hg10, H⟩ := guard_some H
        refine LAt.binC tOk (op := .rem) (t := 3) (ty := 3) (ty' := 3) (x := (.tmp 30)) (y := (.const (.int .i64 3))) (d := 31) (g := none) (.int .i64 (IntKind.wrap .i64 ((IntKind.wrap .i64 (y3 + 1)) + 1))) (.int .i64 3) (.int .i64 (Int.tmod (IntKind.wrap .i64 ((IntKind.wrap .i64 (y3 + 1)) + 1)) 3)) _ kr kr kr kr kr (φ := (IntKind.i64 = IntKind.i64 ∧ (3 : Int) ≠ 0)) kr (⟨rfl, of_decide_eq_true hg10⟩) rfl ?_
        refine LAt.runU tOk 1 kr ?_
        obtain ⟨v11, ev11, H⟩ := bind_some H
        refine LAt.indexO tOk (t := 55) (ty := 0) (x := (.tmp 28)) (y := (.tmp 29)) (d := 33) (g := none) ⟨(.slot 0), [], 0, true, 8, (((y2.set (y1.toNat) (⟨((Int.tmod y3 3) == 0), v8.Cost, v8.Has, v8.Heard⟩ : Pt)).set (y1.toNat) (⟨v9.Up, (IntKind.wrap .i64 (y3 + 1)), v9.Has, v9.Heard⟩ : Pt)).map Pt.row)⟩ y1 (y1.toNat) (Pt.row v11) _ kr kr kr kr rfl kr (idx_isE ev11) rfl rfl ?_
        refine LAt.runU tOk 1 kr ?_
        refine LAt.storeK tOk (t := 4) (ty := 0) (ad := (.tmp 34)) (x := (.tmp 32)) (g := none) ⟨.bool, 1, 1, [.lit (.bool false)]⟩ false [cB ((Int.tmod (IntKind.wrap .i64 ((IntKind.wrap .i64 (y3 + 1)) + 1)) 3) == 0)] (.slot 0) [(0, (y1.toNat))] [(0, (y1.toNat))] 8 2 [cL 8 ((y2.set (y1.toNat) (⟨((Int.tmod y3 3) == 0), v8.Cost, v8.Has, v8.Heard⟩ : Pt)).set (y1.toNat) (⟨v9.Up, (IntKind.wrap .i64 (y3 + 1)), v9.Has, v9.Heard⟩ : Pt)) Pt.row] (Pt.row v11) [cL 8 ((y2.set (y1.toNat) (⟨((Int.tmod y3 3) == 0), v8.Cost, v8.Has, v8.Heard⟩ : Pt)).set (y1.toNat) (⟨v9.Up, (IntKind.wrap .i64 (y3 + 1)), v9.Has, v9.Heard⟩ : Pt)) Pt.row] [cL 8 (((y2.set (y1.toNat) (⟨((Int.tmod y3 3) == 0), v8.Cost, v8.Has, v8.Heard⟩ : Pt)).set (y1.toNat) (⟨v9.Up, (IntKind.wrap .i64 (y3 + 1)), v9.Has, v9.Heard⟩ : Pt)).set (y1.toNat) (⟨v11.Up, v11.Cost, ((Int.tmod (IntKind.wrap .i64 ((IntKind.wrap .i64 (y3 + 1)) + 1)) 3) == 0), v11.Heard⟩ : Pt)) Pt.row] kr kr kr kr kr kr (getQ_elem rfl (idx_get ev11).2) rfl (by intro h; cases h) kr kr kr (modQ_elem (new := (⟨v11.Up, v11.Cost, ((Int.tmod (IntKind.wrap .i64 ((IntKind.wrap .i64 (y3 + 1)) + 1)) 3) == 0), v11.Heard⟩ : Pt)) rfl (idx_get ev11).2 rfl) kr ?_
        refine LAt.doneM 34359735283 0 kr ?_
        refine Tr.rs ?_
        refine LAt.runU tOk 3 kr ?_
        refine LAt.doneM 137438950387 0 kr ?_
        refine Tr.rs ?_
        refine LAt.runU tOk 3 kr ?_
        obtain ⟨v12, ev12, H⟩ := bind_some H
        refine LAt.indexO tOk (t := 55) (ty := 0) (x := (.tmp 37)) (y := (.tmp 38)) (d := 40) (g := none) ⟨(.slot 0), [], 0, true, 8, ((((y2.set (y1.toNat) (⟨((Int.tmod y3 3) == 0), v8.Cost, v8.Has, v8.Heard⟩ : Pt)).set (y1.toNat) (⟨v9.Up, (IntKind.wrap .i64 (y3 + 1)), v9.Has, v9.Heard⟩ : Pt)).set (y1.toNat) (⟨v11.Up, v11.Cost, ((Int.tmod (IntKind.wrap .i64 ((IntKind.wrap .i64 (y3 + 1)) + 1)) 3) == 0), v11.Heard⟩ : Pt)).map Pt.row)⟩ y1 (y1.toNat) (Pt.row v12) _ kr kr kr kr rfl kr (idx_isE ev12) rfl rfl ?_
        refine LAt.runU tOk 2 kr ?_
        refine LAt.storeK tOk (t := 3) (ty := 0) (ad := (.tmp 42)) (x := (.tmp 39)) (g := none) ⟨.int .i64, 1, 8, [.lit (.int .i64 0)]⟩ false [cI (IntKind.wrap .i64 ((IntKind.wrap .i64 ((IntKind.wrap .i64 (y3 + 1)) + 1)) + 1))] (.slot 0) [(0, (y1.toNat))] [(0, (y1.toNat))] 8 3 [cL 8 (((y2.set (y1.toNat) (⟨((Int.tmod y3 3) == 0), v8.Cost, v8.Has, v8.Heard⟩ : Pt)).set (y1.toNat) (⟨v9.Up, (IntKind.wrap .i64 (y3 + 1)), v9.Has, v9.Heard⟩ : Pt)).set (y1.toNat) (⟨v11.Up, v11.Cost, ((Int.tmod (IntKind.wrap .i64 ((IntKind.wrap .i64 (y3 + 1)) + 1)) 3) == 0), v11.Heard⟩ : Pt)) Pt.row] (Pt.row v12) [cL 8 (((y2.set (y1.toNat) (⟨((Int.tmod y3 3) == 0), v8.Cost, v8.Has, v8.Heard⟩ : Pt)).set (y1.toNat) (⟨v9.Up, (IntKind.wrap .i64 (y3 + 1)), v9.Has, v9.Heard⟩ : Pt)).set (y1.toNat) (⟨v11.Up, v11.Cost, ((Int.tmod (IntKind.wrap .i64 ((IntKind.wrap .i64 (y3 + 1)) + 1)) 3) == 0), v11.Heard⟩ : Pt)) Pt.row] [cL 8 ((((y2.set (y1.toNat) (⟨((Int.tmod y3 3) == 0), v8.Cost, v8.Has, v8.Heard⟩ : Pt)).set (y1.toNat) (⟨v9.Up, (IntKind.wrap .i64 (y3 + 1)), v9.Has, v9.Heard⟩ : Pt)).set (y1.toNat) (⟨v11.Up, v11.Cost, ((Int.tmod (IntKind.wrap .i64 ((IntKind.wrap .i64 (y3 + 1)) + 1)) 3) == 0), v11.Heard⟩ : Pt)).set (y1.toNat) (⟨v12.Up, v12.Cost, v12.Has, (⟨(IntKind.wrap .i64 ((IntKind.wrap .i64 ((IntKind.wrap .i64 (y3 + 1)) + 1)) + 1)), v12.Heard.Cost, v12.Heard.Hops, v12.Heard.Bridge, v12.Heard.Port⟩ : Vec)⟩ : Pt)) Pt.row] kr kr kr kr kr kr (getQ_elem rfl (idx_get ev12).2) rfl (by intro h; cases h) kr kr kr (modQ_elem (new := (⟨v12.Up, v12.Cost, v12.Has, (⟨(IntKind.wrap .i64 ((IntKind.wrap .i64 ((IntKind.wrap .i64 (y3 + 1)) + 1)) + 1)), v12.Heard.Cost, v12.Heard.Hops, v12.Heard.Bridge, v12.Heard.Port⟩ : Vec)⟩ : Pt)) rfl (idx_get ev12).2 rfl) kr ?_
        refine LAt.doneM 8796093019123 0 kr ?_
        refine Tr.rs ?_
        refine LAt.runU tOk 3 kr ?_
        refine LAt.doneM 35184372085747 0 kr ?_
        refine Tr.rs ?_
        refine LAt.runU tOk 3 kr ?_
        obtain ⟨v13, ev13, H⟩ := bind_some H
        refine LAt.indexO tOk (t := 55) (ty := 0) (x := (.tmp 45)) (y := (.tmp 46)) (d := 48) (g := none) ⟨(.slot 0), [], 0, true, 8, (((((y2.set (y1.toNat) (⟨((Int.tmod y3 3) == 0), v8.Cost, v8.Has, v8.Heard⟩ : Pt)).set (y1.toNat) (⟨v9.Up, (IntKind.wrap .i64 (y3 + 1)), v9.Has, v9.Heard⟩ : Pt)).set (y1.toNat) (⟨v11.Up, v11.Cost, ((Int.tmod (IntKind.wrap .i64 ((IntKind.wrap .i64 (y3 + 1)) + 1)) 3) == 0), v11.Heard⟩ : Pt)).set (y1.toNat) (⟨v12.Up, v12.Cost, v12.Has, (⟨(IntKind.wrap .i64 ((IntKind.wrap .i64 ((IntKind.wrap .i64 (y3 + 1)) + 1)) + 1)), v12.Heard.Cost, v12.Heard.Hops, v12.Heard.Bridge, v12.Heard.Port⟩ : Vec)⟩ : Pt)).map Pt.row)⟩ y1 (y1.toNat) (Pt.row v13) _ kr kr kr kr rfl kr (idx_isE ev13) rfl rfl ?_
        refine LAt.runU tOk 2 kr ?_
        refine LAt.storeK tOk (t := 3) (ty := 0) (ad := (.tmp 50)) (x := (.tmp 47)) (g := none) ⟨.int .i64, 1, 8, [.lit (.int .i64 0)]⟩ false [cI (IntKind.wrap .i64 ((IntKind.wrap .i64 ((IntKind.wrap .i64 ((IntKind.wrap .i64 (y3 + 1)) + 1)) + 1)) + 1))] (.slot 0) [(0, (y1.toNat))] [(0, (y1.toNat))] 8 4 [cL 8 ((((y2.set (y1.toNat) (⟨((Int.tmod y3 3) == 0), v8.Cost, v8.Has, v8.Heard⟩ : Pt)).set (y1.toNat) (⟨v9.Up, (IntKind.wrap .i64 (y3 + 1)), v9.Has, v9.Heard⟩ : Pt)).set (y1.toNat) (⟨v11.Up, v11.Cost, ((Int.tmod (IntKind.wrap .i64 ((IntKind.wrap .i64 (y3 + 1)) + 1)) 3) == 0), v11.Heard⟩ : Pt)).set (y1.toNat) (⟨v12.Up, v12.Cost, v12.Has, (⟨(IntKind.wrap .i64 ((IntKind.wrap .i64 ((IntKind.wrap .i64 (y3 + 1)) + 1)) + 1)), v12.Heard.Cost, v12.Heard.Hops, v12.Heard.Bridge, v12.Heard.Port⟩ : Vec)⟩ : Pt)) Pt.row] (Pt.row v13) [cL 8 ((((y2.set (y1.toNat) (⟨((Int.tmod y3 3) == 0), v8.Cost, v8.Has, v8.Heard⟩ : Pt)).set (y1.toNat) (⟨v9.Up, (IntKind.wrap .i64 (y3 + 1)), v9.Has, v9.Heard⟩ : Pt)).set (y1.toNat) (⟨v11.Up, v11.Cost, ((Int.tmod (IntKind.wrap .i64 ((IntKind.wrap .i64 (y3 + 1)) + 1)) 3) == 0), v11.Heard⟩ : Pt)).set (y1.toNat) (⟨v12.Up, v12.Cost, v12.Has, (⟨(IntKind.wrap .i64 ((IntKind.wrap .i64 ((IntKind.wrap .i64 (y3 + 1)) + 1)) + 1)), v12.Heard.Cost, v12.Heard.Hops, v12.Heard.Bridge, v12.Heard.Port⟩ : Vec)⟩ : Pt)) Pt.row] [cL 8 (((((y2.set (y1.toNat) (⟨((Int.tmod y3 3) == 0), v8.Cost, v8.Has, v8.Heard⟩ : Pt)).set (y1.toNat) (⟨v9.Up, (IntKind.wrap .i64 (y3 + 1)), v9.Has, v9.Heard⟩ : Pt)).set (y1.toNat) (⟨v11.Up, v11.Cost, ((Int.tmod (IntKind.wrap .i64 ((IntKind.wrap .i64 (y3 + 1)) + 1)) 3) == 0), v11.Heard⟩ : Pt)).set (y1.toNat) (⟨v12.Up, v12.Cost, v12.Has, (⟨(IntKind.wrap .i64 ((IntKind.wrap .i64 ((IntKind.wrap .i64 (y3 + 1)) + 1)) + 1)), v12.Heard.Cost, v12.Heard.Hops, v12.Heard.Bridge, v12.Heard.Port⟩ : Vec)⟩ : Pt)).set (y1.toNat) (⟨v13.Up, v13.Cost, v13.Has, (⟨v13.Heard.Root, (IntKind.wrap .i64 ((IntKind.wrap .i64 ((IntKind.wrap .i64 ((IntKind.wrap .i64 (y3 + 1)) + 1)) + 1)) + 1)), v13.Heard.Hops, v13.Heard.Bridge, v13.Heard.Port⟩ : Vec)⟩ : Pt)) Pt.row] kr kr kr kr kr kr (getQ_elem rfl (idx_get ev13).2) rfl (by intro h; cases h) kr kr kr (modQ_elem (new := (⟨v13.Up, v13.Cost, v13.Has, (⟨v13.Heard.Root, (IntKind.wrap .i64 ((IntKind.wrap .i64 ((IntKind.wrap .i64 ((IntKind.wrap .i64 (y3 + 1)) + 1)) + 1)) + 1)), v13.Heard.Hops, v13.Heard.Bridge, v13.Heard.Port⟩ : Vec)⟩ : Pt)) rfl (idx_get ev13).2 rfl) kr ?_
        refine LAt.doneM 2251799813682163 0 kr ?_
        refine Tr.rs ?_
        refine LAt.runU tOk 3 kr ?_
        refine LAt.doneM 9007199254737907 0 kr ?_
        refine Tr.rs ?_
        refine LAt.runU tOk 3 kr ?_
        obtain ⟨v14, ev14, H⟩ := bind_some H
        refine LAt.indexO tOk (t := 55) (ty := 0) (x := (.tmp 53)) (y := (.tmp 54)) (d := 56) (g := none) ⟨(.slot 0), [], 0, true, 8, ((((((y2.set (y1.toNat) (⟨((Int.tmod y3 3) == 0), v8.Cost, v8.Has, v8.Heard⟩ : Pt)).set (y1.toNat) (⟨v9.Up, (IntKind.wrap .i64 (y3 + 1)), v9.Has, v9.Heard⟩ : Pt)).set (y1.toNat) (⟨v11.Up, v11.Cost, ((Int.tmod (IntKind.wrap .i64 ((IntKind.wrap .i64 (y3 + 1)) + 1)) 3) == 0), v11.Heard⟩ : Pt)).set (y1.toNat) (⟨v12.Up, v12.Cost, v12.Has, (⟨(IntKind.wrap .i64 ((IntKind.wrap .i64 ((IntKind.wrap .i64 (y3 + 1)) + 1)) + 1)), v12.Heard.Cost, v12.Heard.Hops, v12.Heard.Bridge, v12.Heard.Port⟩ : Vec)⟩ : Pt)).set (y1.toNat) (⟨v13.Up, v13.Cost, v13.Has, (⟨v13.Heard.Root, (IntKind.wrap .i64 ((IntKind.wrap .i64 ((IntKind.wrap .i64 ((IntKind.wrap .i64 (y3 + 1)) + 1)) + 1)) + 1)), v13.Heard.Hops, v13.Heard.Bridge, v13.Heard.Port⟩ : Vec)⟩ : Pt)).map Pt.row)⟩ y1 (y1.toNat) (Pt.row v14) _ kr kr kr kr rfl kr (idx_isE ev14) rfl rfl ?_
        refine LAt.runU tOk 2 kr ?_
        refine LAt.storeK tOk (t := 3) (ty := 0) (ad := (.tmp 58)) (x := (.tmp 55)) (g := none) ⟨.int .i64, 1, 8, [.lit (.int .i64 0)]⟩ false [cI (IntKind.wrap .i64 ((IntKind.wrap .i64 ((IntKind.wrap .i64 ((IntKind.wrap .i64 ((IntKind.wrap .i64 (y3 + 1)) + 1)) + 1)) + 1)) + 1))] (.slot 0) [(0, (y1.toNat))] [(0, (y1.toNat))] 8 5 [cL 8 (((((y2.set (y1.toNat) (⟨((Int.tmod y3 3) == 0), v8.Cost, v8.Has, v8.Heard⟩ : Pt)).set (y1.toNat) (⟨v9.Up, (IntKind.wrap .i64 (y3 + 1)), v9.Has, v9.Heard⟩ : Pt)).set (y1.toNat) (⟨v11.Up, v11.Cost, ((Int.tmod (IntKind.wrap .i64 ((IntKind.wrap .i64 (y3 + 1)) + 1)) 3) == 0), v11.Heard⟩ : Pt)).set (y1.toNat) (⟨v12.Up, v12.Cost, v12.Has, (⟨(IntKind.wrap .i64 ((IntKind.wrap .i64 ((IntKind.wrap .i64 (y3 + 1)) + 1)) + 1)), v12.Heard.Cost, v12.Heard.Hops, v12.Heard.Bridge, v12.Heard.Port⟩ : Vec)⟩ : Pt)).set (y1.toNat) (⟨v13.Up, v13.Cost, v13.Has, (⟨v13.Heard.Root, (IntKind.wrap .i64 ((IntKind.wrap .i64 ((IntKind.wrap .i64 ((IntKind.wrap .i64 (y3 + 1)) + 1)) + 1)) + 1)), v13.Heard.Hops, v13.Heard.Bridge, v13.Heard.Port⟩ : Vec)⟩ : Pt)) Pt.row] (Pt.row v14) [cL 8 (((((y2.set (y1.toNat) (⟨((Int.tmod y3 3) == 0), v8.Cost, v8.Has, v8.Heard⟩ : Pt)).set (y1.toNat) (⟨v9.Up, (IntKind.wrap .i64 (y3 + 1)), v9.Has, v9.Heard⟩ : Pt)).set (y1.toNat) (⟨v11.Up, v11.Cost, ((Int.tmod (IntKind.wrap .i64 ((IntKind.wrap .i64 (y3 + 1)) + 1)) 3) == 0), v11.Heard⟩ : Pt)).set (y1.toNat) (⟨v12.Up, v12.Cost, v12.Has, (⟨(IntKind.wrap .i64 ((IntKind.wrap .i64 ((IntKind.wrap .i64 (y3 + 1)) + 1)) + 1)), v12.Heard.Cost, v12.Heard.Hops, v12.Heard.Bridge, v12.Heard.Port⟩ : Vec)⟩ : Pt)).set (y1.toNat) (⟨v13.Up, v13.Cost, v13.Has, (⟨v13.Heard.Root, (IntKind.wrap .i64 ((IntKind.wrap .i64 ((IntKind.wrap .i64 ((IntKind.wrap .i64 (y3 + 1)) + 1)) + 1)) + 1)), v13.Heard.Hops, v13.Heard.Bridge, v13.Heard.Port⟩ : Vec)⟩ : Pt)) Pt.row] [cL 8 ((((((y2.set (y1.toNat) (⟨((Int.tmod y3 3) == 0), v8.Cost, v8.Has, v8.Heard⟩ : Pt)).set (y1.toNat) (⟨v9.Up, (IntKind.wrap .i64 (y3 + 1)), v9.Has, v9.Heard⟩ : Pt)).set (y1.toNat) (⟨v11.Up, v11.Cost, ((Int.tmod (IntKind.wrap .i64 ((IntKind.wrap .i64 (y3 + 1)) + 1)) 3) == 0), v11.Heard⟩ : Pt)).set (y1.toNat) (⟨v12.Up, v12.Cost, v12.Has, (⟨(IntKind.wrap .i64 ((IntKind.wrap .i64 ((IntKind.wrap .i64 (y3 + 1)) + 1)) + 1)), v12.Heard.Cost, v12.Heard.Hops, v12.Heard.Bridge, v12.Heard.Port⟩ : Vec)⟩ : Pt)).set (y1.toNat) (⟨v13.Up, v13.Cost, v13.Has, (⟨v13.Heard.Root, (IntKind.wrap .i64 ((IntKind.wrap .i64 ((IntKind.wrap .i64 ((IntKind.wrap .i64 (y3 + 1)) + 1)) + 1)) + 1)), v13.Heard.Hops, v13.Heard.Bridge, v13.Heard.Port⟩ : Vec)⟩ : Pt)).set (y1.toNat) (⟨v14.Up, v14.Cost, v14.Has, (⟨v14.Heard.Root, v14.Heard.Cost, (IntKind.wrap .i64 ((IntKind.wrap .i64 ((IntKind.wrap .i64 ((IntKind.wrap .i64 ((IntKind.wrap .i64 (y3 + 1)) + 1)) + 1)) + 1)) + 1)), v14.Heard.Bridge, v14.Heard.Port⟩ : Vec)⟩ : Pt)) Pt.row] kr kr kr kr kr kr (getQ_elem rfl (idx_get ev14).2) rfl (by intro h; cases h) kr kr kr (modQ_elem (new := (⟨v14.Up, v14.Cost, v14.Has, (⟨v14.Heard.Root, v14.Heard.Cost, (IntKind.wrap .i64 ((IntKind.wrap .i64 ((IntKind.wrap .i64 ((IntKind.wrap .i64 ((IntKind.wrap .i64 (y3 + 1)) + 1)) + 1)) + 1)) + 1)), v14.Heard.Bridge, v14.Heard.Port⟩ : Vec)⟩ : Pt)) rfl (idx_get ev14).2 rfl) kr ?_
        refine LAt.doneM 576460752303420403 0 kr ?_
        refine Tr.rs ?_
        refine LAt.runU tOk 3 kr ?_
        refine LAt.doneM 2305843009213690867 0 kr ?_
        refine Tr.rs ?_
        refine LAt.runU tOk 3 kr ?_
        obtain ⟨v15, ev15, H⟩ := bind_some H
        refine LAt.indexO tOk (t := 55) (ty := 0) (x := (.tmp 61)) (y := (.tmp 62)) (d := 64) (g := none) ⟨(.slot 0), [], 0, true, 8, (((((((y2.set (y1.toNat) (⟨((Int.tmod y3 3) == 0), v8.Cost, v8.Has, v8.Heard⟩ : Pt)).set (y1.toNat) (⟨v9.Up, (IntKind.wrap .i64 (y3 + 1)), v9.Has, v9.Heard⟩ : Pt)).set (y1.toNat) (⟨v11.Up, v11.Cost, ((Int.tmod (IntKind.wrap .i64 ((IntKind.wrap .i64 (y3 + 1)) + 1)) 3) == 0), v11.Heard⟩ : Pt)).set (y1.toNat) (⟨v12.Up, v12.Cost, v12.Has, (⟨(IntKind.wrap .i64 ((IntKind.wrap .i64 ((IntKind.wrap .i64 (y3 + 1)) + 1)) + 1)), v12.Heard.Cost, v12.Heard.Hops, v12.Heard.Bridge, v12.Heard.Port⟩ : Vec)⟩ : Pt)).set (y1.toNat) (⟨v13.Up, v13.Cost, v13.Has, (⟨v13.Heard.Root, (IntKind.wrap .i64 ((IntKind.wrap .i64 ((IntKind.wrap .i64 ((IntKind.wrap .i64 (y3 + 1)) + 1)) + 1)) + 1)), v13.Heard.Hops, v13.Heard.Bridge, v13.Heard.Port⟩ : Vec)⟩ : Pt)).set (y1.toNat) (⟨v14.Up, v14.Cost, v14.Has, (⟨v14.Heard.Root, v14.Heard.Cost, (IntKind.wrap .i64 ((IntKind.wrap .i64 ((IntKind.wrap .i64 ((IntKind.wrap .i64 ((IntKind.wrap .i64 (y3 + 1)) + 1)) + 1)) + 1)) + 1)), v14.Heard.Bridge, v14.Heard.Port⟩ : Vec)⟩ : Pt)).map Pt.row)⟩ y1 (y1.toNat) (Pt.row v15) _ kr kr kr kr rfl kr (idx_isE ev15) rfl rfl ?_
        refine LAt.runU tOk 2 kr ?_
        refine LAt.storeK tOk (t := 3) (ty := 0) (ad := (.tmp 66)) (x := (.tmp 63)) (g := none) ⟨.int .i64, 1, 8, [.lit (.int .i64 0)]⟩ false [cI (IntKind.wrap .i64 ((IntKind.wrap .i64 ((IntKind.wrap .i64 ((IntKind.wrap .i64 ((IntKind.wrap .i64 ((IntKind.wrap .i64 (y3 + 1)) + 1)) + 1)) + 1)) + 1)) + 1))] (.slot 0) [(0, (y1.toNat))] [(0, (y1.toNat))] 8 6 [cL 8 ((((((y2.set (y1.toNat) (⟨((Int.tmod y3 3) == 0), v8.Cost, v8.Has, v8.Heard⟩ : Pt)).set (y1.toNat) (⟨v9.Up, (IntKind.wrap .i64 (y3 + 1)), v9.Has, v9.Heard⟩ : Pt)).set (y1.toNat) (⟨v11.Up, v11.Cost, ((Int.tmod (IntKind.wrap .i64 ((IntKind.wrap .i64 (y3 + 1)) + 1)) 3) == 0), v11.Heard⟩ : Pt)).set (y1.toNat) (⟨v12.Up, v12.Cost, v12.Has, (⟨(IntKind.wrap .i64 ((IntKind.wrap .i64 ((IntKind.wrap .i64 (y3 + 1)) + 1)) + 1)), v12.Heard.Cost, v12.Heard.Hops, v12.Heard.Bridge, v12.Heard.Port⟩ : Vec)⟩ : Pt)).set (y1.toNat) (⟨v13.Up, v13.Cost, v13.Has, (⟨v13.Heard.Root, (IntKind.wrap .i64 ((IntKind.wrap .i64 ((IntKind.wrap .i64 ((IntKind.wrap .i64 (y3 + 1)) + 1)) + 1)) + 1)), v13.Heard.Hops, v13.Heard.Bridge, v13.Heard.Port⟩ : Vec)⟩ : Pt)).set (y1.toNat) (⟨v14.Up, v14.Cost, v14.Has, (⟨v14.Heard.Root, v14.Heard.Cost, (IntKind.wrap .i64 ((IntKind.wrap .i64 ((IntKind.wrap .i64 ((IntKind.wrap .i64 ((IntKind.wrap .i64 (y3 + 1)) + 1)) + 1)) + 1)) + 1)), v14.Heard.Bridge, v14.Heard.Port⟩ : Vec)⟩ : Pt)) Pt.row] (Pt.row v15) [cL 8 ((((((y2.set (y1.toNat) (⟨((Int.tmod y3 3) == 0), v8.Cost, v8.Has, v8.Heard⟩ : Pt)).set (y1.toNat) (⟨v9.Up, (IntKind.wrap .i64 (y3 + 1)), v9.Has, v9.Heard⟩ : Pt)).set (y1.toNat) (⟨v11.Up, v11.Cost, ((Int.tmod (IntKind.wrap .i64 ((IntKind.wrap .i64 (y3 + 1)) + 1)) 3) == 0), v11.Heard⟩ : Pt)).set (y1.toNat) (⟨v12.Up, v12.Cost, v12.Has, (⟨(IntKind.wrap .i64 ((IntKind.wrap .i64 ((IntKind.wrap .i64 (y3 + 1)) + 1)) + 1)), v12.Heard.Cost, v12.Heard.Hops, v12.Heard.Bridge, v12.Heard.Port⟩ : Vec)⟩ : Pt)).set (y1.toNat) (⟨v13.Up, v13.Cost, v13.Has, (⟨v13.Heard.Root, (IntKind.wrap .i64 ((IntKind.wrap .i64 ((IntKind.wrap .i64 ((IntKind.wrap .i64 (y3 + 1)) + 1)) + 1)) + 1)), v13.Heard.Hops, v13.Heard.Bridge, v13.Heard.Port⟩ : Vec)⟩ : Pt)).set (y1.toNat) (⟨v14.Up, v14.Cost, v14.Has, (⟨v14.Heard.Root, v14.Heard.Cost, (IntKind.wrap .i64 ((IntKind.wrap .i64 ((IntKind.wrap .i64 ((IntKind.wrap .i64 ((IntKind.wrap .i64 (y3 + 1)) + 1)) + 1)) + 1)) + 1)), v14.Heard.Bridge, v14.Heard.Port⟩ : Vec)⟩ : Pt)) Pt.row] [cL 8 (((((((y2.set (y1.toNat) (⟨((Int.tmod y3 3) == 0), v8.Cost, v8.Has, v8.Heard⟩ : Pt)).set (y1.toNat) (⟨v9.Up, (IntKind.wrap .i64 (y3 + 1)), v9.Has, v9.Heard⟩ : Pt)).set (y1.toNat) (⟨v11.Up, v11.Cost, ((Int.tmod (IntKind.wrap .i64 ((IntKind.wrap .i64 (y3 + 1)) + 1)) 3) == 0), v11.Heard⟩ : Pt)).set (y1.toNat) (⟨v12.Up, v12.Cost, v12.Has, (⟨(IntKind.wrap .i64 ((IntKind.wrap .i64 ((IntKind.wrap .i64 (y3 + 1)) + 1)) + 1)), v12.Heard.Cost, v12.Heard.Hops, v12.Heard.Bridge, v12.Heard.Port⟩ : Vec)⟩ : Pt)).set (y1.toNat) (⟨v13.Up, v13.Cost, v13.Has, (⟨v13.Heard.Root, (IntKind.wrap .i64 ((IntKind.wrap .i64 ((IntKind.wrap .i64 ((IntKind.wrap .i64 (y3 + 1)) + 1)) + 1)) + 1)), v13.Heard.Hops, v13.Heard.Bridge, v13.Heard.Port⟩ : Vec)⟩ : Pt)).set (y1.toNat) (⟨v14.Up, v14.Cost, v14.Has, (⟨v14.Heard.Root, v14.Heard.Cost, (IntKind.wrap .i64 ((IntKind.wrap .i64 ((IntKind.wrap .i64 ((IntKind.wrap .i64 ((IntKind.wrap .i64 (y3 + 1)) + 1)) + 1)) + 1)) + 1)), v14.Heard.Bridge, v14.Heard.Port⟩ : Vec)⟩ : Pt)).set (y1.toNat) (⟨v15.Up, v15.Cost, v15.Has, (⟨v15.Heard.Root, v15.Heard.Cost, v15.Heard.Hops, (IntKind.wrap .i64 ((IntKind.wrap .i64 ((IntKind.wrap .i64 ((IntKind.wrap .i64 ((IntKind.wrap .i64 ((IntKind.wrap .i64 (y3 + 1)) + 1)) + 1)) + 1)) + 1)) + 1)), v15.Heard.Port⟩ : Vec)⟩ : Pt)) Pt.row] kr kr kr kr kr kr (getQ_elem rfl (idx_get ev15).2) rfl (by intro h; cases h) kr kr kr (modQ_elem (new := (⟨v15.Up, v15.Cost, v15.Has, (⟨v15.Heard.Root, v15.Heard.Cost, v15.Heard.Hops, (IntKind.wrap .i64 ((IntKind.wrap .i64 ((IntKind.wrap .i64 ((IntKind.wrap .i64 ((IntKind.wrap .i64 ((IntKind.wrap .i64 (y3 + 1)) + 1)) + 1)) + 1)) + 1)) + 1)), v15.Heard.Port⟩ : Vec)⟩ : Pt)) rfl (idx_get ev15).2 rfl) kr ?_
        refine LAt.doneM 147573952589676409843 0 kr ?_
        refine Tr.rs ?_
        refine LAt.runU tOk 3 kr ?_
        refine LAt.doneM 590295810358705648627 0 kr ?_
        refine Tr.rs ?_
        refine LAt.runU tOk 3 kr ?_
        obtain ⟨v16, ev16, H⟩ := bind_some H
        refine LAt.indexO tOk (t := 55) (ty := 0) (x := (.tmp 69)) (y := (.tmp 70)) (d := 72) (g := none) ⟨(.slot 0), [], 0, true, 8, ((((((((y2.set (y1.toNat) (⟨((Int.tmod y3 3) == 0), v8.Cost, v8.Has, v8.Heard⟩ : Pt)).set (y1.toNat) (⟨v9.Up, (IntKind.wrap .i64 (y3 + 1)), v9.Has, v9.Heard⟩ : Pt)).set (y1.toNat) (⟨v11.Up, v11.Cost, ((Int.tmod (IntKind.wrap .i64 ((IntKind.wrap .i64 (y3 + 1)) + 1)) 3) == 0), v11.Heard⟩ : Pt)).set (y1.toNat) (⟨v12.Up, v12.Cost, v12.Has, (⟨(IntKind.wrap .i64 ((IntKind.wrap .i64 ((IntKind.wrap .i64 (y3 + 1)) + 1)) + 1)), v12.Heard.Cost, v12.Heard.Hops, v12.Heard.Bridge, v12.Heard.Port⟩ : Vec)⟩ : Pt)).set (y1.toNat) (⟨v13.Up, v13.Cost, v13.Has, (⟨v13.Heard.Root, (IntKind.wrap .i64 ((IntKind.wrap .i64 ((IntKind.wrap .i64 ((IntKind.wrap .i64 (y3 + 1)) + 1)) + 1)) + 1)), v13.Heard.Hops, v13.Heard.Bridge, v13.Heard.Port⟩ : Vec)⟩ : Pt)).set (y1.toNat) (⟨v14.Up, v14.Cost, v14.Has, (⟨v14.Heard.Root, v14.Heard.Cost, (IntKind.wrap .i64 ((IntKind.wrap .i64 ((IntKind.wrap .i64 ((IntKind.wrap .i64 ((IntKind.wrap .i64 (y3 + 1)) + 1)) + 1)) + 1)) + 1)), v14.Heard.Bridge, v14.Heard.Port⟩ : Vec)⟩ : Pt)).set (y1.toNat) (⟨v15.Up, v15.Cost, v15.Has, (⟨v15.Heard.Root, v15.Heard.Cost, v15.Heard.Hops, (IntKind.wrap .i64 ((IntKind.wrap .i64 ((IntKind.wrap .i64 ((IntKind.wrap .i64 ((IntKind.wrap .i64 ((IntKind.wrap .i64 (y3 + 1)) + 1)) + 1)) + 1)) + 1)) + 1)), v15.Heard.Port⟩ : Vec)⟩ : Pt)).map Pt.row)⟩ y1 (y1.toNat) (Pt.row v16) _ kr kr kr kr rfl kr (idx_isE ev16) rfl rfl ?_
        refine LAt.runU tOk 2 kr ?_
        refine LAt.storeK tOk (t := 3) (ty := 0) (ad := (.tmp 74)) (x := (.tmp 71)) (g := none) ⟨.int .i64, 1, 8, [.lit (.int .i64 0)]⟩ false [cI (IntKind.wrap .i64 ((IntKind.wrap .i64 ((IntKind.wrap .i64 ((IntKind.wrap .i64 ((IntKind.wrap .i64 ((IntKind.wrap .i64 ((IntKind.wrap .i64 (y3 + 1)) + 1)) + 1)) + 1)) + 1)) + 1)) + 1))] (.slot 0) [(0, (y1.toNat))] [(0, (y1.toNat))] 8 7 [cL 8 (((((((y2.set (y1.toNat) (⟨((Int.tmod y3 3) == 0), v8.Cost, v8.Has, v8.Heard⟩ : Pt)).set (y1.toNat) (⟨v9.Up, (IntKind.wrap .i64 (y3 + 1)), v9.Has, v9.Heard⟩ : Pt)).set (y1.toNat) (⟨v11.Up, v11.Cost, ((Int.tmod (IntKind.wrap .i64 ((IntKind.wrap .i64 (y3 + 1)) + 1)) 3) == 0), v11.Heard⟩ : Pt)).set (y1.toNat) (⟨v12.Up, v12.Cost, v12.Has, (⟨(IntKind.wrap .i64 ((IntKind.wrap .i64 ((IntKind.wrap .i64 (y3 + 1)) + 1)) + 1)), v12.Heard.Cost, v12.Heard.Hops, v12.Heard.Bridge, v12.Heard.Port⟩ : Vec)⟩ : Pt)).set (y1.toNat) (⟨v13.Up, v13.Cost, v13.Has, (⟨v13.Heard.Root, (IntKind.wrap .i64 ((IntKind.wrap .i64 ((IntKind.wrap .i64 ((IntKind.wrap .i64 (y3 + 1)) + 1)) + 1)) + 1)), v13.Heard.Hops, v13.Heard.Bridge, v13.Heard.Port⟩ : Vec)⟩ : Pt)).set (y1.toNat) (⟨v14.Up, v14.Cost, v14.Has, (⟨v14.Heard.Root, v14.Heard.Cost, (IntKind.wrap .i64 ((IntKind.wrap .i64 ((IntKind.wrap .i64 ((IntKind.wrap .i64 ((IntKind.wrap .i64 (y3 + 1)) + 1)) + 1)) + 1)) + 1)), v14.Heard.Bridge, v14.Heard.Port⟩ : Vec)⟩ : Pt)).set (y1.toNat) (⟨v15.Up, v15.Cost, v15.Has, (⟨v15.Heard.Root, v15.Heard.Cost, v15.Heard.Hops, (IntKind.wrap .i64 ((IntKind.wrap .i64 ((IntKind.wrap .i64 ((IntKind.wrap .i64 ((IntKind.wrap .i64 ((IntKind.wrap .i64 (y3 + 1)) + 1)) + 1)) + 1)) + 1)) + 1)), v15.Heard.Port⟩ : Vec)⟩ : Pt)) Pt.row] (Pt.row v16) [cL 8 (((((((y2.set (y1.toNat) (⟨((Int.tmod y3 3) == 0), v8.Cost, v8.Has, v8.Heard⟩ : Pt)).set (y1.toNat) (⟨v9.Up, (IntKind.wrap .i64 (y3 + 1)), v9.Has, v9.Heard⟩ : Pt)).set (y1.toNat) (⟨v11.Up, v11.Cost, ((Int.tmod (IntKind.wrap .i64 ((IntKind.wrap .i64 (y3 + 1)) + 1)) 3) == 0), v11.Heard⟩ : Pt)).set (y1.toNat) (⟨v12.Up, v12.Cost, v12.Has, (⟨(IntKind.wrap .i64 ((IntKind.wrap .i64 ((IntKind.wrap .i64 (y3 + 1)) + 1)) + 1)), v12.Heard.Cost, v12.Heard.Hops, v12.Heard.Bridge, v12.Heard.Port⟩ : Vec)⟩ : Pt)).set (y1.toNat) (⟨v13.Up, v13.Cost, v13.Has, (⟨v13.Heard.Root, (IntKind.wrap .i64 ((IntKind.wrap .i64 ((IntKind.wrap .i64 ((IntKind.wrap .i64 (y3 + 1)) + 1)) + 1)) + 1)), v13.Heard.Hops, v13.Heard.Bridge, v13.Heard.Port⟩ : Vec)⟩ : Pt)).set (y1.toNat) (⟨v14.Up, v14.Cost, v14.Has, (⟨v14.Heard.Root, v14.Heard.Cost, (IntKind.wrap .i64 ((IntKind.wrap .i64 ((IntKind.wrap .i64 ((IntKind.wrap .i64 ((IntKind.wrap .i64 (y3 + 1)) + 1)) + 1)) + 1)) + 1)), v14.Heard.Bridge, v14.Heard.Port⟩ : Vec)⟩ : Pt)).set (y1.toNat) (⟨v15.Up, v15.Cost, v15.Has, (⟨v15.Heard.Root, v15.Heard.Cost, v15.Heard.Hops, (IntKind.wrap .i64 ((IntKind.wrap .i64 ((IntKind.wrap .i64 ((IntKind.wrap .i64 ((IntKind.wrap .i64 ((IntKind.wrap .i64 (y3 + 1)) + 1)) + 1)) + 1)) + 1)) + 1)), v15.Heard.Port⟩ : Vec)⟩ : Pt)) Pt.row] [cL 8 ((((((((y2.set (y1.toNat) (⟨((Int.tmod y3 3) == 0), v8.Cost, v8.Has, v8.Heard⟩ : Pt)).set (y1.toNat) (⟨v9.Up, (IntKind.wrap .i64 (y3 + 1)), v9.Has, v9.Heard⟩ : Pt)).set (y1.toNat) (⟨v11.Up, v11.Cost, ((Int.tmod (IntKind.wrap .i64 ((IntKind.wrap .i64 (y3 + 1)) + 1)) 3) == 0), v11.Heard⟩ : Pt)).set (y1.toNat) (⟨v12.Up, v12.Cost, v12.Has, (⟨(IntKind.wrap .i64 ((IntKind.wrap .i64 ((IntKind.wrap .i64 (y3 + 1)) + 1)) + 1)), v12.Heard.Cost, v12.Heard.Hops, v12.Heard.Bridge, v12.Heard.Port⟩ : Vec)⟩ : Pt)).set (y1.toNat) (⟨v13.Up, v13.Cost, v13.Has, (⟨v13.Heard.Root, (IntKind.wrap .i64 ((IntKind.wrap .i64 ((IntKind.wrap .i64 ((IntKind.wrap .i64 (y3 + 1)) + 1)) + 1)) + 1)), v13.Heard.Hops, v13.Heard.Bridge, v13.Heard.Port⟩ : Vec)⟩ : Pt)).set (y1.toNat) (⟨v14.Up, v14.Cost, v14.Has, (⟨v14.Heard.Root, v14.Heard.Cost, (IntKind.wrap .i64 ((IntKind.wrap .i64 ((IntKind.wrap .i64 ((IntKind.wrap .i64 ((IntKind.wrap .i64 (y3 + 1)) + 1)) + 1)) + 1)) + 1)), v14.Heard.Bridge, v14.Heard.Port⟩ : Vec)⟩ : Pt)).set (y1.toNat) (⟨v15.Up, v15.Cost, v15.Has, (⟨v15.Heard.Root, v15.Heard.Cost, v15.Heard.Hops, (IntKind.wrap .i64 ((IntKind.wrap .i64 ((IntKind.wrap .i64 ((IntKind.wrap .i64 ((IntKind.wrap .i64 ((IntKind.wrap .i64 (y3 + 1)) + 1)) + 1)) + 1)) + 1)) + 1)), v15.Heard.Port⟩ : Vec)⟩ : Pt)).set (y1.toNat) (⟨v16.Up, v16.Cost, v16.Has, (⟨v16.Heard.Root, v16.Heard.Cost, v16.Heard.Hops, v16.Heard.Bridge, (IntKind.wrap .i64 ((IntKind.wrap .i64 ((IntKind.wrap .i64 ((IntKind.wrap .i64 ((IntKind.wrap .i64 ((IntKind.wrap .i64 ((IntKind.wrap .i64 (y3 + 1)) + 1)) + 1)) + 1)) + 1)) + 1)) + 1))⟩ : Vec)⟩ : Pt)) Pt.row] kr kr kr kr kr kr (getQ_elem rfl (idx_get ev16).2) rfl (by intro h; cases h) kr kr kr (modQ_elem (new := (⟨v16.Up, v16.Cost, v16.Has, (⟨v16.Heard.Root, v16.Heard.Cost, v16.Heard.Hops, v16.Heard.Bridge, (IntKind.wrap .i64 ((IntKind.wrap .i64 ((IntKind.wrap .i64 ((IntKind.wrap .i64 ((IntKind.wrap .i64 ((IntKind.wrap .i64 ((IntKind.wrap .i64 (y3 + 1)) + 1)) + 1)) + 1)) + 1)) + 1)) + 1))⟩ : Vec)⟩ : Pt)) rfl (idx_get ev16).2 rfl) kr ?_
        refine LAt.doneM 37778931862957161706483 0 kr ?_
        refine Tr.at ?_
        refine LAt.runU tOk 3 kr ?_
        refine LAt.doneM 151115727451828646835187 0 kr ?_
        show Tr _ _ _ _ _
        refine Tr.at ?_
        refine LAt.runU tOk 3 kr ?_
        refine LAt.doneM 151115727451828646838259 0 kr ?_
        exact Exists.intro (mo6, ((IntKind.wrap .i64 (y1 + 1)), ((((((((y2.set (y1.toNat) (⟨((Int.tmod y3 3) == 0), v8.Cost, v8.Has, v8.Heard⟩ : Pt)).set (y1.toNat) (⟨v9.Up, (IntKind.wrap .i64 (y3 + 1)), v9.Has, v9.Heard⟩ : Pt)).set (y1.toNat) (⟨v11.Up, v11.Cost, ((Int.tmod (IntKind.wrap .i64 ((IntKind.wrap .i64 (y3 + 1)) + 1)) 3) == 0), v11.Heard⟩ : Pt)).set (y1.toNat) (⟨v12.Up, v12.Cost, v12.Has, (⟨(IntKind.wrap .i64 ((IntKind.wrap .i64 ((IntKind.wrap .i64 (y3 + 1)) + 1)) + 1)), v12.Heard.Cost, v12.Heard.Hops, v12.Heard.Bridge, v12.Heard.Port⟩ : Vec)⟩ : Pt)).set (y1.toNat) (⟨v13.Up, v13.Cost, v13.Has, (⟨v13.Heard.Root, (IntKind.wrap .i64 ((IntKind.wrap .i64 ((IntKind.wrap .i64 ((IntKind.wrap .i64 (y3 + 1)) + 1)) + 1)) + 1)), v13.Heard.Hops, v13.Heard.Bridge, v13.Heard.Port⟩ : Vec)⟩ : Pt)).set (y1.toNat) (⟨v14.Up, v14.Cost, v14.Has, (⟨v14.Heard.Root, v14.Heard.Cost, (IntKind.wrap .i64 ((IntKind.wrap .i64 ((IntKind.wrap .i64 ((IntKind.wrap .i64 ((IntKind.wrap .i64 (y3 + 1)) + 1)) + 1)) + 1)) + 1)), v14.Heard.Bridge, v14.Heard.Port⟩ : Vec)⟩ : Pt)).set (y1.toNat) (⟨v15.Up, v15.Cost, v15.Has, (⟨v15.Heard.Root, v15.Heard.Cost, v15.Heard.Hops, (IntKind.wrap .i64 ((IntKind.wrap .i64 ((IntKind.wrap .i64 ((IntKind.wrap .i64 ((IntKind.wrap .i64 ((IntKind.wrap .i64 (y3 + 1)) + 1)) + 1)) + 1)) + 1)) + 1)), v15.Heard.Port⟩ : Vec)⟩ : Pt)).set (y1.toNat) (⟨v16.Up, v16.Cost, v16.Has, (⟨v16.Heard.Root, v16.Heard.Cost, v16.Heard.Hops, v16.Heard.Bridge, (IntKind.wrap .i64 ((IntKind.wrap .i64 ((IntKind.wrap .i64 ((IntKind.wrap .i64 ((IntKind.wrap .i64 ((IntKind.wrap .i64 ((IntKind.wrap .i64 (y3 + 1)) + 1)) + 1)) + 1)) + 1)) + 1)) + 1))⟩ : Vec)⟩ : Pt)), (IntKind.wrap .i64 ((IntKind.wrap .i64 ((IntKind.wrap .i64 ((IntKind.wrap .i64 ((IntKind.wrap .i64 ((IntKind.wrap .i64 ((IntKind.wrap .i64 ((IntKind.wrap .i64 (y3 + 1)) + 1)) + 1)) + 1)) + 1)) + 1)) + 1)) + 1)))) (And.intro H (And.intro (Nat.lt_succ_self mo6) (St.sub_of [5, 4, 0, 1] [] kr)))
  · rintro ⟨y4, y5⟩ H
    have H : (laws_markPtS_J1 n y4 y5) = some r := H
    unfold laws_markPtS_J1 at H
    show Tr _ _ _ _ _
    refine Tr.rs ?_
    refine LAt.runU tOk 2 kr ?_
    refine LAt.doneM 17 0 kr ?_
    refine Tr.ret ?_
    have H := Option.some.inj H
    subst H
    exact Fin.ofY _ [(false, [cI y5])] [false] _ [[cL 8 y4 Pt.row]] _ [] kr rfl rfl rfl kr kr kr kr rfl rfl rfl

def laws_markFentS_J1 (n : Nat) (y4 : (List Fent)) (y5 : Int) : Option (Int × (List Fent)) :=
  (some (y5, y4))
def laws_markFentS_L2 (n : Nat) : Nat → Int → (List Fent) → Int → Option (((List Fent) × Int) ⊕ (Int × (List Fent)))
  | 0, _, _, _ => none
  | mo6 + 1, y1, y2, y3 => (bif (decide (y1 < (y2.length : Int))) then ((idx y2 y1).bind fun v7 => ((idx (y2.set (y1.toNat) (⟨y3, v7.Mac, v7.Port, v7.Age, v7.Static⟩ : Fent)) y1).bind fun v8 => ((idx ((y2.set (y1.toNat) (⟨y3, v7.Mac, v7.Port, v7.Age, v7.Static⟩ : Fent)).set (y1.toNat) (⟨v8.Tag, (IntKind.wrap .i64 (y3 + 1)), v8.Port, v8.Age, v8.Static⟩ : Fent)) y1).bind fun v9 => ((idx (((y2.set (y1.toNat) (⟨y3, v7.Mac, v7.Port, v7.Age, v7.Static⟩ : Fent)).set (y1.toNat) (⟨v8.Tag, (IntKind.wrap .i64 (y3 + 1)), v8.Port, v8.Age, v8.Static⟩ : Fent)).set (y1.toNat) (⟨v9.Tag, v9.Mac, (IntKind.wrap .i64 ((IntKind.wrap .i64 (y3 + 1)) + 1)), v9.Age, v9.Static⟩ : Fent)) y1).bind fun v10 => (bif (decide ((3 : Int) ≠ 0)) then ((idx ((((y2.set (y1.toNat) (⟨y3, v7.Mac, v7.Port, v7.Age, v7.Static⟩ : Fent)).set (y1.toNat) (⟨v8.Tag, (IntKind.wrap .i64 (y3 + 1)), v8.Port, v8.Age, v8.Static⟩ : Fent)).set (y1.toNat) (⟨v9.Tag, v9.Mac, (IntKind.wrap .i64 ((IntKind.wrap .i64 (y3 + 1)) + 1)), v9.Age, v9.Static⟩ : Fent)).set (y1.toNat) (⟨v10.Tag, v10.Mac, v10.Port, (IntKind.wrap .i64 ((IntKind.wrap .i64 ((IntKind.wrap .i64 (y3 + 1)) + 1)) + 1)), v10.Static⟩ : Fent)) y1).bind fun v12 => (laws_markFentS_L2 n mo6 (IntKind.wrap .i64 (y1 + 1)) (((((y2.set (y1.toNat) (⟨y3, v7.Mac, v7.Port, v7.Age, v7.Static⟩ : Fent)).set (y1.toNat) (⟨v8.Tag, (IntKind.wrap .i64 (y3 + 1)), v8.Port, v8.Age, v8.Static⟩ : Fent)).set (y1.toNat) (⟨v9.Tag, v9.Mac, (IntKind.wrap .i64 ((IntKind.wrap .i64 (y3 + 1)) + 1)), v9.Age, v9.Static⟩ : Fent)).set (y1.toNat) (⟨v10.Tag, v10.Mac, v10.Port, (IntKind.wrap .i64 ((IntKind.wrap .i64 ((IntKind.wrap .i64 (y3 + 1)) + 1)) + 1)), v10.Static⟩ : Fent)).set (y1.toNat) (⟨v12.Tag, v12.Mac, v12.Port, v12.Age, ((Int.tmod (IntKind.wrap .i64 ((IntKind.wrap .i64 ((IntKind.wrap .i64 ((IntKind.wrap .i64 (y3 + 1)) + 1)) + 1)) + 1)) 3) == 0)⟩ : Fent)) (IntKind.wrap .i64 ((IntKind.wrap .i64 ((IntKind.wrap .i64 ((IntKind.wrap .i64 ((IntKind.wrap .i64 (y3 + 1)) + 1)) + 1)) + 1)) + 1)))) else none))))) else (some (Sum.inl (y2, y3))))
def laws_markFentSF (n : Nat) (x0 : (List Fent)) (x1 : Int) : Option (Int × (List Fent)) :=
  ((laws_markFentS_L2 n n 0 x0 x1).bind fun o => match o with | .inl (y4, y5) => (laws_markFentS_J1 n y4 y5) | .inr r => some r)
/-- loop.example/g00326/laws.markFentS -/
theorem laws_markFentS (n : Nat) (x0 : (List Fent)) (x1 : Int) (r : Int × (List Fent)) (H : laws_markFentSF n x0 x1 = some r) : LCall Try.prog 110 [.io false [.sl true 5 (x0.map Fent.row)], .val false [.lit (.int .i64 x1)]] [.val false [.lit (.int .i64 r.1)]] [(0, [.sl true 5 (r.2.map Fent.row)])] := by
  refine LCall.of_body tOk Try.func110 rfl (c := (.seq (.region 0 (rg Try.f110 0) false) (.seq (.seq (.region 1 (rg Try.f110 1) false) (.block 0 (.loop (.seq (.seq (.region 2 (rg Try.f110 2) false) (.cond (.tmp 9) .skip (.exit 0))) (.seq (.block 1 (.seq (.region 4 (rg Try.f110 4) false) (.seq (.region 5 (rg Try.f110 5) false) (.seq (.region 6 (rg Try.f110 6) false) (.seq (.region 7 (rg Try.f110 7) false) (.seq (.region 8 (rg Try.f110 8) false) (.seq (.region 9 (rg Try.f110 9) false) (.seq (.region 10 (rg Try.f110 10) false) (.seq (.region 11 (rg Try.f110 11) false) (.seq (.region 12 (rg Try.f110 12) false) (.region 13 (rg Try.f110 13) false))))))))))) (.region 3 (rg Try.f110 3) false)))))) (.seq (.region 14 (rg Try.f110 14) false) .ret)))) kr (Nat.le_of_ble_eq_true kr) 1 (rs := [.tmp 4]) rfl [0] (by decide) [(false, [.lit (.int .i64 r.1)])] [[.sl true 5 (r.2.map Fent.row)]] [] fun cx => ?_
  show Tr _ _ _ ⟨50, 1, [sC 0 (cL 5 x0 Fent.row), sI 1 x1], []⟩ _
  unfold laws_markFentSF at H
  refine Tr.rs ?_
  refine LAt.runU tOk 1 kr ?_
  refine LAt.doneM 19 0 kr ?_
  refine Tr.seq ?_
  refine Tr.rs ?_
  refine LAt.runU tOk 1 kr ?_
  refine LAt.doneM 51 0 kr ?_
  obtain ⟨o6, eo6, Ho6⟩ := bind_some H
  clear H
  refine Tr.mid (ι := (List Fent) × Int) (fun v => ⟨50, 1, [sI 4 0, sC 0 (cL 5 v.1 Fent.row), sI 1 v.2], []⟩) (fun v => laws_markFentS_J1 n v.1 v.2 = some r) ?_ ?_
  · refine Tr.block ?_
    refine Tr.loop (ι := Nat × (Int × (List Fent) × Int)) (fun v => ⟨50, 1, [sI 5 v.2.1, sI 4 0, sC 0 (cL 5 v.2.2.1 Fent.row), sI 1 v.2.2.2], []⟩) (fun v => laws_markFentS_L2 n v.1 v.2.1 v.2.2.1 v.2.2.2 = some o6) (fun v => v.1) (n, (0, x0, x1)) eo6 (St.sub_of [5, 4, 0, 1] [] kr) ?_
    rintro ⟨mo6, y1, y2, y3⟩ H
    have H : laws_markFentS_L2 n mo6 y1 y2 y3 = some o6 := H
    obtain _ | mo6 := mo6
    · cases (show (none : Option _) = some o6 from H)
    · rw [laws_markFentS_L2] at H
      refine Tr.seq ?_
      refine Tr.rs ?_
      refine LAt.runU tOk 2 kr ?_
      refine LAt.lenE tOk (t := 56) (ty := 3) (e := 141) (x := (.tmp 7)) (d := 8) (g := none) ⟨(.slot 0), [], 0, true, 5, (y2.map Fent.row)⟩ (y2).length _ kr kr kr kr kr (map_len _ _) rfl ?_
      refine LAt.runU tOk 1 kr ?_
      refine LAt.doneM 1011 0 kr ?_
      refine Tr.to ⟨50, 1, [sB 9 (decide (y1 < (y2.length : Int))), sI 8 (y2.length : Int), (7, .ref (.slot 0) [] 0 0 1 false), sI 6 y1, sI 5 y1, sI 4 0, sC 0 (cL 5 y2 Fent.row), sI 1 y3], []⟩ kr ?_
      cases h1 : (decide (y1 < (y2.length : Int)))
      · have H := bifF h1 H
        refine Tr.cond (b := false) kr (fun h => nomatch h) (fun _ => ?_)
        refine Tr.exit ?_
        refine And.intro (fun _ => ?_) (fun h => absurd rfl h)
        have H := Option.some.inj H
        subst H
        have H := Ho6
        dsimp only at H
        exact Exists.intro (y2, y3) (And.intro H (St.sub_of [4, 0, 1] [] kr))
      · have H := bifT h1 H
        refine Tr.cond (b := true) kr (fun _ => ?_) (fun h => nomatch h)
        refine Tr.skip ?_
        show Tr _ _ _ _ _
        refine Tr.seq ?_
        refine Tr.block ?_
        refine Tr.rs ?_
        refine LAt.runU tOk 3 kr ?_
        obtain ⟨v7, ev7, H⟩ := bind_some H
        refine LAt.indexO tOk (t := 56) (ty := 0) (x := (.tmp 12)) (y := (.tmp 13)) (d := 15) (g := none) ⟨(.slot 0), [], 0, true, 5, (y2.map Fent.row)⟩ y1 (y1.toNat) (Fent.row v7) _ kr kr kr kr rfl kr (idx_isE ev7) rfl rfl ?_
        refine LAt.runU tOk 1 kr ?_
        refine LAt.storeK tOk (t := 3) (ty := 0) (ad := (.tmp 16)) (x := (.tmp 14)) (g := none) ⟨.int .i64, 1, 8, [.lit (.int .i64 0)]⟩ false [cI y3] (.slot 0) [(0, (y1.toNat))] [(0, (y1.toNat))] 5 0 [cL 5 y2 Fent.row] (Fent.row v7) [cL 5 y2 Fent.row] [cL 5 (y2.set (y1.toNat) (⟨y3, v7.Mac, v7.Port, v7.Age, v7.Static⟩ : Fent)) Fent.row] kr kr kr kr kr kr (getQ_elem rfl (idx_get ev7).2) rfl (by intro h; cases h) kr kr kr (modQ_elem (new := (⟨y3, v7.Mac, v7.Port, v7.Age, v7.Static⟩ : Fent)) rfl (idx_get ev7).2 rfl) kr ?_
        refine LAt.doneM 127987 0 kr ?_
        refine Tr.rs ?_
        refine LAt.runU tOk 3 kr ?_
        refine LAt.doneM 521203 0 kr ?_
        refine Tr.rs ?_
        refine LAt.runU tOk 3 kr ?_
        obtain ⟨v8, ev8, H⟩ := bind_some H
        refine LAt.indexO tOk (t := 56) (ty := 0) (x := (.tmp 19)) (y := (.tmp 20)) (d := 22) (g := none) ⟨(.slot 0), [], 0, true, 5, ((y2.set (y1.toNat) (⟨y3, v7.Mac, v7.Port, v7.Age, v7.Static⟩ : Fent)).map Fent.row)⟩ y1 (y1.toNat) (Fent.row v8) _ kr kr kr kr rfl kr (idx_isE ev8) rfl rfl ?_
        refine LAt.runU tOk 1 kr ?_
        refine LAt.storeK tOk (t := 3) (ty := 0) (ad := (.tmp 23)) (x := (.tmp 21)) (g := none) ⟨.int .i64, 1, 8, [.lit (.int .i64 0)]⟩ false [cI (IntKind.wrap .i64 (y3 + 1))] (.slot 0) [(0, (y1.toNat))] [(0, (y1.toNat))] 5 1 [cL 5 (y2.set (y1.toNat) (⟨y3, v7.Mac, v7.Port, v7.Age, v7.Static⟩ : Fent)) Fent.row] (Fent.row v8) [cL 5 (y2.set (y1.toNat) (⟨y3, v7.Mac, v7.Port, v7.Age, v7.Static⟩ : Fent)) Fent.row] [cL 5 ((y2.set (y1.toNat) (⟨y3, v7.Mac, v7.Port, v7.Age, v7.Static⟩ : Fent)).set (y1.toNat) (⟨v8.Tag, (IntKind.wrap .i64 (y3 + 1)), v8.Port, v8.Age, v8.Static⟩ : Fent)) Fent.row] kr kr kr kr kr kr (getQ_elem rfl (idx_get ev8).2) rfl (by intro h; cases h) kr kr kr (modQ_elem (new := (⟨v8.Tag, (IntKind.wrap .i64 (y3 + 1)), v8.Port, v8.Age, v8.Static⟩ : Fent)) rfl (idx_get ev8).2 rfl) kr ?_
        refine LAt.doneM 16774131 0 kr ?_
        refine Tr.rs ?_
        refine LAt.runU tOk 3 kr ?_
        refine LAt.doneM 67105779 0 kr ?_
        refine Tr.rs ?_
        refine LAt.runU tOk 3 kr ?_
        obtain ⟨v9, ev9, H⟩ := bind_some H
        refine LAt.indexO tOk (t := 56) (ty := 0) (x := (.tmp 26)) (y := (.tmp 27)) (d := 29) (g := none) ⟨(.slot 0), [], 0, true, 5, (((y2.set (y1.toNat) (⟨y3, v7.Mac, v7.Port, v7.Age, v7.Static⟩ : Fent)).set (y1.toNat) (⟨v8.Tag, (IntKind.wrap .i64 (y3 + 1)), v8.Port, v8.Age, v8.Static⟩ : Fent)).map Fent.row)⟩ y1 (y1.toNat) (Fent.row v9) _ kr kr kr kr rfl kr (idx_isE ev9) rfl rfl ?_
        refine LAt.runU tOk 1 kr ?_
        refine LAt.storeK tOk (t := 3) (ty := 0) (ad := (.tmp 30)) (x := (.tmp 28)) (g := none) ⟨.int .i64, 1, 8, [.lit (.int .i64 0)]⟩ false [cI (IntKind.wrap .i64 ((IntKind.wrap .i64 (y3 + 1)) + 1))] (.slot 0) [(0, (y1.toNat))] [(0, (y1.toNat))] 5 2 [cL 5 ((y2.set (y1.toNat) (⟨y3, v7.Mac, v7.Port, v7.Age, v7.Static⟩ : Fent)).set (y1.toNat) (⟨v8.Tag, (IntKind.wrap .i64 (y3 + 1)), v8.Port, v8.Age, v8.Static⟩ : Fent)) Fent.row] (Fent.row v9) [cL 5 ((y2.set (y1.toNat) (⟨y3, v7.Mac, v7.Port, v7.Age, v7.Static⟩ : Fent)).set (y1.toNat) (⟨v8.Tag, (IntKind.wrap .i64 (y3 + 1)), v8.Port, v8.Age, v8.Static⟩ : Fent)) Fent.row] [cL 5 (((y2.set (y1.toNat) (⟨y3, v7.Mac, v7.Port, v7.Age, v7.Static⟩ : Fent)).set (y1.toNat) (⟨v8.Tag, (IntKind.wrap .i64 (y3 + 1)), v8.Port, v8.Age, v8.Static⟩ : Fent)).set (y1.toNat) (⟨v9.Tag, v9.Mac, (IntKind.wrap .i64 ((IntKind.wrap .i64 (y3 + 1)) + 1)), v9.Age, v9.Static⟩ : Fent)) Fent.row] kr kr kr kr kr kr (getQ_elem rfl (idx_get ev9).2) rfl (by intro h; cases h) kr kr kr (modQ_elem (new := (⟨v9.Tag, v9.Mac, (IntKind.wrap .i64 ((IntKind.wrap .i64 (y3 + 1)) + 1)), v9.Age, v9.Static⟩ : Fent)) rfl (idx_get ev9).2 rfl) kr ?_
        refine LAt.doneM 2147480563 0 kr ?_
        refine Tr.rs ?_
        refine LAt.runU tOk 3 kr ?_
        refine LAt.doneM 8589931507 0 kr ?_
        refine Tr.rs ?_
        refine LAt.runU tOk 3 kr ?_
        obtain ⟨v10, ev10, H⟩ := bind_some H
        refine LAt.indexO tOk (t := 56) (ty := 0) (x := (.tmp 33)) (y := (.tmp 34)) (d := 36) (g := none) ⟨(.slot 0), [], 0, true, 5, ((((y2.set (y1.toNat) (⟨y3, v7.Mac, v7.Port, v7.Age, v7.Static⟩ : Fent)).set (y1.toNat) (⟨v8.Tag, (IntKind.wrap .i64 (y3 + 1)), v8.Port, v8.Age, v8.Static⟩ : Fent)).set (y1.toNat) (⟨v9.Tag, v9.Mac, (IntKind.wrap .i64 ((IntKind.wrap .i64 (y3 + 1)) + 1)), v9.Age, v9.Static⟩ : Fent)).map Fent.row)⟩ y1 (y1.toNat) (Fent.row v10) _ kr kr kr kr rfl kr (idx_isE ev10) rfl rfl ?_
        refine LAt.runU tOk 1 kr ?_
        refine LAt.storeK tOk (t := 3) (ty := 0) (ad := (.tmp 37)) (x := (.tmp 35)) (g := none) ⟨.int .i64, 1, 8, [.lit (.int .i64 0)]⟩ false [cI (IntKind.wrap .i64 ((IntKind.wrap .i64 ((IntKind.wrap .i64 (y3 + 1)) + 1)) + 1))] (.slot 0) [(0, (y1.toNat))] [(0, (y1.toNat))] 5 3 [cL 5 (((y2.set (y1.toNat) (⟨y3, v7.Mac, v7.Port, v7.Age, v7.Static⟩ : Fent)).set (y1.toNat) (⟨v8.Tag, (IntKind.wrap .i64 (y3 + 1)), v8.Port, v8.Age, v8.Static⟩ : Fent)).set (y1.toNat) (⟨v9.Tag, v9.Mac, (IntKind.wrap .i64 ((IntKind.wrap .i64 (y3 + 1)) + 1)), v9.Age, v9.Static⟩ : Fent)) Fent.row] (Fent.row v10) [cL 5 (((y2.set (y1.toNat) (⟨y3, v7.Mac, v7.Port, v7.Age, v7.Static⟩ : Fent)).set (y1.toNat) (⟨v8.Tag, (IntKind.wrap .i64 (y3 + 1)), v8.Port, v8.Age, v8.Static⟩ : Fent)).set (y1.toNat) (⟨v9.Tag, v9.Mac, (IntKind.wrap .i64 ((IntKind.wrap .i64 (y3 + 1)) + 1)), v9.Age, v9.Static⟩ : Fent)) Fent.row] [cL 5 ((((y2.set (y1.toNat) (⟨y3, v7.Mac, v7.Port, v7.Age, v7.Static⟩ : Fent)).set (y1.toNat) (⟨v8.Tag, (IntKind.wrap .i64 (y3 + 1)), v8.Port, v8.Age, v8.Static⟩ : Fent)).set (y1.toNat) (⟨v9.Tag, v9.Mac, (IntKind.wrap .i64 ((IntKind.wrap .i64 (y3 + 1)) + 1)), v9.Age, v9.Static⟩ : Fent)).set (y1.toNat) (⟨v10.Tag, v10.Mac, v10.Port, (IntKind.wrap .i64 ((IntKind.wrap .i64 ((IntKind.wrap .i64 (y3 + 1)) + 1)) + 1)), v10.Static⟩ : Fent)) Fent.row] kr kr kr kr kr kr (getQ_elem rfl (idx_get ev10).2) rfl (by intro h; cases h) kr kr kr (modQ_elem (new := (⟨v10.Tag, v10.Mac, v10.Port, (IntKind.wrap .i64 ((IntKind.wrap .i64 ((IntKind.wrap .i64 (y3 + 1)) + 1)) + 1)), v10.Static⟩ : Fent)) rfl (idx_get ev10).2 rfl) kr ?_
        refine LAt.doneM 274877903859 0 kr ?_
        refine Tr.rs ?_
        refine LAt.runU tOk 3 kr ?_
        refine LAt.doneM 1099511624691 0 kr ?_
        refine Tr.rs ?_
        refine LAt.runU tOk 3 kr ?_
        obtain ⟨hg11, H⟩ := guard_some H
        refine LAt.binC tOk (op := .rem) (t := 3) (ty := 3) (ty' := 3) (x := (.tmp 42)) (y := (.const (.int .i64 3))) (d := 43) (g := none) (.int .i64 (IntKind.wrap .i64 ((IntKind.wrap .i64 ((IntKind.wrap .i64 ((IntKind.wrap .i64 (y3 + 1)) + 1)) + 1)) + 1))) (.int .i64 3) (.int .i64 (Int.tmod (IntKind.wrap .i64 ((IntKind.wrap .i64 ((IntKind.wrap .i64 ((IntKind.wrap .i64 (y3 + 1)) + 1)) + 1)) + 1)) 3)) _ kr kr kr kr kr (φ := (IntKind.i64 = IntKind.i64 ∧ (3 : Int) ≠ 0)) kr (⟨rfl, of_decide_eq_true hg11⟩) rfl ?_
        refine LAt.runU tOk 1 kr ?_
        obtain ⟨v12, ev12, H⟩ := bind_some H
        refine LAt.indexO tOk (t := 56) (ty := 0) (x := (.tmp 40)) (y := (.tmp 41)) (d := 45) (g := none) ⟨(.slot 0), [], 0, true, 5, (((((y2.set (y1.toNat) (⟨y3, v7.Mac, v7.Port, v7.Age, v7.Static⟩ : Fent)).set (y1.toNat) (⟨v8.Tag, (IntKind.wrap .i64 (y3 + 1)), v8.Port, v8.Age, v8.Static⟩ : Fent)).set (y1.toNat) (⟨v9.Tag, v9.Mac, (IntKind.wrap .i64 ((IntKind.wrap .i64 (y3 + 1)) + 1)), v9.Age, v9.Static⟩ : Fent)).set (y1.toNat) (⟨v10.Tag, v10.Mac, v10.Port, (IntKind.wrap .i64 ((IntKind.wrap .i64 ((IntKind.wrap .i64 (y3 + 1)) + 1)) + 1)), v10.Static⟩ : Fent)).map Fent.row)⟩ y1 (y1.toNat) (Fent.row v12) _ kr kr kr kr rfl kr (idx_isE ev12) rfl rfl ?_
        refine LAt.runU tOk 1 kr ?_
        refine LAt.storeK tOk (t := 4) (ty := 0) (ad := (.tmp 46)) (x := (.tmp 44)) (g := none) ⟨.bool, 1, 1, [.lit (.bool false)]⟩ false [cB ((Int.tmod (IntKind.wrap .i64 ((IntKind.wrap .i64 ((IntKind.wrap .i64 ((IntKind.wrap .i64 (y3 + 1)) + 1)) + 1)) + 1)) 3) == 0)] (.slot 0) [(0, (y1.toNat))] [(0, (y1.toNat))] 5 4 [cL 5 ((((y2.set (y1.toNat) (⟨y3, v7.Mac, v7.Port, v7.Age, v7.Static⟩ : Fent)).set (y1.toNat) (⟨v8.Tag, (IntKind.wrap .i64 (y3 + 1)), v8.Port, v8.Age, v8.Static⟩ : Fent)).set (y1.toNat) (⟨v9.Tag, v9.Mac, (IntKind.wrap .i64 ((IntKind.wrap .i64 (y3 + 1)) + 1)), v9.Age, v9.Static⟩ : Fent)).set (y1.toNat) (⟨v10.Tag, v10.Mac, v10.Port, (IntKind.wrap .i64 ((IntKind.wrap .i64 ((IntKind.wrap .i64 (y3 + 1)) + 1)) + 1)), v10.Static⟩ : Fent)) Fent.row] (Fent.row v12) [cL 5 ((((y2.set (y1.toNat) (⟨y3, v7.Mac, v7.Port, v7.Age, v7.Static⟩ : Fent)).set (y1.toNat) (⟨v8.Tag, (IntKind.wrap .i64 (y3 + 1)), v8.Port, v8.Age, v8.Static⟩ : Fent)).set (y1.toNat) (⟨v9.Tag, v9.Mac, (IntKind.wrap .i64 ((IntKind.wrap .i64 (y3 + 1)) + 1)), v9.Age, v9.Static⟩ : Fent)).set (y1.toNat) (⟨v10.Tag, v10.Mac, v10.Port, (IntKind.wrap .i64 ((IntKind.wrap .i64 ((IntKind.wrap .i64 (y3 + 1)) + 1)) + 1)), v10.Static⟩ : Fent)) Fent.row] [cL 5 (((((y2.set (y1.toNat) (⟨y3, v7.Mac, v7.Port, v7.Age, v7.Static⟩ : Fent)).set (y1.toNat) (⟨v8.Tag, (IntKind.wrap .i64 (y3 + 1)), v8.Port, v8.Age, v8.Static⟩ : Fent)).set (y1.toNat) (⟨v9.Tag, v9.Mac, (IntKind.wrap .i64 ((IntKind.wrap .i64 (y3 + 1)) + 1)), v9.Age, v9.Static⟩ : Fent)).set (y1.toNat) (⟨v10.Tag, v10.Mac, v10.Port, (IntKind.wrap .i64 ((IntKind.wrap .i64 ((IntKind.wrap .i64 (y3 + 1)) + 1)) + 1)), v10.Static⟩ : Fent)).set (y1.toNat) (⟨v12.Tag, v12.Mac, v12.Port, v12.Age, ((Int.tmod (IntKind.wrap .i64 ((IntKind.wrap .i64 ((IntKind.wrap .i64 ((IntKind.wrap .i64 (y3 + 1)) + 1)) + 1)) + 1)) 3) == 0)⟩ : Fent)) Fent.row] kr kr kr kr kr kr (getQ_elem rfl (idx_get ev12).2) rfl (by intro h; cases h) kr kr kr (modQ_elem (new := (⟨v12.Tag, v12.Mac, v12.Port, v12.Age, ((Int.tmod (IntKind.wrap .i64 ((IntKind.wrap .i64 ((IntKind.wrap .i64 ((IntKind.wrap .i64 (y3 + 1)) + 1)) + 1)) + 1)) 3) == 0)⟩ : Fent)) rfl (idx_get ev12).2 rfl) kr ?_
        refine LAt.doneM 140737488352243 0 kr ?_
        refine Tr.at ?_
        refine LAt.runU tOk 3 kr ?_
        refine LAt.doneM 562949953418227 0 kr ?_
        show Tr _ _ _ _ _
        refine Tr.at ?_
        refine LAt.runU tOk 3 kr ?_
        refine LAt.doneM 562949953421299 0 kr ?_
        exact Exists.intro (mo6, ((IntKind.wrap .i64 (y1 + 1)), (((((y2.set (y1.toNat) (⟨y3, v7.Mac, v7.Port, v7.Age, v7.Static⟩ : Fent)).set (y1.toNat) (⟨v8.Tag, (IntKind.wrap .i64 (y3 + 1)), v8.Port, v8.Age, v8.Static⟩ : Fent)).set (y1.toNat) (⟨v9.Tag, v9.Mac, (IntKind.wrap .i64 ((IntKind.wrap .i64 (y3 + 1)) + 1)), v9.Age, v9.Static⟩ : Fent)).set (y1.toNat) (⟨v10.Tag, v10.Mac, v10.Port, (IntKind.wrap .i64 ((IntKind.wrap .i64 ((IntKind.wrap .i64 (y3 + 1)) + 1)) + 1)), v10.Static⟩ : Fent)).set (y1.toNat) (⟨v12.Tag, v12.Mac, v12.Port, v12.Age, ((Int.tmod (IntKind.wrap .i64 ((IntKind.wrap .i64 ((IntKind.wrap .i64 ((IntKind.wrap .i64 (y3 + 1)) + 1)) + 1)) + 1)) 3) == 0)⟩ : Fent)), (IntKind.wrap .i64 ((IntKind.wrap .i64 ((IntKind.wrap .i64 ((IntKind.wrap .i64 ((IntKind.wrap .i64 (y3 + 1)) + 1)) + 1)) + 1)) + 1)))) (And.intro H (And.intro (Nat.lt_succ_self mo6) (St.sub_of [5, 4, 0, 1] [] kr)))
  · rintro ⟨y4, y5⟩ H
    have H : (laws_markFentS_J1 n y4 y5) = some r := H
    unfold laws_markFentS_J1 at H
    show Tr _ _ _ _ _
    refine Tr.rs ?_
    refine LAt.runU tOk 2 kr ?_
    refine LAt.doneM 17 0 kr ?_
    refine Tr.ret ?_
    have H := Option.some.inj H
    subst H
    exact Fin.ofY _ [(false, [cI y5])] [false] _ [[cL 5 y4 Fent.row]] _ [] kr rfl rfl rfl kr kr kr kr rfl rfl rfl

def laws_markVrowS_J1 (n : Nat) (y4 : (List Vrow)) (y5 : Int) : Option (Int × (List Vrow)) :=
  (some (y5, y4))
def laws_markVrowS_L2 (n : Nat) : Nat → Int → (List Vrow) → Int → Option (((List Vrow) × Int) ⊕ (Int × (List Vrow)))
  | 0, _, _, _ => none
  | mo6 + 1, y1, y2, y3 => (bif (decide (y1 < (y2.length : Int))) then ((idx y2 y1).bind fun v7 => ((idx (y2.set (y1.toNat) (⟨y3, v7.Members, v7.Bare⟩ : Vrow)) y1).bind fun v8 => ((idx ((y2.set (y1.toNat) (⟨y3, v7.Members, v7.Bare⟩ : Vrow)).set (y1.toNat) (⟨v8.Id, (IntKind.wrap .i64 (y3 + 1)), v8.Bare⟩ : Vrow)) y1).bind fun v9 => (laws_markVrowS_L2 n mo6 (IntKind.wrap .i64 (y1 + 1)) (((y2.set (y1.toNat) (⟨y3, v7.Members, v7.Bare⟩ : Vrow)).set (y1.toNat) (⟨v8.Id, (IntKind.wrap .i64 (y3 + 1)), v8.Bare⟩ : Vrow)).set (y1.toNat) (⟨v9.Id, v9.Members, (IntKind.wrap .i64 ((IntKind.wrap .i64 (y3 + 1)) + 1))⟩ : Vrow)) (IntKind.wrap .i64 ((IntKind.wrap .i64 ((IntKind.wrap .i64 (y3 + 1)) + 1)) + 1)))))) else (some (Sum.inl (y2, y3))))
def laws_markVrowSF (n : Nat) (x0 : (List Vrow)) (x1 : Int) : Option (Int × (List Vrow)) :=
  ((laws_markVrowS_L2 n n 0 x0 x1).bind fun o => match o with | .inl (y4, y5) => (laws_markVrowS_J1 n y4 y5) | .inr r => some r)
/-- loop.example/g00326/laws.markVrowS -/
theorem laws_markVrowS (n : Nat) (x0 : (List Vrow)) (x1 : Int) (r : Int × (List Vrow)) (H : laws_markVrowSF n x0 x1 = some r) : LCall Try.prog 140 [.io false [.sl true 3 (x0.map Vrow.row)], .val false [.lit (.int .i64 x1)]] [.val false [.lit (.int .i64 r.1)]] [(0, [.sl true 3 (r.2.map Vrow.row)])] := by
  refine LCall.of_body tOk Try.func140 rfl (c := (.seq (.region 0 (rg Try.f140 0) false) (.seq (.seq (.region 1 (rg Try.f140 1) false) (.block 0 (.loop (.seq (.seq (.region 2 (rg Try.f140 2) false) (.cond (.tmp 9) .skip (.exit 0))) (.seq (.block 1 (.seq (.region 4 (rg Try.f140 4) false) (.seq (.region 5 (rg Try.f140 5) false) (.seq (.region 6 (rg Try.f140 6) false) (.seq (.region 7 (rg Try.f140 7) false) (.seq (.region 8 (rg Try.f140 8) false) (.region 9 (rg Try.f140 9) false))))))) (.region 3 (rg Try.f140 3) false)))))) (.seq (.region 10 (rg Try.f140 10) false) .ret)))) kr (Nat.le_of_ble_eq_true kr) 1 (rs := [.tmp 4]) rfl [0] (by decide) [(false, [.lit (.int .i64 r.1)])] [[.sl true 3 (r.2.map Vrow.row)]] [] fun cx => ?_
  show Tr _ _ _ ⟨34, 1, [sC 0 (cL 3 x0 Vrow.row), sI 1 x1], []⟩ _
  unfold laws_markVrowSF at H
  refine Tr.rs ?_
  refine LAt.runU tOk 1 kr ?_
  refine LAt.doneM 19 0 kr ?_
  refine Tr.seq ?_
  refine Tr.rs ?_
  refine LAt.runU tOk 1 kr ?_
  refine LAt.doneM 51 0 kr ?_
  obtain ⟨o6, eo6, Ho6⟩ := bind_some H
  clear H
  refine Tr.mid (ι := (List Vrow) × Int) (fun v => ⟨34, 1, [sI 4 0, sC 0 (cL 3 v.1 Vrow.row), sI 1 v.2], []⟩) (fun v => laws_markVrowS_J1 n v.1 v.2 = some r) ?_ ?_
  · refine Tr.block ?_
    refine Tr.loop (ι := Nat × (Int × (List Vrow) × Int)) (fun v => ⟨34, 1, [sI 5 v.2.1, sI 4 0, sC 0 (cL 3 v.2.2.1 Vrow.row), sI 1 v.2.2.2], []⟩) (fun v => laws_markVrowS_L2 n v.1 v.2.1 v.2.2.1 v.2.2.2 = some o6) (fun v => v.1) (n, (0, x0, x1)) eo6 (St.sub_of [5, 4, 0, 1] [] kr) ?_
    rintro ⟨mo6, y1, y2, y3⟩ H
    have H : laws_markVrowS_L2 n mo6 y1 y2 y3 = some o6 := H
    obtain _ | mo6 := mo6
    · cases (show (none : Option _) = some o6 from H)
    · rw [laws_markVrowS_L2] at H
      refine Tr.seq ?_
      refine Tr.rs ?_
      refine LAt.runU tOk 2 kr ?_
      refine LAt.lenE tOk (t := 57) (ty := 3) (e := 138) (x := (.tmp 7)) (d := 8) (g := none) ⟨(.slot 0), [], 0, true, 3, (y2.map Vrow.row)⟩ (y2).length _ kr kr kr kr kr (map_len _ _) rfl ?_
      refine LAt.runU tOk 1 kr ?_
      refine LAt.doneM 1011 0 kr ?_
      refine Tr.to ⟨34, 1, [sB 9 (decide (y1 < (y2.length : Int))), sI 8 (y2.length : Int), (7, .ref (.slot 0) [] 0 0 1 false), sI 6 y1, sI 5 y1, sI 4 0, sC 0 (cL 3 y2 Vrow.row), sI 1 y3], []⟩ kr ?_
      cases h1 : (decide (y1 < (y2.length : Int)))
      · have H := bifF h1 H
        refine Tr.cond (b := false) kr (fun h => nomatch h) (fun _ => ?_)
        refine Tr.exit ?_
        refine And.intro (fun _ => ?_) (fun h => absurd rfl h)
        have H := Option.some.inj H
        subst H
        have H := Ho6
        dsimp only at H
        exact Exists.intro (y2, y3) (And.intro H (St.sub_of [4, 0, 1] [] kr))
      · have H := bifT h1 H
        refine Tr.cond (b := true) kr (fun _ => ?_) (fun h => nomatch h)
        refine Tr.skip ?_
        show Tr _ _ _ _ _
        refine Tr.seq ?_
        refine Tr.block ?_
        refine Tr.rs ?_
        refine LAt.runU tOk 3 kr ?_
        obtain ⟨v7, ev7, H⟩ := bind_some H
        refine LAt.indexO tOk (t := 57) (ty := 0) (x := (.tmp 12)) (y := (.tmp 13)) (d := 15) (g := none) ⟨(.slot 0), [], 0, true, 3, (y2.map Vrow.row)⟩ y1 (y1.toNat) (Vrow.row v7) _ kr kr kr kr rfl kr (idx_isE ev7) rfl rfl ?_
        refine LAt.runU tOk 1 kr ?_
        refine LAt.storeK tOk (t := 3) (ty := 0) (ad := (.tmp 16)) (x := (.tmp 14)) (g := none) ⟨.int .i64, 1, 8, [.lit (.int .i64 0)]⟩ false [cI y3] (.slot 0) [(0, (y1.toNat))] [(0, (y1.toNat))] 3 0 [cL 3 y2 Vrow.row] (Vrow.row v7) [cL 3 y2 Vrow.row] [cL 3 (y2.set (y1.toNat) (⟨y3, v7.Members, v7.Bare⟩ : Vrow)) Vrow.row] kr kr kr kr kr kr (getQ_elem rfl (idx_get ev7).2) rfl (by intro h; cases h) kr kr kr (modQ_elem (new := (⟨y3, v7.Members, v7.Bare⟩ : Vrow)) rfl (idx_get ev7).2 rfl) kr ?_
        refine LAt.doneM 127987 0 kr ?_
        refine Tr.rs ?_
        refine LAt.runU tOk 3 kr ?_
        refine LAt.doneM 521203 0 kr ?_
        refine Tr.rs ?_
        refine LAt.runU tOk 3 kr ?_
        obtain ⟨v8, ev8, H⟩ := bind_some H
        refine LAt.indexO tOk (t := 57) (ty := 0) (x := (.tmp 19)) (y := (.tmp 20)) (d := 22) (g := none) ⟨(.slot 0), [], 0, true, 3, ((y2.set (y1.toNat) (⟨y3, v7.Members, v7.Bare⟩ : Vrow)).map Vrow.row)⟩ y1 (y1.toNat) (Vrow.row v8) _ kr kr kr kr rfl kr (idx_isE ev8) rfl rfl ?_
        refine LAt.runU tOk 1 kr ?_
        refine LAt.storeK tOk (t := 3) (ty := 0) (ad := (.tmp 23)) (x := (.tmp 21)) (g := none) ⟨.int .i64, 1, 8, [.lit (.int .i64 0)]⟩ false [cI (IntKind.wrap .i64 (y3 + 1))] (.slot 0) [(0, (y1.toNat))] [(0, (y1.toNat))] 3 1 [cL 3 (y2.set (y1.toNat) (⟨y3, v7.Members, v7.Bare⟩ : Vrow)) Vrow.row] (Vrow.row v8) [cL 3 (y2.set (y1.toNat) (⟨y3, v7.Members, v7.Bare⟩ : Vrow)) Vrow.row] [cL 3 ((y2.set (y1.toNat) (⟨y3, v7.Members, v7.Bare⟩ : Vrow)).set (y1.toNat) (⟨v8.Id, (IntKind.wrap .i64 (y3 + 1)), v8.Bare⟩ : Vrow)) Vrow.row] kr kr kr kr kr kr (getQ_elem rfl (idx_get ev8).2) rfl (by intro h; cases h) kr kr kr (modQ_elem (new := (⟨v8.Id, (IntKind.wrap .i64 (y3 + 1)), v8.Bare⟩ : Vrow)) rfl (idx_get ev8).2 rfl) kr ?_
        refine LAt.doneM 16774131 0 kr ?_
        refine Tr.rs ?_
        refine LAt.runU tOk 3 kr ?_
        refine LAt.doneM 67105779 0 kr ?_
        refine Tr.rs ?_
        refine LAt.runU tOk 3 kr ?_
        obtain ⟨v9, ev9, H⟩ := bind_some H
        refine LAt.indexO tOk (t := 57) (ty := 0) (x := (.tmp 26)) (y := (.tmp 27)) (d := 29) (g := none) ⟨(.slot 0), [], 0, true, 3, (((y2.set (y1.toNat) (⟨y3, v7.Members, v7.Bare⟩ : Vrow)).set (y1.toNat) (⟨v8.Id, (IntKind.wrap .i64 (y3 + 1)), v8.Bare⟩ : Vrow)).map Vrow.row)⟩ y1 (y1.toNat) (Vrow.row v9) _ kr kr kr kr rfl kr (idx_isE ev9) rfl rfl ?_
        refine LAt.runU tOk 1 kr ?_
        refine LAt.storeK tOk (t := 3) (ty := 0) (ad := (.tmp 30)) (x := (.tmp 28)) (g := none) ⟨.int .i64, 1, 8, [.lit (.int .i64 0)]⟩ false [cI (IntKind.wrap .i64 ((IntKind.wrap .i64 (y3 + 1)) + 1))] (.slot 0) [(0, (y1.toNat))] [(0, (y1.toNat))] 3 2 [cL 3 ((y2.set (y1.toNat) (⟨y3, v7.Members, v7.Bare⟩ : Vrow)).set (y1.toNat) (⟨v8.Id, (IntKind.wrap .i64 (y3 + 1)), v8.Bare⟩ : Vrow)) Vrow.row] (Vrow.row v9) [cL 3 ((y2.set (y1.toNat) (⟨y3, v7.Members, v7.Bare⟩ : Vrow)).set (y1.toNat) (⟨v8.Id, (IntKind.wrap .i64 (y3 + 1)), v8.Bare⟩ : Vrow)) Vrow.row] [cL 3 (((y2.set (y1.toNat) (⟨y3, v7.Members, v7.Bare⟩ : Vrow)).set (y1.toNat) (⟨v8.Id, (IntKind.wrap .i64 (y3 + 1)), v8.Bare⟩ : Vrow)).set (y1.toNat) (⟨v9.Id, v9.Members, (IntKind.wrap .i64 ((IntKind.wrap .i64 (y3 + 1)) + 1))⟩ : Vrow)) Vrow.row] kr kr kr kr kr kr (getQ_elem rfl (idx_get ev9).2) rfl (by intro h; cases h) kr kr kr (modQ_elem (new := (⟨v9.Id, v9.Members, (IntKind.wrap .i64 ((IntKind.wrap .i64 (y3 + 1)) + 1))⟩ : Vrow)) rfl (idx_get ev9).2 rfl) kr ?_
        refine LAt.doneM 2147480563 0 kr ?_
        refine Tr.at ?_
        refine LAt.runU tOk 3 kr ?_
        refine LAt.doneM 8589931507 0 kr ?_
        show Tr _ _ _ _ _
        refine Tr.at ?_
        refine LAt.runU tOk 3 kr ?_
        refine LAt.doneM 8589934579 0 kr ?_
        exact Exists.intro (mo6, ((IntKind.wrap .i64 (y1 + 1)), (((y2.set (y1.toNat) (⟨y3, v7.Members, v7.Bare⟩ : Vrow)).set (y1.toNat) (⟨v8.Id, (IntKind.wrap .i64 (y3 + 1)), v8.Bare⟩ : Vrow)).set (y1.toNat) (⟨v9.Id, v9.Members, (IntKind.wrap .i64 ((IntKind.wrap .i64 (y3 + 1)) + 1))⟩ : Vrow)), (IntKind.wrap .i64 ((IntKind.wrap .i64 ((IntKind.wrap .i64 (y3 + 1)) + 1)) + 1)))) (And.intro H (And.intro (Nat.lt_succ_self mo6) (St.sub_of [5, 4, 0, 1] [] kr)))
  · rintro ⟨y4, y5⟩ H
    have H : (laws_markVrowS_J1 n y4 y5) = some r := H
    unfold laws_markVrowS_J1 at H
    show Tr _ _ _ _ _
    refine Tr.rs ?_
    refine LAt.runU tOk 2 kr ?_
    refine LAt.doneM 17 0 kr ?_
    refine Tr.ret ?_
    have H := Option.some.inj H
    subst H
    exact Fin.ofY _ [(false, [cI y5])] [false] _ [[cL 3 y4 Vrow.row]] _ [] kr rfl rfl rfl kr kr kr kr rfl rfl rfl

def laws_markIntS_J1 (n : Nat) (y4 : (List Int)) (y5 : Int) : Option (Int × (List Int)) :=
  (some (y5, y4))
def laws_markIntS_L2 (n : Nat) : Nat → Int → (List Int) → Int → Option (((List Int) × Int) ⊕ (Int × (List Int)))
  | 0, _, _, _ => none
  | mo6 + 1, y1, y2, y3 => (bif (decide (y1 < (y2.length : Int))) then ((idx y2 y1).bind fun v7 => (laws_markIntS_L2 n mo6 (IntKind.wrap .i64 (y1 + 1)) (y2.set (y1.toNat) y3) (IntKind.wrap .i64 (y3 + 1)))) else (some (Sum.inl (y2, y3))))
def laws_markIntSF (n : Nat) (x0 : (List Int)) (x1 : Int) : Option (Int × (List Int)) :=
  ((laws_markIntS_L2 n n 0 x0 x1).bind fun o => match o with | .inl (y4, y5) => (laws_markIntS_J1 n y4 y5) | .inr r => some r)
/-- loop.example/g00326/laws.markIntS -/
theorem laws_markIntS (n : Nat) (x0 : (List Int)) (x1 : Int) (r : Int × (List Int)) (H : laws_markIntSF n x0 x1 = some r) : LCall Try.prog 27 [.io false [.sl true 1 (x0.map intRow)], .val false [.lit (.int .i64 x1)]] [.val false [.lit (.int .i64 r.1)]] [(0, [.sl true 1 (r.2.map intRow)])] := by
  refine LCall.of_body tOk Try.func27 rfl (c := (.seq (.region 0 (rg Try.f27 0) false) (.seq (.seq (.region 1 (rg Try.f27 1) false) (.block 0 (.loop (.seq (.seq (.region 2 (rg Try.f27 2) false) (.cond (.tmp 9) .skip (.exit 0))) (.seq (.block 1 (.seq (.region 4 (rg Try.f27 4) false) (.region 5 (rg Try.f27 5) false))) (.region 3 (rg Try.f27 3) false)))))) (.seq (.region 6 (rg Try.f27 6) false) .ret)))) kr (Nat.le_of_ble_eq_true kr) 1 (rs := [.tmp 4]) rfl [0] (by decide) [(false, [.lit (.int .i64 r.1)])] [[.sl true 1 (r.2.map intRow)]] [] fun cx => ?_
  show Tr _ _ _ ⟨19, 1, [sC 0 (cL 1 x0 intRow), sI 1 x1], []⟩ _
  unfold laws_markIntSF at H
  refine Tr.rs ?_
  refine LAt.runU tOk 1 kr ?_
  refine LAt.doneM 19 0 kr ?_
  refine Tr.seq ?_
  refine Tr.rs ?_
  refine LAt.runU tOk 1 kr ?_
  refine LAt.doneM 51 0 kr ?_
  obtain ⟨o6, eo6, Ho6⟩ := bind_some H
  clear H
  refine Tr.mid (ι := (List Int) × Int) (fun v => ⟨19, 1, [sI 4 0, sC 0 (cL 1 v.1 intRow), sI 1 v.2], []⟩) (fun v => laws_markIntS_J1 n v.1 v.2 = some r) ?_ ?_
  · refine Tr.block ?_
    refine Tr.loop (ι := Nat × (Int × (List Int) × Int)) (fun v => ⟨19, 1, [sI 5 v.2.1, sI 4 0, sC 0 (cL 1 v.2.2.1 intRow), sI 1 v.2.2.2], []⟩) (fun v => laws_markIntS_L2 n v.1 v.2.1 v.2.2.1 v.2.2.2 = some o6) (fun v => v.1) (n, (0, x0, x1)) eo6 (St.sub_of [5, 4, 0, 1] [] kr) ?_
    rintro ⟨mo6, y1, y2, y3⟩ H
    have H : laws_markIntS_L2 n mo6 y1 y2 y3 = some o6 := H
    obtain _ | mo6 := mo6
    · cases (show (none : Option _) = some o6 from H)
    · rw [laws_markIntS_L2] at H
      refine Tr.seq ?_
      refine Tr.rs ?_
      refine LAt.runU tOk 2 kr ?_
      refine LAt.lenE tOk (t := 27) (ty := 3) (e := 3) (x := (.tmp 7)) (d := 8) (g := none) ⟨(.slot 0), [], 0, true, 1, (y2.map intRow)⟩ (y2).length _ kr kr kr kr kr (map_len _ _) rfl ?_
      refine LAt.runU tOk 1 kr ?_
      refine LAt.doneM 1011 0 kr ?_
      refine Tr.to ⟨19, 1, [sB 9 (decide (y1 < (y2.length : Int))), sI 8 (y2.length : Int), (7, .ref (.slot 0) [] 0 0 1 false), sI 6 y1, sI 5 y1, sI 4 0, sC 0 (cL 1 y2 intRow), sI 1 y3], []⟩ kr ?_
      cases h1 : (decide (y1 < (y2.length : Int)))
      · have H := bifF h1 H
        refine Tr.cond (b := false) kr (fun h => nomatch h) (fun _ => ?_)
        refine Tr.exit ?_
        refine And.intro (fun _ => ?_) (fun h => absurd rfl h)
        have H := Option.some.inj H
        subst H
        have H := Ho6
        dsimp only at H
        exact Exists.intro (y2, y3) (And.intro H (St.sub_of [4, 0, 1] [] kr))
      · have H := bifT h1 H
        refine Tr.cond (b := true) kr (fun _ => ?_) (fun h => nomatch h)
        refine Tr.skip ?_
        show Tr _ _ _ _ _
        refine Tr.seq ?_
        refine Tr.block ?_
        refine Tr.rs ?_
        refine LAt.runU tOk 3 kr ?_
        obtain ⟨v7, ev7, H⟩ := bind_some H
        refine LAt.indexO tOk (t := 27) (ty := 0) (x := (.tmp 12)) (y := (.tmp 13)) (d := 15) (g := none) ⟨(.slot 0), [], 0, true, 1, (y2.map intRow)⟩ y1 (y1.toNat) (intRow v7) _ kr kr kr kr rfl kr (idx_isE ev7) rfl rfl ?_
        refine LAt.storeK tOk (t := 3) (ty := 0) (ad := (.tmp 15)) (x := (.tmp 14)) (g := none) ⟨.int .i64, 1, 8, [.lit (.int .i64 0)]⟩ false [cI y3] (.slot 0) [(0, (y1.toNat))] [(0, (y1.toNat))] 1 0 [cL 1 y2 intRow] (intRow v7) [cL 1 y2 intRow] [cL 1 (y2.set (y1.toNat) y3) intRow] kr kr kr kr kr kr (getQ_elem rfl (idx_get ev7).2) rfl (by intro h; cases h) kr kr kr (modQ_elem (new := y3) rfl (idx_get ev7).2 rfl) kr ?_
        refine LAt.doneM 62451 0 kr ?_
        refine Tr.at ?_
        refine LAt.runU tOk 3 kr ?_
        refine LAt.doneM 259059 0 kr ?_
        show Tr _ _ _ _ _
        refine Tr.at ?_
        refine LAt.runU tOk 3 kr ?_
        refine LAt.doneM 262131 0 kr ?_
        exact Exists.intro (mo6, ((IntKind.wrap .i64 (y1 + 1)), (y2.set (y1.toNat) y3), (IntKind.wrap .i64 (y3 + 1)))) (And.intro H (And.intro (Nat.lt_succ_self mo6) (St.sub_of [5, 4, 0, 1] [] kr)))
  · rintro ⟨y4, y5⟩ H
    have H : (laws_markIntS_J1 n y4 y5) = some r := H
    unfold laws_markIntS_J1 at H
    show Tr _ _ _ _ _
    refine Tr.rs ?_
    refine LAt.runU tOk 2 kr ?_
    refine LAt.doneM 17 0 kr ?_
    refine Tr.ret ?_
    have H := Option.some.inj H
    subst H
    exact Fin.ofY _ [(false, [cI y5])] [false] _ [[cL 1 y4 intRow]] _ [] kr rfl rfl rfl kr kr kr kr rfl rfl rfl

def laws_markVtabF (n : Nat) (x0 : Vtab) (x1 : Int) : Option (Int × Vtab) :=
  ((laws_markVrowSF n x0.Rows x1).bind fun r1 => ((laws_markIntSF n x0.Pvid r1.1).bind fun r2 => (some (r2.1, (⟨r1.2, r2.2⟩ : Vtab)))))
/-- loop.example/g00326/laws.markVtab -/
theorem laws_markVtab (n : Nat) (x0 : Vtab) (x1 : Int) (r : Int × Vtab) (H : laws_markVtabF n x0 x1 = some r) : LCall Try.prog 111 [.io true (Vtab.row x0), .val false [.lit (.int .i64 x1)]] [.val false [.lit (.int .i64 r.1)]] [(0, (Vtab.row r.2))] := by
  refine LCall.of_body tOk Try.func111 rfl (c := (.seq (.region 0 (rg Try.f111 0) false) (.seq (.region 1 (rg Try.f111 1) false) (.seq (.region 2 (rg Try.f111 2) false) (.seq (.region 3 (rg Try.f111 3) false) .ret))))) kr (Nat.le_of_ble_eq_true kr) 1 (rs := [.tmp 4]) rfl [0] (by decide) [(false, [.lit (.int .i64 r.1)])] [(Vtab.row r.2)] [] fun cx => ?_
  show Tr _ _ _ ⟨14, 1, [sV 0 (Vtab.row x0), sI 1 x1], []⟩ _
  unfold laws_markVtabF at H
  refine Tr.rs ?_
  refine LAt.boxK (T := lk tab) (t := 59) (ty := 0) (x := 0) (d := 2) (g := none) true (Vtab.row x0) kr kr kr kr kr kr ?_
  refine LAt.runU tOk 1 kr ?_
  refine LAt.doneM 23 4 kr ?_
  refine Tr.rs ?_
  refine LAt.runU tOk 3 kr ?_
  obtain ⟨r1, er1, H⟩ := bind_some H
  refine LAt.callL tOk [.lend, .rd] (f := 140) (av := #[.tmp 6, .tmp 7]) (ats := #[57, 3]) (d := (some 8)) (ty := 3) (g := none) kr kr kr [] (laws_markVrowS n x0.Rows x1 r1 er1) kr (.inl rfl) ?_
  refine LAt.runU tOk 1 kr ?_
  refine LAt.doneM 23 4 kr ?_
  refine Tr.rs ?_
  refine LAt.runU tOk 3 kr ?_
  obtain ⟨r2, er2, H⟩ := bind_some H
  refine LAt.callL tOk [.lend, .rd] (f := 27) (av := #[.tmp 10, .tmp 11]) (ats := #[27, 3]) (d := (some 12)) (ty := 3) (g := none) kr kr kr [] (laws_markIntS n x0.Pvid r1.1 r2 er2) kr (.inl rfl) ?_
  refine LAt.runU tOk 1 kr ?_
  refine LAt.doneM 19 4 kr ?_
  refine Tr.rs ?_
  refine LAt.runU tOk 2 kr ?_
  refine LAt.doneM 17 4 kr ?_
  refine Tr.ret ?_
  have H := Option.some.inj H
  subst H
  exact Fin.ofY _ [(false, [cI r2.1])] [true] _ [[cL 3 r1.2 Vrow.row, cL 1 r2.2 intRow]] _ [] kr rfl rfl rfl kr kr kr kr rfl rfl rfl

def laws_markBridgeF (n : Nat) (x0 : Bridge) (x1 : Int) : Option (Int × Bridge) :=
  ((laws_markPtSF n x0.Ports x1).bind fun r1 => ((laws_markFentSF n x0.F r1.1).bind fun r2 => ((laws_markVtabF n x0.V r2.1).bind fun r3 => (some (r3.1, (⟨x0.Id, x0.Name, r1.2, r2.2, r3.2, x0.Ticks, x0.Parse, x0.Word, x0.Drops, x0.Vers⟩ : Bridge))))))
/-- loop.example/g00326/laws.markBridge -/
theorem laws_markBridge (n : Nat) (x0 : Bridge) (x1 : Int) (r : Int × Bridge) (H : laws_markBridgeF n x0 x1 = some r) : LCall Try.prog 40 [.io true (Bridge.row x0), .val false [.lit (.int .i64 x1)]] [.val false [.lit (.int .i64 r.1)]] [(0, (Bridge.row r.2))] := by
  refine LCall.of_body tOk Try.func40 rfl (c := (.seq (.region 0 (rg Try.f40 0) false) (.seq (.region 1 (rg Try.f40 1) false) (.seq (.region 2 (rg Try.f40 2) false) (.seq (.region 3 (rg Try.f40 3) false) (.seq (.region 4 (rg Try.f40 4) false) .ret)))))) kr (Nat.le_of_ble_eq_true kr) 1 (rs := [.tmp 4]) rfl [0] (by decide) [(false, [.lit (.int .i64 r.1)])] [(Bridge.row r.2)] [] fun cx => ?_
  show Tr _ _ _ ⟨18, 1, [sV 0 (Bridge.row x0), sI 1 x1], []⟩ _
  unfold laws_markBridgeF at H
  refine Tr.rs ?_
  refine LAt.boxK (T := lk tab) (t := 61) (ty := 0) (x := 0) (d := 2) (g := none) true (Bridge.row x0) kr kr kr kr kr kr ?_
  refine LAt.runU tOk 1 kr ?_
  refine LAt.doneM 23 4 kr ?_
  refine Tr.rs ?_
  refine LAt.runU tOk 3 kr ?_
  obtain ⟨r1, er1, H⟩ := bind_some H
  refine LAt.callL tOk [.lend, .rd] (f := 109) (av := #[.tmp 6, .tmp 7]) (ats := #[55, 3]) (d := (some 8)) (ty := 3) (g := none) kr kr kr [] (laws_markPtS n x0.Ports x1 r1 er1) kr (.inl rfl) ?_
  refine LAt.runU tOk 1 kr ?_
  refine LAt.doneM 23 4 kr ?_
  refine Tr.rs ?_
  refine LAt.runU tOk 3 kr ?_
  obtain ⟨r2, er2, H⟩ := bind_some H
  refine LAt.callL tOk [.lend, .rd] (f := 110) (av := #[.tmp 10, .tmp 11]) (ats := #[56, 3]) (d := (some 12)) (ty := 3) (g := none) kr kr kr [] (laws_markFentS n x0.F r1.1 r2 er2) kr (.inl rfl) ?_
  refine LAt.runU tOk 1 kr ?_
  refine LAt.doneM 23 4 kr ?_
  refine Tr.rs ?_
  refine LAt.runU tOk 3 kr ?_
  obtain ⟨r3, er3, H⟩ := bind_some H
  refine LAt.callL tOk [.lend, .rd] (f := 111) (av := #[.tmp 14, .tmp 15]) (ats := #[59, 3]) (d := (some 16)) (ty := 3) (g := none) kr kr kr [] (laws_markVtab n x0.V r2.1 r3 er3) kr (.inl rfl) ?_
  refine LAt.runU tOk 1 kr ?_
  refine LAt.doneM 19 4 kr ?_
  refine Tr.rs ?_
  refine LAt.runU tOk 2 kr ?_
  refine LAt.doneM 17 4 kr ?_
  refine Tr.ret ?_
  have H := Option.some.inj H
  subst H
  exact Fin.ofY _ [(false, [cI r3.1])] [true] _ [[cI x0.Id, cS x0.Name, cL 8 r1.2 Pt.row, cL 5 r2.2 Fent.row, cL 3 r3.2.Rows Vrow.row, cL 1 r3.2.Pvid intRow, cI x0.Ticks, cI x0.Parse, cI x0.Word, cI x0.Drops, cI x0.Vers]] _ [] kr rfl rfl rfl kr kr kr kr rfl rfl rfl
end Go.Proofs.Ytjdedhklbdkeoaa.Tw
