/- Functions of the program, over trees. -/
import Derived.Test.YtjdedhklbdkeoaaProg
import Derived.Test.YtjdedhklbdkeoaaTlRule
import Derived.Test.YtjdedhklbdkeoaaTlU5
import Derived.Test.YtjdedhklbdkeoaaTwLO0
import Derived.WalkKit
set_option linter.unusedVariables false
set_option linter.unusedSimpArgs false
set_option maxRecDepth 100000
set_option maxHeartbeats 1000000
namespace Go.Proofs.Ytjdedhklbdkeoaa.Tw
open Go Go.TL Go.Proofs


def spec_Loops_J1 (n : Nat) : Option (Bool) :=
  (some false)
def spec_Loops_L2 (n : Nat) : Nat → Net → (List Int) → Int → Option ((Unit) ⊕ (Bool))
  | 0, _, _, _ => none
  | mo2 + 1, x0, x1, y1 => (bif (decide (y1 < (x1.length : Int))) then ((idx x1 y1).bind fun v3 => ((spec_l1InF n v3 0 (IntKind.wrap .i64 ((x0.Links.length : Int) - 1))).bind fun r4 => (bif (!r4) then (spec_Loops_L2 n mo2 x0 x1 (IntKind.wrap .i64 (y1 + 1))) else (bif (decide ((0 : Int) ≤ 0) && (decide ((0 : Int) ≤ y1) && decide ((y1 : Int) ≤ (x1.length : Int)))) then (bif (decide (([] : List Int).length + ((x1.drop ((0 : Int)).toNat).take (((y1 : Int)).toNat - ((0 : Int)).toNat)).length ≤ 268435456)) then (bif (decide ((0 : Int) ≤ (IntKind.wrap .i64 (y1 + 1))) && (decide (((IntKind.wrap .i64 (y1 + 1)) : Int) ≤ (x1.length : Int)) && decide (((x1.length : Int) : Int) ≤ (x1.length : Int)))) then (bif (decide ((([] : List Int) ++ ((x1.drop ((0 : Int)).toNat).take (((y1 : Int)).toNat - ((0 : Int)).toNat))).length + ((x1.drop (((IntKind.wrap .i64 (y1 + 1)) : Int)).toNat).take ((((x1.length : Int) : Int)).toNat - (((IntKind.wrap .i64 (y1 + 1)) : Int)).toNat)).length ≤ 268435456)) then ((idx x1 y1).bind fun v9 => ((idx x0.Links v9).bind fun v10 => ((spec_JoinedF n x0 v10.A ((([] : List Int) ++ ((x1.drop ((0 : Int)).toNat).take (((y1 : Int)).toNat - ((0 : Int)).toNat))) ++ ((x1.drop (((IntKind.wrap .i64 (y1 + 1)) : Int)).toNat).take ((((x1.length : Int) : Int)).toNat - (((IntKind.wrap .i64 (y1 + 1)) : Int)).toNat)))).bind fun r11 => ((idx x1 y1).bind fun v12 => ((idx x0.Links v12).bind fun v13 => ((spec_l15HasF n r11 v13.B).bind fun r14 => (bif r14 then (some (Sum.inr true)) else (spec_Loops_L2 n mo2 x0 x1 (IntKind.wrap .i64 (y1 + 1)))))))))) else none) else none) else none) else none)))) else (some (Sum.inl ())))
def spec_LoopsF (n : Nat) (x0 : Net) (x1 : (List Int)) : Option (Bool) :=
  ((spec_Loops_L2 n n x0 x1 0).bind fun o => match o with | .inl _ => (spec_Loops_J1 n) | .inr r => some r)
/-- loop.example/g00326/spec.Loops -/
theorem spec_Loops (n : Nat) (x0 : Net) (x1 : (List Int)) (r : Bool) (H : spec_LoopsF n x0 x1 = some r) : LCall Try.prog 16 [.val true (CV.frzRow (Net.row x0)), .val false [.sl false 1 (CV.frzEs (x1.map intRow))]] [.val false [.lit (.bool r)]] [] := by
  refine LCall.of_body tOk Try.func16 rfl (c := (.seq (.region 0 (rg Try.f16 0) false) (.seq (.seq (.region 1 (rg Try.f16 1) false) (.block 0 (.loop (.seq (.seq (.region 2 (rg Try.f16 2) false) (.cond (.tmp 10) .skip (.exit 0))) (.seq (.block 1 (.seq (.seq (.region 4 (rg Try.f16 4) true) (.cond (.tmp 22) (.exit 1) .skip)) (.seq (.region 5 (rg Try.f16 5) true) (.seq (.region 6 (rg Try.f16 6) true) (.cond (.tmp 54) (.seq (.region 7 (rg Try.f16 7) false) .ret) .skip))))) (.region 3 (rg Try.f16 3) false)))))) (.seq (.region 8 (rg Try.f16 8) false) .ret)))) (by kernel_rfl) (Nat.le_of_ble_eq_true (by kernel_rfl)) 0 (rs := [.tmp 4]) rfl [] .nil [(false, [.lit (.bool r)])] [] [] fun cx => ?_
  show Tr _ _ _ ⟨55, 0, [(0, .val true (CV.frzRow (Net.row x0))), (1, .val false [.sl false 1 (CV.frzEs (x1.map intRow))])], []⟩ _
  unfold spec_LoopsF at H
  refine Tr.rs ?_
  refine LAt.runU tOk 2 (by kernel_rfl) ?_
  refine LAt.doneU [4, 2, 1] [2] (by kernel_rfl) ?_
  refine Tr.seq ?_
  refine Tr.rs ?_
  refine LAt.runU tOk 1 (by kernel_rfl) ?_
  refine LAt.doneU [5, 4, 2, 1] [2] (by kernel_rfl) ?_
  obtain ⟨o2, eo2, Ho2⟩ := bind_some H
  clear H
  refine Tr.mid (ι := Unit) (fun v => ⟨55, 0, [(4, .val false [.lit (.bool false)])], []⟩) (fun v => spec_Loops_J1 n = some r) ?_ ?_
  · refine Tr.block ?_
    refine Tr.loop (ι := Nat × (Int)) (fun v => ⟨55, 0, [(5, .val false [.lit (.int .i64 v.2)]), (4, .val false [.lit (.bool false)]), (2, .adr (.box 2) [(0, 0)] 3 0), (1, .val false [.sl false 1 (CV.frzEs (x1.map intRow))])], [(2, (CV.frzRow (Net.row x0)))]⟩) (fun v => spec_Loops_L2 n v.1 x0 x1 v.2 = some o2) (fun v => v.1) (n, 0) eo2 (St.sub_of [5, 4, 2, 1] [2] (by kernel_rfl)) ?_
    rintro ⟨mo2, y1⟩ H
    have H : spec_Loops_L2 n mo2 x0 x1 y1 = some o2 := H
    obtain _ | mo2 := mo2
    · cases (show (none : Option _) = some o2 from H)
    · rw [spec_Loops_L2] at H
      refine Tr.seq ?_
      refine Tr.rs ?_
      refine LAt.runU tOk 2 (by kernel_rfl) ?_
      refine LAt.lenE tOk (t := 27) (ty := 3) (e := 3) (x := (.tmp 8)) (d := 9) (g := none) ⟨(.slot 8), [], 0, false, 1, (CV.frzEs (x1.map intRow))⟩ (x1).length _ (by kernel_rfl) (by kernel_rfl) (by kernel_rfl) (by kernel_rfl) (by kernel_rfl) (frz_len _ _) rfl ?_
      refine LAt.runU tOk 1 (by kernel_rfl) ?_
      refine LAt.doneU [10, 9, 8, 7, 5, 4, 2, 1] [2] (by kernel_rfl) ?_
      refine Tr.to ⟨55, 0, [(10, .val false [.lit (.bool (decide (y1 < (x1.length : Int))))]), (9, .val false [.lit (.int .i64 (x1.length : Int))]), (8, .val false [.sl false 1 (CV.frzEs (x1.map intRow))]), (7, .val false [.lit (.int .i64 y1)]), (5, .val false [.lit (.int .i64 y1)]), (4, .val false [.lit (.bool false)]), (2, .adr (.box 2) [(0, 0)] 3 0), (1, .val false [.sl false 1 (CV.frzEs (x1.map intRow))])], [(2, (CV.frzRow (Net.row x0)))]⟩ (by kernel_rfl) ?_
      cases h1 : (decide (y1 < (x1.length : Int)))
      · have H := bifF h1 H
        refine Tr.cond (b := false) (by kernel_rfl) (fun h => nomatch h) (fun _ => ?_)
        refine Tr.exit ?_
        refine And.intro (fun _ => ?_) (fun h => absurd rfl h)
        have H := Option.some.inj H
        subst H
        have H := Ho2
        dsimp only at H
        exact Exists.intro () (And.intro H (St.sub_of [4] [] (by kernel_rfl)))
      · have H := bifT h1 H
        refine Tr.cond (b := true) (by kernel_rfl) (fun _ => ?_) (fun h => nomatch h)
        refine Tr.skip ?_
        show Tr _ _ _ _ _
        refine Tr.seq ?_
        refine Tr.block ?_
        refine Tr.seq ?_
        obtain ⟨v3, ev3, H⟩ := bind_some H
        obtain ⟨r4, er4, H⟩ := bind_some H
        refine Tr.draws mixed 10 (by kernel_rfl) ⟨55, 0, [(22, .val false [.lit (.bool (!r4))]), (21, .val false [.lit (.bool r4)]), (20, .val false [.lit (.int .i64 (IntKind.wrap .i64 ((x0.Links.length : Int) - 1)))]), (19, .val false [.lit (.int .i64 (x0.Links.length : Int))]), (18, .ref (.box 2) [(0, 0)] 3 1 1 false), (17, .adr (.box 2) [(0, 0)] 3 1), (16, .val false [.lit (.int .i64 v3)]), (15, .fad ([.lit (.int .i64 v3)])), (14, .val false [.lit (.int .i64 y1)]), (13, .val false [.sl false 1 (CV.frzEs (x1.map intRow))]), (10, .val false [.lit (.bool true)]), (9, .val false [.lit (.int .i64 (x1.length : Int))]), (8, .val false [.sl false 1 (CV.frzEs (x1.map intRow))]), (7, .val false [.lit (.int .i64 y1)]), (5, .val false [.lit (.int .i64 y1)]), (4, .val false [.lit (.bool false)]), (2, .adr (.box 2) [(0, 0)] 3 0), (1, .val false [.sl false 1 (CV.frzEs (x1.map intRow))])], [(2, (CV.frzRow (Net.row x0)))]⟩ (fun cx => ?_) ?_
        · refine AT.runU tOk [(0, []), (1, [])] 8 [] [1, 0] rfl (by kernel_rfl) (fun cx => ?_)
          refine AT.indexF tOk 2 (t := 27) (ty := 0) (x := (.tmp 13)) (y := (.tmp 14)) (d := 15) (g := none) ⟨(.slot 13), [], 0, false, 1, (CV.frzEs (x1.map intRow))⟩ y1 [.lit (.int .i64 v3)] _ (by kernel_rfl) (by kernel_rfl) (by kernel_rfl) (by kernel_rfl) (by kernel_rfl) (by kernel_rfl) rfl (idx_isF ev3) rfl (fun cx => ?_)
          refine AT.runU tOk [(3, []), (4, []), (5, [8])] 4 [⟨[8], 31, 17, 18⟩] [5, 4, 3, 2, 1, 0] rfl (by kernel_rfl) (fun cx => ?_)
          refine AT.lenE tOk 6 (t := 31) (ty := 3) (e := 96) (x := (.tmp 18)) (d := 19) (g := none) ⟨(.box 2), [(0, 0)], 1, false, 4, (CV.frzEs (x0.Links.map Link.row))⟩ (x0.Links).length _ (by kernel_rfl) (by kernel_rfl) (by kernel_rfl) (by kernel_rfl) (by kernel_rfl) (by kernel_rfl) (by kernel_rfl) (frz_len _ _) rfl (fun cx => ?_)
          refine AT.runU tOk [(7, [])] 2 [⟨[8], 31, 17, 18⟩] [7, 6, 5, 4, 3, 2, 1, 0] rfl (by kernel_rfl) (fun cx => ?_)
          refine AT.big1 tOk 8 (by kernel_rfl) (by kernel_rfl) ?_
          refine LAt.callU tOk [.rd, .rd, .rd] (f := 65) (av := #[.tmp 16, .const (.int .i64 0), .tmp 20]) (ats := #[3, 3, 3]) (d := (some 21)) (ty := 4) (g := none) (by kernel_rfl) (by kernel_rfl) (by kernel_rfl) [] (spec_l1In n v3 0 (IntKind.wrap .i64 ((x0.Links.length : Int) - 1)) r4 er4) (by kernel_rfl) (.inl rfl) ?_
          refine LAt.fin (by kernel_rfl) (And.intro (And.intro (by kernel_rfl) (by kernel_rfl)) ?_)
          refine AT.runU tOk [(9, [])] 0 [⟨[8], 31, 17, 18⟩] [9, 8, 7, 6, 5, 4, 3, 2, 1, 0] rfl (by kernel_rfl) (fun cx => ?_)
          exact AT.done [22, 21, 20, 19, 18, 17, 16, 15, 14, 13, 10, 9, 8, 7, 5, 4, 2, 1] [2] _ (by kernel_rfl) (by kernel_rfl) rfl
        · refine Tr.to ⟨55, 0, [(22, .val false [.lit (.bool (!r4))]), (21, .val false [.lit (.bool r4)]), (20, .val false [.lit (.int .i64 (IntKind.wrap .i64 ((x0.Links.length : Int) - 1)))]), (19, .val false [.lit (.int .i64 (x0.Links.length : Int))]), (18, .ref (.box 2) [(0, 0)] 3 1 1 false), (17, .adr (.box 2) [(0, 0)] 3 1), (16, .val false [.lit (.int .i64 v3)]), (15, .fad ([.lit (.int .i64 v3)])), (14, .val false [.lit (.int .i64 y1)]), (13, .val false [.sl false 1 (CV.frzEs (x1.map intRow))]), (10, .val false [.lit (.bool true)]), (9, .val false [.lit (.int .i64 (x1.length : Int))]), (8, .val false [.sl false 1 (CV.frzEs (x1.map intRow))]), (7, .val false [.lit (.int .i64 y1)]), (5, .val false [.lit (.int .i64 y1)]), (4, .val false [.lit (.bool false)]), (2, .adr (.box 2) [(0, 0)] 3 0), (1, .val false [.sl false 1 (CV.frzEs (x1.map intRow))])], [(2, (CV.frzRow (Net.row x0)))]⟩ (by kernel_rfl) ?_
          cases h2 : (!r4)
          · have H := bifF h2 H
            refine Tr.cond (b := false) (by kernel_rfl) (fun h => nomatch h) (fun _ => ?_)
            refine Tr.skip ?_
            show Tr _ _ _ _ _
            obtain ⟨hg5, H⟩ := guard_some H
            obtain ⟨hg6, H⟩ := guard_some H
            obtain ⟨hg7, H⟩ := guard_some H
            obtain ⟨hg8, H⟩ := guard_some H
            refine Tr.draws mixed 11 (by kernel_rfl) ⟨55, 0, [(6, .val false [.sl true 1 (((([] : List Int) ++ ((x1.drop ((0 : Int)).toNat).take (((y1 : Int)).toNat - ((0 : Int)).toNat))) ++ ((x1.drop (((IntKind.wrap .i64 (y1 + 1)) : Int)).toNat).take ((((x1.length : Int) : Int)).toNat - (((IntKind.wrap .i64 (y1 + 1)) : Int)).toNat))).map intRow)]), (31, .val false [.sl false 1 (CV.frzEs (((x1.drop (((IntKind.wrap .i64 (y1 + 1)) : Int)).toNat).take ((((x1.length : Int) : Int)).toNat - (((IntKind.wrap .i64 (y1 + 1)) : Int)).toNat)).map intRow))]), (30, .val false [.lit (.int .i64 (IntKind.wrap .i64 (y1 + 1)))]), (29, .val false [.lit (.int .i64 y1)]), (28, .val false [.sl false 1 (CV.frzEs (x1.map intRow))]), (26, .val false [.sl false 1 (CV.frzEs (((x1.drop ((0 : Int)).toNat).take (((y1 : Int)).toNat - ((0 : Int)).toNat)).map intRow))]), (25, .val false [.lit (.int .i64 y1)]), (24, .val false [.sl false 1 (CV.frzEs (x1.map intRow))]), (22, .val false [.lit (.bool false)]), (21, .val false [.lit (.bool r4)]), (20, .val false [.lit (.int .i64 (IntKind.wrap .i64 ((x0.Links.length : Int) - 1)))]), (19, .val false [.lit (.int .i64 (x0.Links.length : Int))]), (18, .ref (.box 2) [(0, 0)] 3 1 1 false), (17, .adr (.box 2) [(0, 0)] 3 1), (16, .val false [.lit (.int .i64 v3)]), (15, .fad ([.lit (.int .i64 v3)])), (14, .val false [.lit (.int .i64 y1)]), (13, .val false [.sl false 1 (CV.frzEs (x1.map intRow))]), (10, .val false [.lit (.bool true)]), (9, .val false [.lit (.int .i64 (x1.length : Int))]), (8, .val false [.sl false 1 (CV.frzEs (x1.map intRow))]), (7, .val false [.lit (.int .i64 y1)]), (5, .val false [.lit (.int .i64 y1)]), (4, .val false [.lit (.bool false)]), (2, .adr (.box 2) [(0, 0)] 3 0), (1, .val false [.sl false 1 (CV.frzEs (x1.map intRow))])], [(2, (CV.frzRow (Net.row x0)))]⟩ (fun cx => ?_) ?_
            · refine AT.runU tOk [(1, []), (2, []), (5, []), (6, []), (7, [])] 6 [] [7, 6, 5, 2, 1] rfl (by kernel_rfl) (fun cx => ?_)
              refine AT.big3 tOk 0 3 8 (by kernel_rfl) (And.intro (by kernel_rfl) ?_) (And.intro (by kernel_rfl) ?_) (And.intro (by kernel_rfl) ?_)
              · refine LAt.runU tOk 1 (by kernel_rfl) ?_
                refine LAt.fin (by kernel_rfl) (And.intro (And.intro (by kernel_rfl) (by kernel_rfl)) ?_)
                refine AT.big2 tOk 3 8 (by kernel_rfl) (And.intro (by kernel_rfl) ?_) (And.intro (by kernel_rfl) ?_)
                · refine LAt.cutG tOk (t := 27) (ty := 27) (e := 3) (x := (.tmp 24)) (lo := none) (hi := (some (.tmp 25))) (d := 26) (g := none) ⟨.int .i64, 1, 8, [.lit (.int .i64 0)]⟩ intRow x1 ⟨(.slot 24), [], 0, false, 1, (CV.frzEs (x1.map intRow))⟩ 0 y1 (by kernel_rfl) (by kernel_rfl) (by kernel_rfl) (by kernel_rfl) (by kernel_rfl) (by kernel_rfl) rfl (by kernel_rfl) rfl (by kernel_rfl) (by kernel_rfl) hg5 ?_
                  refine LAt.fin (by kernel_rfl) (And.intro (And.intro (by kernel_rfl) (by kernel_rfl)) ?_)
                  refine AT.big2 tOk 4 8 (by kernel_rfl) (And.intro (by kernel_rfl) ?_) (And.intro (by kernel_rfl) ?_)
                  · refine LAt.appCU tOk (t := 27) (ty := 27) (e := 3) (x := (.tmp 23)) (y := (.tmp 26)) (d := 27) (g := none) ⟨.int .i64, 1, 8, [.lit (.int .i64 0)]⟩ intRow ([] : List Int) ((x1.drop ((0 : Int)).toNat).take (((y1 : Int)).toNat - ((0 : Int)).toNat)) ⟨(.slot 26), [], 0, false, 1, (CV.frzEs (((x1.drop ((0 : Int)).toNat).take (((y1 : Int)).toNat - ((0 : Int)).toNat)).map intRow))⟩ (by kernel_rfl) (by kernel_rfl) (by kernel_rfl) (by kernel_rfl) (by kernel_rfl) (by kernel_rfl) (by kernel_rfl) (by kernel_rfl) (by kernel_rfl) (by kernel_rfl) (by kernel_rfl) (.inr rfl) (fun _ => rfl) (fun _ => rfl) hg6 ?_
                    refine LAt.fin (by kernel_rfl) (And.intro (And.intro (by kernel_rfl) (by kernel_rfl)) ?_)
                    refine AT.big1 tOk 8 (by kernel_rfl) (by kernel_rfl) ?_
                    refine LAt.cutG tOk (t := 27) (ty := 27) (e := 3) (x := (.tmp 28)) (lo := (some (.tmp 30))) (hi := none) (d := 31) (g := none) ⟨.int .i64, 1, 8, [.lit (.int .i64 0)]⟩ intRow x1 ⟨(.slot 28), [], 0, false, 1, (CV.frzEs (x1.map intRow))⟩ (IntKind.wrap .i64 (y1 + 1)) (x1.length : Int) (by kernel_rfl) (by kernel_rfl) (by kernel_rfl) (by kernel_rfl) (by kernel_rfl) (by kernel_rfl) rfl (by kernel_rfl) rfl (by kernel_rfl) (by kernel_rfl) hg7 ?_
                    refine LAt.fin (by kernel_rfl) (And.intro (And.intro (by kernel_rfl) (by kernel_rfl)) ?_)
                    refine AT.big1 tOk 9 (by kernel_rfl) (by kernel_rfl) ?_
                    refine LAt.appCU tOk (t := 27) (ty := 27) (e := 3) (x := (.tmp 27)) (y := (.tmp 31)) (d := 32) (g := none) ⟨.int .i64, 1, 8, [.lit (.int .i64 0)]⟩ intRow (([] : List Int) ++ ((x1.drop ((0 : Int)).toNat).take (((y1 : Int)).toNat - ((0 : Int)).toNat))) ((x1.drop (((IntKind.wrap .i64 (y1 + 1)) : Int)).toNat).take ((((x1.length : Int) : Int)).toNat - (((IntKind.wrap .i64 (y1 + 1)) : Int)).toNat)) ⟨(.slot 31), [], 0, false, 1, (CV.frzEs (((x1.drop (((IntKind.wrap .i64 (y1 + 1)) : Int)).toNat).take ((((x1.length : Int) : Int)).toNat - (((IntKind.wrap .i64 (y1 + 1)) : Int)).toNat)).map intRow))⟩ (by kernel_rfl) (by kernel_rfl) (by kernel_rfl) (by kernel_rfl) (by kernel_rfl) (by kernel_rfl) (by kernel_rfl) (by kernel_rfl) (by kernel_rfl) (by kernel_rfl) (by kernel_rfl) (.inr rfl) (fun _ => rfl) (fun _ => rfl) hg8 ?_
                    refine LAt.fin (by kernel_rfl) (And.intro (And.intro (by kernel_rfl) (by kernel_rfl)) ?_)
                    refine AT.big1 tOk 10 (by kernel_rfl) (by kernel_rfl) ?_
                    refine LAt.moveU (T := lk tab) (ty := 27) (x := (.tmp 32)) (d := 6) (g := none) false [.sl true 1 (((([] : List Int) ++ ((x1.drop ((0 : Int)).toNat).take (((y1 : Int)).toNat - ((0 : Int)).toNat))) ++ ((x1.drop (((IntKind.wrap .i64 (y1 + 1)) : Int)).toNat).take ((((x1.length : Int) : Int)).toNat - (((IntKind.wrap .i64 (y1 + 1)) : Int)).toNat))).map intRow)] (by kernel_rfl) (by kernel_rfl) (by kernel_rfl) (by kernel_rfl) (by kernel_rfl) ?_
                    refine LAt.fin (by kernel_rfl) (And.intro (And.intro (by kernel_rfl) (by kernel_rfl)) ?_)
                    exact AT.done [6, 31, 30, 29, 28, 26, 25, 24, 22, 21, 20, 19, 18, 17, 16, 15, 14, 13, 10, 9, 8, 7, 5, 4, 2, 1] [2] _ (by kernel_rfl) (by kernel_rfl) rfl
                  · refine LAt.cutG tOk (t := 27) (ty := 27) (e := 3) (x := (.tmp 28)) (lo := (some (.tmp 30))) (hi := none) (d := 31) (g := none) ⟨.int .i64, 1, 8, [.lit (.int .i64 0)]⟩ intRow x1 ⟨(.slot 28), [], 0, false, 1, (CV.frzEs (x1.map intRow))⟩ (IntKind.wrap .i64 (y1 + 1)) (x1.length : Int) (by kernel_rfl) (by kernel_rfl) (by kernel_rfl) (by kernel_rfl) (by kernel_rfl) (by kernel_rfl) rfl (by kernel_rfl) rfl (by kernel_rfl) (by kernel_rfl) hg7 ?_
                    refine LAt.fin (by kernel_rfl) (And.intro (And.intro (by kernel_rfl) (by kernel_rfl)) ?_)
                    refine AT.big1 tOk 4 (by kernel_rfl) (by kernel_rfl) ?_
                    refine LAt.appCU tOk (t := 27) (ty := 27) (e := 3) (x := (.tmp 23)) (y := (.tmp 26)) (d := 27) (g := none) ⟨.int .i64, 1, 8, [.lit (.int .i64 0)]⟩ intRow ([] : List Int) ((x1.drop ((0 : Int)).toNat).take (((y1 : Int)).toNat - ((0 : Int)).toNat)) ⟨(.slot 26), [], 0, false, 1, (CV.frzEs (((x1.drop ((0 : Int)).toNat).take (((y1 : Int)).toNat - ((0 : Int)).toNat)).map intRow))⟩ (by kernel_rfl) (by kernel_rfl) (by kernel_rfl) (by kernel_rfl) (by kernel_rfl) (by kernel_rfl) (by kernel_rfl) (by kernel_rfl) (by kernel_rfl) (by kernel_rfl) (by kernel_rfl) (.inr rfl) (fun _ => rfl) (fun _ => rfl) hg6 ?_
                    refine LAt.fin (by kernel_rfl) (And.intro (And.intro (by kernel_rfl) (by kernel_rfl)) ?_)
                    refine AT.big1 tOk 9 (by kernel_rfl) (by kernel_rfl) ?_
                    refine LAt.appCU tOk (t := 27) (ty := 27) (e := 3) (x := (.tmp 27)) (y := (.tmp 31)) (d := 32) (g := none) ⟨.int .i64, 1, 8, [.lit (.int .i64 0)]⟩ intRow (([] : List Int) ++ ((x1.drop ((0 : Int)).toNat).take (((y1 : Int)).toNat - ((0 : Int)).toNat))) ((x1.drop (((IntKind.wrap .i64 (y1 + 1)) : Int)).toNat).take ((((x1.length : Int) : Int)).toNat - (((IntKind.wrap .i64 (y1 + 1)) : Int)).toNat)) ⟨(.slot 31), [], 0, false, 1, (CV.frzEs (((x1.drop (((IntKind.wrap .i64 (y1 + 1)) : Int)).toNat).take ((((x1.length : Int) : Int)).toNat - (((IntKind.wrap .i64 (y1 + 1)) : Int)).toNat)).map intRow))⟩ (by kernel_rfl) (by kernel_rfl) (by kernel_rfl) (by kernel_rfl) (by kernel_rfl) (by kernel_rfl) (by kernel_rfl) (by kernel_rfl) (by kernel_rfl) (by kernel_rfl) (by kernel_rfl) (.inr rfl) (fun _ => rfl) (fun _ => rfl) hg8 ?_
                    refine LAt.fin (by kernel_rfl) (And.intro (And.intro (by kernel_rfl) (by kernel_rfl)) ?_)
                    refine AT.big1 tOk 10 (by kernel_rfl) (by kernel_rfl) ?_
                    refine LAt.moveU (T := lk tab) (ty := 27) (x := (.tmp 32)) (d := 6) (g := none) false [.sl true 1 (((([] : List Int) ++ ((x1.drop ((0 : Int)).toNat).take (((y1 : Int)).toNat - ((0 : Int)).toNat))) ++ ((x1.drop (((IntKind.wrap .i64 (y1 + 1)) : Int)).toNat).take ((((x1.length : Int) : Int)).toNat - (((IntKind.wrap .i64 (y1 + 1)) : Int)).toNat))).map intRow)] (by kernel_rfl) (by kernel_rfl) (by kernel_rfl) (by kernel_rfl) (by kernel_rfl) ?_
                    refine LAt.fin (by kernel_rfl) (And.intro (And.intro (by kernel_rfl) (by kernel_rfl)) ?_)
                    exact AT.done [6, 31, 30, 29, 28, 26, 25, 24, 22, 21, 20, 19, 18, 17, 16, 15, 14, 13, 10, 9, 8, 7, 5, 4, 2, 1] [2] _ (by kernel_rfl) (by kernel_rfl) rfl
                · refine LAt.cutG tOk (t := 27) (ty := 27) (e := 3) (x := (.tmp 28)) (lo := (some (.tmp 30))) (hi := none) (d := 31) (g := none) ⟨.int .i64, 1, 8, [.lit (.int .i64 0)]⟩ intRow x1 ⟨(.slot 28), [], 0, false, 1, (CV.frzEs (x1.map intRow))⟩ (IntKind.wrap .i64 (y1 + 1)) (x1.length : Int) (by kernel_rfl) (by kernel_rfl) (by kernel_rfl) (by kernel_rfl) (by kernel_rfl) (by kernel_rfl) rfl (by kernel_rfl) rfl (by kernel_rfl) (by kernel_rfl) hg7 ?_
                  refine LAt.fin (by kernel_rfl) (And.intro (And.intro (by kernel_rfl) (by kernel_rfl)) ?_)
                  refine AT.big1 tOk 3 (by kernel_rfl) (by kernel_rfl) ?_
                  refine LAt.cutG tOk (t := 27) (ty := 27) (e := 3) (x := (.tmp 24)) (lo := none) (hi := (some (.tmp 25))) (d := 26) (g := none) ⟨.int .i64, 1, 8, [.lit (.int .i64 0)]⟩ intRow x1 ⟨(.slot 24), [], 0, false, 1, (CV.frzEs (x1.map intRow))⟩ 0 y1 (by kernel_rfl) (by kernel_rfl) (by kernel_rfl) (by kernel_rfl) (by kernel_rfl) (by kernel_rfl) rfl (by kernel_rfl) rfl (by kernel_rfl) (by kernel_rfl) hg5 ?_
                  refine LAt.fin (by kernel_rfl) (And.intro (And.intro (by kernel_rfl) (by kernel_rfl)) ?_)
                  refine AT.big1 tOk 4 (by kernel_rfl) (by kernel_rfl) ?_
                  refine LAt.appCU tOk (t := 27) (ty := 27) (e := 3) (x := (.tmp 23)) (y := (.tmp 26)) (d := 27) (g := none) ⟨.int .i64, 1, 8, [.lit (.int .i64 0)]⟩ intRow ([] : List Int) ((x1.drop ((0 : Int)).toNat).take (((y1 : Int)).toNat - ((0 : Int)).toNat)) ⟨(.slot 26), [], 0, false, 1, (CV.frzEs (((x1.drop ((0 : Int)).toNat).take (((y1 : Int)).toNat - ((0 : Int)).toNat)).map intRow))⟩ (by kernel_rfl) (by kernel_rfl) (by kernel_rfl) (by kernel_rfl) (by kernel_rfl) (by kernel_rfl) (by kernel_rfl) (by kernel_rfl) (by kernel_rfl) (by kernel_rfl) (by kernel_rfl) (.inr rfl) (fun _ => rfl) (fun _ => rfl) hg6 ?_
                  refine LAt.fin (by kernel_rfl) (And.intro (And.intro (by kernel_rfl) (by kernel_rfl)) ?_)
                  refine AT.big1 tOk 9 (by kernel_rfl) (by kernel_rfl) ?_
                  refine LAt.appCU tOk (t := 27) (ty := 27) (e := 3) (x := (.tmp 27)) (y := (.tmp 31)) (d := 32) (g := none) ⟨.int .i64, 1, 8, [.lit (.int .i64 0)]⟩ intRow (([] : List Int) ++ ((x1.drop ((0 : Int)).toNat).take (((y1 : Int)).toNat - ((0 : Int)).toNat))) ((x1.drop (((IntKind.wrap .i64 (y1 + 1)) : Int)).toNat).take ((((x1.length : Int) : Int)).toNat - (((IntKind.wrap .i64 (y1 + 1)) : Int)).toNat)) ⟨(.slot 31), [], 0, false, 1, (CV.frzEs (((x1.drop (((IntKind.wrap .i64 (y1 + 1)) : Int)).toNat).take ((((x1.length : Int) : Int)).toNat - (((IntKind.wrap .i64 (y1 + 1)) : Int)).toNat)).map intRow))⟩ (by kernel_rfl) (by kernel_rfl) (by kernel_rfl) (by kernel_rfl) (by kernel_rfl) (by kernel_rfl) (by kernel_rfl) (by kernel_rfl) (by kernel_rfl) (by kernel_rfl) (by kernel_rfl) (.inr rfl) (fun _ => rfl) (fun _ => rfl) hg8 ?_
                  refine LAt.fin (by kernel_rfl) (And.intro (And.intro (by kernel_rfl) (by kernel_rfl)) ?_)
                  refine AT.big1 tOk 10 (by kernel_rfl) (by kernel_rfl) ?_
                  refine LAt.moveU (T := lk tab) (ty := 27) (x := (.tmp 32)) (d := 6) (g := none) false [.sl true 1 (((([] : List Int) ++ ((x1.drop ((0 : Int)).toNat).take (((y1 : Int)).toNat - ((0 : Int)).toNat))) ++ ((x1.drop (((IntKind.wrap .i64 (y1 + 1)) : Int)).toNat).take ((((x1.length : Int) : Int)).toNat - (((IntKind.wrap .i64 (y1 + 1)) : Int)).toNat))).map intRow)] (by kernel_rfl) (by kernel_rfl) (by kernel_rfl) (by kernel_rfl) (by kernel_rfl) ?_
                  refine LAt.fin (by kernel_rfl) (And.intro (And.intro (by kernel_rfl) (by kernel_rfl)) ?_)
                  exact AT.done [6, 31, 30, 29, 28, 26, 25, 24, 22, 21, 20, 19, 18, 17, 16, 15, 14, 13, 10, 9, 8, 7, 5, 4, 2, 1] [2] _ (by kernel_rfl) (by kernel_rfl) rfl
              · refine LAt.cutG tOk (t := 27) (ty := 27) (e := 3) (x := (.tmp 24)) (lo := none) (hi := (some (.tmp 25))) (d := 26) (g := none) ⟨.int .i64, 1, 8, [.lit (.int .i64 0)]⟩ intRow x1 ⟨(.slot 24), [], 0, false, 1, (CV.frzEs (x1.map intRow))⟩ 0 y1 (by kernel_rfl) (by kernel_rfl) (by kernel_rfl) (by kernel_rfl) (by kernel_rfl) (by kernel_rfl) rfl (by kernel_rfl) rfl (by kernel_rfl) (by kernel_rfl) hg5 ?_
                refine LAt.fin (by kernel_rfl) (And.intro (And.intro (by kernel_rfl) (by kernel_rfl)) ?_)
                refine AT.big2 tOk 0 8 (by kernel_rfl) (And.intro (by kernel_rfl) ?_) (And.intro (by kernel_rfl) ?_)
                · refine LAt.runU tOk 1 (by kernel_rfl) ?_
                  refine LAt.fin (by kernel_rfl) (And.intro (And.intro (by kernel_rfl) (by kernel_rfl)) ?_)
                  refine AT.big2 tOk 4 8 (by kernel_rfl) (And.intro (by kernel_rfl) ?_) (And.intro (by kernel_rfl) ?_)
                  · refine LAt.appCU tOk (t := 27) (ty := 27) (e := 3) (x := (.tmp 23)) (y := (.tmp 26)) (d := 27) (g := none) ⟨.int .i64, 1, 8, [.lit (.int .i64 0)]⟩ intRow ([] : List Int) ((x1.drop ((0 : Int)).toNat).take (((y1 : Int)).toNat - ((0 : Int)).toNat)) ⟨(.slot 26), [], 0, false, 1, (CV.frzEs (((x1.drop ((0 : Int)).toNat).take (((y1 : Int)).toNat - ((0 : Int)).toNat)).map intRow))⟩ (by kernel_rfl) (by kernel_rfl) (by kernel_rfl) (by kernel_rfl) (by kernel_rfl) (by kernel_rfl) (by kernel_rfl) (by kernel_rfl) (by kernel_rfl) (by kernel_rfl) (by kernel_rfl) (.inr rfl) (fun _ => rfl) (fun _ => rfl) hg6 ?_
                    refine LAt.fin (by kernel_rfl) (And.intro (And.intro (by kernel_rfl) (by kernel_rfl)) ?_)
                    refine AT.big1 tOk 8 (by kernel_rfl) (by kernel_rfl) ?_
                    refine LAt.cutG tOk (t := 27) (ty := 27) (e := 3) (x := (.tmp 28)) (lo := (some (.tmp 30))) (hi := none) (d := 31) (g := none) ⟨.int .i64, 1, 8, [.lit (.int .i64 0)]⟩ intRow x1 ⟨(.slot 28), [], 0, false, 1, (CV.frzEs (x1.map intRow))⟩ (IntKind.wrap .i64 (y1 + 1)) (x1.length : Int) (by kernel_rfl) (by kernel_rfl) (by kernel_rfl) (by kernel_rfl) (by kernel_rfl) (by kernel_rfl) rfl (by kernel_rfl) rfl (by kernel_rfl) (by kernel_rfl) hg7 ?_
                    refine LAt.fin (by kernel_rfl) (And.intro (And.intro (by kernel_rfl) (by kernel_rfl)) ?_)
                    refine AT.big1 tOk 9 (by kernel_rfl) (by kernel_rfl) ?_
                    refine LAt.appCU tOk (t := 27) (ty := 27) (e := 3) (x := (.tmp 27)) (y := (.tmp 31)) (d := 32) (g := none) ⟨.int .i64, 1, 8, [.lit (.int .i64 0)]⟩ intRow (([] : List Int) ++ ((x1.drop ((0 : Int)).toNat).take (((y1 : Int)).toNat - ((0 : Int)).toNat))) ((x1.drop (((IntKind.wrap .i64 (y1 + 1)) : Int)).toNat).take ((((x1.length : Int) : Int)).toNat - (((IntKind.wrap .i64 (y1 + 1)) : Int)).toNat)) ⟨(.slot 31), [], 0, false, 1, (CV.frzEs (((x1.drop (((IntKind.wrap .i64 (y1 + 1)) : Int)).toNat).take ((((x1.length : Int) : Int)).toNat - (((IntKind.wrap .i64 (y1 + 1)) : Int)).toNat)).map intRow))⟩ (by kernel_rfl) (by kernel_rfl) (by kernel_rfl) (by kernel_rfl) (by kernel_rfl) (by kernel_rfl) (by kernel_rfl) (by kernel_rfl) (by kernel_rfl) (by kernel_rfl) (by kernel_rfl) (.inr rfl) (fun _ => rfl) (fun _ => rfl) hg8 ?_
                    refine LAt.fin (by kernel_rfl) (And.intro (And.intro (by kernel_rfl) (by kernel_rfl)) ?_)
                    refine AT.big1 tOk 10 (by kernel_rfl) (by kernel_rfl) ?_
                    refine LAt.moveU (T := lk tab) (ty := 27) (x := (.tmp 32)) (d := 6) (g := none) false [.sl true 1 (((([] : List Int) ++ ((x1.drop ((0 : Int)).toNat).take (((y1 : Int)).toNat - ((0 : Int)).toNat))) ++ ((x1.drop (((IntKind.wrap .i64 (y1 + 1)) : Int)).toNat).take ((((x1.length : Int) : Int)).toNat - (((IntKind.wrap .i64 (y1 + 1)) : Int)).toNat))).map intRow)] (by kernel_rfl) (by kernel_rfl) (by kernel_rfl) (by kernel_rfl) (by kernel_rfl) ?_
                    refine LAt.fin (by kernel_rfl) (And.intro (And.intro (by kernel_rfl) (by kernel_rfl)) ?_)
                    exact AT.done [6, 31, 30, 29, 28, 26, 25, 24, 22, 21, 20, 19, 18, 17, 16, 15, 14, 13, 10, 9, 8, 7, 5, 4, 2, 1] [2] _ (by kernel_rfl) (by kernel_rfl) rfl
                  · refine LAt.cutG tOk (t := 27) (ty := 27) (e := 3) (x := (.tmp 28)) (lo := (some (.tmp 30))) (hi := none) (d := 31) (g := none) ⟨.int .i64, 1, 8, [.lit (.int .i64 0)]⟩ intRow x1 ⟨(.slot 28), [], 0, false, 1, (CV.frzEs (x1.map intRow))⟩ (IntKind.wrap .i64 (y1 + 1)) (x1.length : Int) (by kernel_rfl) (by kernel_rfl) (by kernel_rfl) (by kernel_rfl) (by kernel_rfl) (by kernel_rfl) rfl (by kernel_rfl) rfl (by kernel_rfl) (by kernel_rfl) hg7 ?_
                    refine LAt.fin (by kernel_rfl) (And.intro (And.intro (by kernel_rfl) (by kernel_rfl)) ?_)
                    refine AT.big1 tOk 4 (by kernel_rfl) (by kernel_rfl) ?_
                    refine LAt.appCU tOk (t := 27) (ty := 27) (e := 3) (x := (.tmp 23)) (y := (.tmp 26)) (d := 27) (g := none) ⟨.int .i64, 1, 8, [.lit (.int .i64 0)]⟩ intRow ([] : List Int) ((x1.drop ((0 : Int)).toNat).take (((y1 : Int)).toNat - ((0 : Int)).toNat)) ⟨(.slot 26), [], 0, false, 1, (CV.frzEs (((x1.drop ((0 : Int)).toNat).take (((y1 : Int)).toNat - ((0 : Int)).toNat)).map intRow))⟩ (by kernel_rfl) (by kernel_rfl) (by kernel_rfl) (by kernel_rfl) (by kernel_rfl) (by kernel_rfl) (by kernel_rfl) (by kernel_rfl) (by kernel_rfl) (by kernel_rfl) (by kernel_rfl) (.inr rfl) (fun _ => rfl) (fun _ => rfl) hg6 ?_
                    refine LAt.fin (by kernel_rfl) (And.intro (And.intro (by kernel_rfl) (by kernel_rfl)) ?_)
                    refine AT.big1 tOk 9 (by kernel_rfl) (by kernel_rfl) ?_
                    refine LAt.appCU tOk (t := 27) (ty := 27) (e := 3) (x := (.tmp 27)) (y := (.tmp 31)) (d := 32) (g := none) ⟨.int .i64, 1, 8, [.lit (.int .i64 0)]⟩ intRow (([] : List Int) ++ ((x1.drop ((0 : Int)).toNat).take (((y1 : Int)).toNat - ((0 : Int)).toNat))) ((x1.drop (((IntKind.wrap .i64 (y1 + 1)) : Int)).toNat).take ((((x1.length : Int) : Int)).toNat - (((IntKind.wrap .i64 (y1 + 1)) : Int)).toNat)) ⟨(.slot 31), [], 0, false, 1, (CV.frzEs (((x1.drop (((IntKind.wrap .i64 (y1 + 1)) : Int)).toNat).take ((((x1.length : Int) : Int)).toNat - (((IntKind.wrap .i64 (y1 + 1)) : Int)).toNat)).map intRow))⟩ (by kernel_rfl) (by kernel_rfl) (by kernel_rfl) (by kernel_rfl) (by kernel_rfl) (by kernel_rfl) (by kernel_rfl) (by kernel_rfl) (by kernel_rfl) (by kernel_rfl) (by kernel_rfl) (.inr rfl) (fun _ => rfl) (fun _ => rfl) hg8 ?_
                    refine LAt.fin (by kernel_rfl) (And.intro (And.intro (by kernel_rfl) (by kernel_rfl)) ?_)
                    refine AT.big1 tOk 10 (by kernel_rfl) (by kernel_rfl) ?_
                    refine LAt.moveU (T := lk tab) (ty := 27) (x := (.tmp 32)) (d := 6) (g := none) false [.sl true 1 (((([] : List Int) ++ ((x1.drop ((0 : Int)).toNat).take (((y1 : Int)).toNat - ((0 : Int)).toNat))) ++ ((x1.drop (((IntKind.wrap .i64 (y1 + 1)) : Int)).toNat).take ((((x1.length : Int) : Int)).toNat - (((IntKind.wrap .i64 (y1 + 1)) : Int)).toNat))).map intRow)] (by kernel_rfl) (by kernel_rfl) (by kernel_rfl) (by kernel_rfl) (by kernel_rfl) ?_
                    refine LAt.fin (by kernel_rfl) (And.intro (And.intro (by kernel_rfl) (by kernel_rfl)) ?_)
                    exact AT.done [6, 31, 30, 29, 28, 26, 25, 24, 22, 21, 20, 19, 18, 17, 16, 15, 14, 13, 10, 9, 8, 7, 5, 4, 2, 1] [2] _ (by kernel_rfl) (by kernel_rfl) rfl
                · refine LAt.cutG tOk (t := 27) (ty := 27) (e := 3) (x := (.tmp 28)) (lo := (some (.tmp 30))) (hi := none) (d := 31) (g := none) ⟨.int .i64, 1, 8, [.lit (.int .i64 0)]⟩ intRow x1 ⟨(.slot 28), [], 0, false, 1, (CV.frzEs (x1.map intRow))⟩ (IntKind.wrap .i64 (y1 + 1)) (x1.length : Int) (by kernel_rfl) (by kernel_rfl) (by kernel_rfl) (by kernel_rfl) (by kernel_rfl) (by kernel_rfl) rfl (by kernel_rfl) rfl (by kernel_rfl) (by kernel_rfl) hg7 ?_
                  refine LAt.fin (by kernel_rfl) (And.intro (And.intro (by kernel_rfl) (by kernel_rfl)) ?_)
                  refine AT.big1 tOk 0 (by kernel_rfl) (by kernel_rfl) ?_
                  refine LAt.runU tOk 1 (by kernel_rfl) ?_
                  refine LAt.fin (by kernel_rfl) (And.intro (And.intro (by kernel_rfl) (by kernel_rfl)) ?_)
                  refine AT.big1 tOk 4 (by kernel_rfl) (by kernel_rfl) ?_
                  refine LAt.appCU tOk (t := 27) (ty := 27) (e := 3) (x := (.tmp 23)) (y := (.tmp 26)) (d := 27) (g := none) ⟨.int .i64, 1, 8, [.lit (.int .i64 0)]⟩ intRow ([] : List Int) ((x1.drop ((0 : Int)).toNat).take (((y1 : Int)).toNat - ((0 : Int)).toNat)) ⟨(.slot 26), [], 0, false, 1, (CV.frzEs (((x1.drop ((0 : Int)).toNat).take (((y1 : Int)).toNat - ((0 : Int)).toNat)).map intRow))⟩ (by kernel_rfl) (by kernel_rfl) (by kernel_rfl) (by kernel_rfl) (by kernel_rfl) (by kernel_rfl) (by kernel_rfl) (by kernel_rfl) (by kernel_rfl) (by kernel_rfl) (by kernel_rfl) (.inr rfl) (fun _ => rfl) (fun _ => rfl) hg6 ?_
                  refine LAt.fin (by kernel_rfl) (And.intro (And.intro (by kernel_rfl) (by kernel_rfl)) ?_)
                  refine AT.big1 tOk 9 (by kernel_rfl) (by kernel_rfl) ?_
                  refine LAt.appCU tOk (t := 27) (ty := 27) (e := 3) (x := (.tmp 27)) (y := (.tmp 31)) (d := 32) (g := none) ⟨.int .i64, 1, 8, [.lit (.int .i64 0)]⟩ intRow (([] : List Int) ++ ((x1.drop ((0 : Int)).toNat).take (((y1 : Int)).toNat - ((0 : Int)).toNat))) ((x1.drop (((IntKind.wrap .i64 (y1 + 1)) : Int)).toNat).take ((((x1.length : Int) : Int)).toNat - (((IntKind.wrap .i64 (y1 + 1)) : Int)).toNat)) ⟨(.slot 31), [], 0, false, 1, (CV.frzEs (((x1.drop (((IntKind.wrap .i64 (y1 + 1)) : Int)).toNat).take ((((x1.length : Int) : Int)).toNat - (((IntKind.wrap .i64 (y1 + 1)) : Int)).toNat)).map intRow))⟩ (by kernel_rfl) (by kernel_rfl) (by kernel_rfl) (by kernel_rfl) (by kernel_rfl) (by kernel_rfl) (by kernel_rfl) (by kernel_rfl) (by kernel_rfl) (by kernel_rfl) (by kernel_rfl) (.inr rfl) (fun _ => rfl) (fun _ => rfl) hg8 ?_
                  refine LAt.fin (by kernel_rfl) (And.intro (And.intro (by kernel_rfl) (by kernel_rfl)) ?_)
                  refine AT.big1 tOk 10 (by kernel_rfl) (by kernel_rfl) ?_
                  refine LAt.moveU (T := lk tab) (ty := 27) (x := (.tmp 32)) (d := 6) (g := none) false [.sl true 1 (((([] : List Int) ++ ((x1.drop ((0 : Int)).toNat).take (((y1 : Int)).toNat - ((0 : Int)).toNat))) ++ ((x1.drop (((IntKind.wrap .i64 (y1 + 1)) : Int)).toNat).take ((((x1.length : Int) : Int)).toNat - (((IntKind.wrap .i64 (y1 + 1)) : Int)).toNat))).map intRow)] (by kernel_rfl) (by kernel_rfl) (by kernel_rfl) (by kernel_rfl) (by kernel_rfl) ?_
                  refine LAt.fin (by kernel_rfl) (And.intro (And.intro (by kernel_rfl) (by kernel_rfl)) ?_)
                  exact AT.done [6, 31, 30, 29, 28, 26, 25, 24, 22, 21, 20, 19, 18, 17, 16, 15, 14, 13, 10, 9, 8, 7, 5, 4, 2, 1] [2] _ (by kernel_rfl) (by kernel_rfl) rfl
              · refine LAt.cutG tOk (t := 27) (ty := 27) (e := 3) (x := (.tmp 28)) (lo := (some (.tmp 30))) (hi := none) (d := 31) (g := none) ⟨.int .i64, 1, 8, [.lit (.int .i64 0)]⟩ intRow x1 ⟨(.slot 28), [], 0, false, 1, (CV.frzEs (x1.map intRow))⟩ (IntKind.wrap .i64 (y1 + 1)) (x1.length : Int) (by kernel_rfl) (by kernel_rfl) (by kernel_rfl) (by kernel_rfl) (by kernel_rfl) (by kernel_rfl) rfl (by kernel_rfl) rfl (by kernel_rfl) (by kernel_rfl) hg7 ?_
                refine LAt.fin (by kernel_rfl) (And.intro (And.intro (by kernel_rfl) (by kernel_rfl)) ?_)
                refine AT.big2 tOk 0 3 (by kernel_rfl) (And.intro (by kernel_rfl) ?_) (And.intro (by kernel_rfl) ?_)
                · refine LAt.runU tOk 1 (by kernel_rfl) ?_
                  refine LAt.fin (by kernel_rfl) (And.intro (And.intro (by kernel_rfl) (by kernel_rfl)) ?_)
                  refine AT.big1 tOk 3 (by kernel_rfl) (by kernel_rfl) ?_
                  refine LAt.cutG tOk (t := 27) (ty := 27) (e := 3) (x := (.tmp 24)) (lo := none) (hi := (some (.tmp 25))) (d := 26) (g := none) ⟨.int .i64, 1, 8, [.lit (.int .i64 0)]⟩ intRow x1 ⟨(.slot 24), [], 0, false, 1, (CV.frzEs (x1.map intRow))⟩ 0 y1 (by kernel_rfl) (by kernel_rfl) (by kernel_rfl) (by kernel_rfl) (by kernel_rfl) (by kernel_rfl) rfl (by kernel_rfl) rfl (by kernel_rfl) (by kernel_rfl) hg5 ?_
                  refine LAt.fin (by kernel_rfl) (And.intro (And.intro (by kernel_rfl) (by kernel_rfl)) ?_)
                  refine AT.big1 tOk 4 (by kernel_rfl) (by kernel_rfl) ?_
                  refine LAt.appCU tOk (t := 27) (ty := 27) (e := 3) (x := (.tmp 23)) (y := (.tmp 26)) (d := 27) (g := none) ⟨.int .i64, 1, 8, [.lit (.int .i64 0)]⟩ intRow ([] : List Int) ((x1.drop ((0 : Int)).toNat).take (((y1 : Int)).toNat - ((0 : Int)).toNat)) ⟨(.slot 26), [], 0, false, 1, (CV.frzEs (((x1.drop ((0 : Int)).toNat).take (((y1 : Int)).toNat - ((0 : Int)).toNat)).map intRow))⟩ (by kernel_rfl) (by kernel_rfl) (by kernel_rfl) (by kernel_rfl) (by kernel_rfl) (by kernel_rfl) (by kernel_rfl) (by kernel_rfl) (by kernel_rfl) (by kernel_rfl) (by kernel_rfl) (.inr rfl) (fun _ => rfl) (fun _ => rfl) hg6 ?_
                  refine LAt.fin (by kernel_rfl) (And.intro (And.intro (by kernel_rfl) (by kernel_rfl)) ?_)
                  refine AT.big1 tOk 9 (by kernel_rfl) (by kernel_rfl) ?_
                  refine LAt.appCU tOk (t := 27) (ty := 27) (e := 3) (x := (.tmp 27)) (y := (.tmp 31)) (d := 32) (g := none) ⟨.int .i64, 1, 8, [.lit (.int .i64 0)]⟩ intRow (([] : List Int) ++ ((x1.drop ((0 : Int)).toNat).take (((y1 : Int)).toNat - ((0 : Int)).toNat))) ((x1.drop (((IntKind.wrap .i64 (y1 + 1)) : Int)).toNat).take ((((x1.length : Int) : Int)).toNat - (((IntKind.wrap .i64 (y1 + 1)) : Int)).toNat)) ⟨(.slot 31), [], 0, false, 1, (CV.frzEs (((x1.drop (((IntKind.wrap .i64 (y1 + 1)) : Int)).toNat).take ((((x1.length : Int) : Int)).toNat - (((IntKind.wrap .i64 (y1 + 1)) : Int)).toNat)).map intRow))⟩ (by kernel_rfl) (by kernel_rfl) (by kernel_rfl) (by kernel_rfl) (by kernel_rfl) (by kernel_rfl) (by kernel_rfl) (by kernel_rfl) (by kernel_rfl) (by kernel_rfl) (by kernel_rfl) (.inr rfl) (fun _ => rfl) (fun _ => rfl) hg8 ?_
                  refine LAt.fin (by kernel_rfl) (And.intro (And.intro (by kernel_rfl) (by kernel_rfl)) ?_)
                  refine AT.big1 tOk 10 (by kernel_rfl) (by kernel_rfl) ?_
                  refine LAt.moveU (T := lk tab) (ty := 27) (x := (.tmp 32)) (d := 6) (g := none) false [.sl true 1 (((([] : List Int) ++ ((x1.drop ((0 : Int)).toNat).take (((y1 : Int)).toNat - ((0 : Int)).toNat))) ++ ((x1.drop (((IntKind.wrap .i64 (y1 + 1)) : Int)).toNat).take ((((x1.length : Int) : Int)).toNat - (((IntKind.wrap .i64 (y1 + 1)) : Int)).toNat))).map intRow)] (by kernel_rfl) (by kernel_rfl) (by kernel_rfl) (by kernel_rfl) (by kernel_rfl) ?_
                  refine LAt.fin (by kernel_rfl) (And.intro (And.intro (by kernel_rfl) (by kernel_rfl)) ?_)
                  exact AT.done [6, 31, 30, 29, 28, 26, 25, 24, 22, 21, 20, 19, 18, 17, 16, 15, 14, 13, 10, 9, 8, 7, 5, 4, 2, 1] [2] _ (by kernel_rfl) (by kernel_rfl) rfl
                · refine LAt.cutG tOk (t := 27) (ty := 27) (e := 3) (x := (.tmp 24)) (lo := none) (hi := (some (.tmp 25))) (d := 26) (g := none) ⟨.int .i64, 1, 8, [.lit (.int .i64 0)]⟩ intRow x1 ⟨(.slot 24), [], 0, false, 1, (CV.frzEs (x1.map intRow))⟩ 0 y1 (by kernel_rfl) (by kernel_rfl) (by kernel_rfl) (by kernel_rfl) (by kernel_rfl) (by kernel_rfl) rfl (by kernel_rfl) rfl (by kernel_rfl) (by kernel_rfl) hg5 ?_
                  refine LAt.fin (by kernel_rfl) (And.intro (And.intro (by kernel_rfl) (by kernel_rfl)) ?_)
                  refine AT.big1 tOk 0 (by kernel_rfl) (by kernel_rfl) ?_
                  refine LAt.runU tOk 1 (by kernel_rfl) ?_
                  refine LAt.fin (by kernel_rfl) (And.intro (And.intro (by kernel_rfl) (by kernel_rfl)) ?_)
                  refine AT.big1 tOk 4 (by kernel_rfl) (by kernel_rfl) ?_
                  refine LAt.appCU tOk (t := 27) (ty := 27) (e := 3) (x := (.tmp 23)) (y := (.tmp 26)) (d := 27) (g := none) ⟨.int .i64, 1, 8, [.lit (.int .i64 0)]⟩ intRow ([] : List Int) ((x1.drop ((0 : Int)).toNat).take (((y1 : Int)).toNat - ((0 : Int)).toNat)) ⟨(.slot 26), [], 0, false, 1, (CV.frzEs (((x1.drop ((0 : Int)).toNat).take (((y1 : Int)).toNat - ((0 : Int)).toNat)).map intRow))⟩ (by kernel_rfl) (by kernel_rfl) (by kernel_rfl) (by kernel_rfl) (by kernel_rfl) (by kernel_rfl) (by kernel_rfl) (by kernel_rfl) (by kernel_rfl) (by kernel_rfl) (by kernel_rfl) (.inr rfl) (fun _ => rfl) (fun _ => rfl) hg6 ?_
                  refine LAt.fin (by kernel_rfl) (And.intro (And.intro (by kernel_rfl) (by kernel_rfl)) ?_)
                  refine AT.big1 tOk 9 (by kernel_rfl) (by kernel_rfl) ?_
                  refine LAt.appCU tOk (t := 27) (ty := 27) (e := 3) (x := (.tmp 27)) (y := (.tmp 31)) (d := 32) (g := none) ⟨.int .i64, 1, 8, [.lit (.int .i64 0)]⟩ intRow (([] : List Int) ++ ((x1.drop ((0 : Int)).toNat).take (((y1 : Int)).toNat - ((0 : Int)).toNat))) ((x1.drop (((IntKind.wrap .i64 (y1 + 1)) : Int)).toNat).take ((((x1.length : Int) : Int)).toNat - (((IntKind.wrap .i64 (y1 + 1)) : Int)).toNat)) ⟨(.slot 31), [], 0, false, 1, (CV.frzEs (((x1.drop (((IntKind.wrap .i64 (y1 + 1)) : Int)).toNat).take ((((x1.length : Int) : Int)).toNat - (((IntKind.wrap .i64 (y1 + 1)) : Int)).toNat)).map intRow))⟩ (by kernel_rfl) (by kernel_rfl) (by kernel_rfl) (by kernel_rfl) (by kernel_rfl) (by kernel_rfl) (by kernel_rfl) (by kernel_rfl) (by kernel_rfl) (by kernel_rfl) (by kernel_rfl) (.inr rfl) (fun _ => rfl) (fun _ => rfl) hg8 ?_
                  refine LAt.fin (by kernel_rfl) (And.intro (And.intro (by kernel_rfl) (by kernel_rfl)) ?_)
                  refine AT.big1 tOk 10 (by kernel_rfl) (by kernel_rfl) ?_
                  refine LAt.moveU (T := lk tab) (ty := 27) (x := (.tmp 32)) (d := 6) (g := none) false [.sl true 1 (((([] : List Int) ++ ((x1.drop ((0 : Int)).toNat).take (((y1 : Int)).toNat - ((0 : Int)).toNat))) ++ ((x1.drop (((IntKind.wrap .i64 (y1 + 1)) : Int)).toNat).take ((((x1.length : Int) : Int)).toNat - (((IntKind.wrap .i64 (y1 + 1)) : Int)).toNat))).map intRow)] (by kernel_rfl) (by kernel_rfl) (by kernel_rfl) (by kernel_rfl) (by kernel_rfl) ?_
                  refine LAt.fin (by kernel_rfl) (And.intro (And.intro (by kernel_rfl) (by kernel_rfl)) ?_)
                  exact AT.done [6, 31, 30, 29, 28, 26, 25, 24, 22, 21, 20, 19, 18, 17, 16, 15, 14, 13, 10, 9, 8, 7, 5, 4, 2, 1] [2] _ (by kernel_rfl) (by kernel_rfl) rfl
            · obtain ⟨v9, ev9, H⟩ := bind_some H
              obtain ⟨v10, ev10, H⟩ := bind_some H
              obtain ⟨r11, er11, H⟩ := bind_some H
              obtain ⟨v12, ev12, H⟩ := bind_some H
              obtain ⟨v13, ev13, H⟩ := bind_some H
              obtain ⟨r14, er14, H⟩ := bind_some H
              refine Tr.draws mixed 22 (by kernel_rfl) ⟨55, 0, [(54, .val false [.lit (.bool r14)]), (44, .val false [.sl false 1 (CV.frzEs (r11.map intRow))]), (53, .val false [.lit (.int .i64 v13.B)]), (52, .fad (((Link.row v13).drop 2))), (51, .fad ((Link.row v13))), (50, .val false [.lit (.int .i64 v12)]), (49, .fad ([.lit (.int .i64 v12)])), (48, .val false [.lit (.int .i64 y1)]), (47, .val false [.sl false 1 (CV.frzEs (x1.map intRow))]), (46, .ref (.box 2) [(0, 0)] 3 1 1 false), (45, .adr (.box 2) [(0, 0)] 3 1), (43, .ref (.slot 6) [] 0 0 1 false), (42, .val false [.lit (.int .i64 v10.A)]), (41, .fad ((Link.row v10))), (40, .fad ((Link.row v10))), (39, .val false [.lit (.int .i64 v9)]), (38, .fad ([.lit (.int .i64 v9)])), (37, .val false [.lit (.int .i64 y1)]), (36, .val false [.sl false 1 (CV.frzEs (x1.map intRow))]), (35, .ref (.box 2) [(0, 0)] 3 1 1 false), (34, .adr (.box 2) [(0, 0)] 3 1), (33, .ref (.box 2) [(0, 0)] 3 0 3 true), (6, .val false [.sl true 1 (((([] : List Int) ++ ((x1.drop ((0 : Int)).toNat).take (((y1 : Int)).toNat - ((0 : Int)).toNat))) ++ ((x1.drop (((IntKind.wrap .i64 (y1 + 1)) : Int)).toNat).take ((((x1.length : Int) : Int)).toNat - (((IntKind.wrap .i64 (y1 + 1)) : Int)).toNat))).map intRow)]), (31, .val false [.sl false 1 (CV.frzEs (((x1.drop (((IntKind.wrap .i64 (y1 + 1)) : Int)).toNat).take ((((x1.length : Int) : Int)).toNat - (((IntKind.wrap .i64 (y1 + 1)) : Int)).toNat)).map intRow))]), (30, .val false [.lit (.int .i64 (IntKind.wrap .i64 (y1 + 1)))]), (29, .val false [.lit (.int .i64 y1)]), (28, .val false [.sl false 1 (CV.frzEs (x1.map intRow))]), (26, .val false [.sl false 1 (CV.frzEs (((x1.drop ((0 : Int)).toNat).take (((y1 : Int)).toNat - ((0 : Int)).toNat)).map intRow))]), (25, .val false [.lit (.int .i64 y1)]), (24, .val false [.sl false 1 (CV.frzEs (x1.map intRow))]), (22, .val false [.lit (.bool false)]), (21, .val false [.lit (.bool r4)]), (20, .val false [.lit (.int .i64 (IntKind.wrap .i64 ((x0.Links.length : Int) - 1)))]), (19, .val false [.lit (.int .i64 (x0.Links.length : Int))]), (18, .ref (.box 2) [(0, 0)] 3 1 1 false), (17, .adr (.box 2) [(0, 0)] 3 1), (16, .val false [.lit (.int .i64 v3)]), (15, .fad ([.lit (.int .i64 v3)])), (14, .val false [.lit (.int .i64 y1)]), (13, .val false [.sl false 1 (CV.frzEs (x1.map intRow))]), (10, .val false [.lit (.bool true)]), (9, .val false [.lit (.int .i64 (x1.length : Int))]), (8, .val false [.sl false 1 (CV.frzEs (x1.map intRow))]), (7, .val false [.lit (.int .i64 y1)]), (5, .val false [.lit (.int .i64 y1)]), (4, .val false [.lit (.bool false)]), (2, .adr (.box 2) [(0, 0)] 3 0), (1, .val false [.sl false 1 (CV.frzEs (x1.map intRow))])], [(2, (CV.frzRow (Net.row x0)))]⟩ (fun cx => ?_) ?_
              · refine AT.runU tOk [(0, [11, 21]), (1, []), (2, [11, 21]), (3, []), (4, [])] 17 [⟨[11, 21], 31, 34, 35⟩, ⟨[11, 21], 34, 2, 33⟩] [4, 3, 2, 1, 0] rfl (by kernel_rfl) (fun cx => ?_)
                refine AT.indexF tOk 5 (t := 27) (ty := 0) (x := (.tmp 36)) (y := (.tmp 37)) (d := 38) (g := none) ⟨(.slot 36), [], 0, false, 1, (CV.frzEs (x1.map intRow))⟩ y1 [.lit (.int .i64 v9)] _ (by kernel_rfl) (by kernel_rfl) (by kernel_rfl) (by kernel_rfl) (by kernel_rfl) (by kernel_rfl) rfl (idx_isF ev9) rfl (fun cx => ?_)
                refine AT.runU tOk [(6, [])] 15 [⟨[11, 21], 31, 34, 35⟩, ⟨[11, 21], 34, 2, 33⟩] [6, 5, 4, 3, 2, 1, 0] rfl (by kernel_rfl) (fun cx => ?_)
                refine AT.indexF tOk 7 (t := 31) (ty := 0) (x := (.tmp 35)) (y := (.tmp 39)) (d := 40) (g := none) ⟨(.box 2), [(0, 0)], 1, false, 4, (CV.frzEs (x0.Links.map Link.row))⟩ v9 (Link.row v10) _ (by kernel_rfl) (by kernel_rfl) (by kernel_rfl) (by kernel_rfl) (by kernel_rfl) (by kernel_rfl) rfl (idx_isF ev10) rfl (fun cx => ?_)
                refine AT.runU tOk [(8, []), (9, []), (10, []), (12, []), (13, [21]), (14, []), (15, [])] 7 [⟨[21], 31, 45, 46⟩, ⟨[11, 21], 31, 34, 35⟩, ⟨[11, 21], 34, 2, 33⟩] [15, 14, 13, 12, 10, 9, 8, 7, 6, 5, 4, 3, 2, 1, 0] rfl (by kernel_rfl) (fun cx => ?_)
                refine AT.indexF tOk 16 (t := 27) (ty := 0) (x := (.tmp 47)) (y := (.tmp 48)) (d := 49) (g := none) ⟨(.slot 47), [], 0, false, 1, (CV.frzEs (x1.map intRow))⟩ y1 [.lit (.int .i64 v12)] _ (by kernel_rfl) (by kernel_rfl) (by kernel_rfl) (by kernel_rfl) (by kernel_rfl) (by kernel_rfl) rfl (idx_isF ev12) rfl (fun cx => ?_)
                refine AT.runU tOk [(17, [])] 5 [⟨[21], 31, 45, 46⟩, ⟨[11, 21], 31, 34, 35⟩, ⟨[11, 21], 34, 2, 33⟩] [17, 16, 15, 14, 13, 12, 10, 9, 8, 7, 6, 5, 4, 3, 2, 1, 0] rfl (by kernel_rfl) (fun cx => ?_)
                refine AT.indexF tOk 18 (t := 31) (ty := 0) (x := (.tmp 46)) (y := (.tmp 50)) (d := 51) (g := none) ⟨(.box 2), [(0, 0)], 1, false, 4, (CV.frzEs (x0.Links.map Link.row))⟩ v12 (Link.row v13) _ (by kernel_rfl) (by kernel_rfl) (by kernel_rfl) (by kernel_rfl) (by kernel_rfl) (by kernel_rfl) rfl (idx_isF ev13) rfl (fun cx => ?_)
                refine AT.runU tOk [(19, []), (20, [])] 2 [⟨[21], 31, 45, 46⟩, ⟨[11, 21], 31, 34, 35⟩, ⟨[11, 21], 34, 2, 33⟩] [20, 19, 18, 17, 16, 15, 14, 13, 12, 10, 9, 8, 7, 6, 5, 4, 3, 2, 1, 0] rfl (by kernel_rfl) (fun cx => ?_)
                refine AT.big1 tOk 11 (by kernel_rfl) (by kernel_rfl) ?_
                refine LAt.callU tOk [.rd, .rd, .rd] (f := 29) (av := #[.tmp 33, .tmp 42, .tmp 43]) (ats := #[34, 3, 27]) (d := (some 44)) (ty := 27) (g := none) (by kernel_rfl) (by kernel_rfl) (by kernel_rfl) [.slot 6] (spec_Joined n x0 v10.A ((([] : List Int) ++ ((x1.drop ((0 : Int)).toNat).take (((y1 : Int)).toNat - ((0 : Int)).toNat))) ++ ((x1.drop (((IntKind.wrap .i64 (y1 + 1)) : Int)).toNat).take ((((x1.length : Int) : Int)).toNat - (((IntKind.wrap .i64 (y1 + 1)) : Int)).toNat))) r11 er11) (by kernel_rfl) (.inr (rets_cons (mine_cons (mine_sl (mine_map intRow_mine _)) mine_nil) rets_nil)) ?_
                refine LAt.fin (by kernel_rfl) (And.intro (And.intro (by kernel_rfl) (by kernel_rfl)) ?_)
                refine AT.big1 tOk 21 (by kernel_rfl) (by kernel_rfl) ?_
                refine LAt.callU tOk [.rd, .rd] (f := 66) (av := #[.tmp 44, .tmp 53]) (ats := #[27, 3]) (d := (some 54)) (ty := 4) (g := none) (by kernel_rfl) (by kernel_rfl) (by kernel_rfl) [] (spec_l15Has n r11 v13.B r14 er14) (by kernel_rfl) (.inl rfl) ?_
                refine LAt.fin (by kernel_rfl) (And.intro (And.intro (by kernel_rfl) (by kernel_rfl)) ?_)
                exact AT.done [54, 44, 53, 52, 51, 50, 49, 48, 47, 46, 45, 43, 42, 41, 40, 39, 38, 37, 36, 35, 34, 33, 6, 31, 30, 29, 28, 26, 25, 24, 22, 21, 20, 19, 18, 17, 16, 15, 14, 13, 10, 9, 8, 7, 5, 4, 2, 1] [2] _ (by kernel_rfl) (by kernel_rfl) rfl
              · refine Tr.to ⟨55, 0, [(54, .val false [.lit (.bool r14)]), (44, .val false [.sl false 1 (CV.frzEs (r11.map intRow))]), (53, .val false [.lit (.int .i64 v13.B)]), (52, .fad (((Link.row v13).drop 2))), (51, .fad ((Link.row v13))), (50, .val false [.lit (.int .i64 v12)]), (49, .fad ([.lit (.int .i64 v12)])), (48, .val false [.lit (.int .i64 y1)]), (47, .val false [.sl false 1 (CV.frzEs (x1.map intRow))]), (46, .ref (.box 2) [(0, 0)] 3 1 1 false), (45, .adr (.box 2) [(0, 0)] 3 1), (43, .ref (.slot 6) [] 0 0 1 false), (42, .val false [.lit (.int .i64 v10.A)]), (41, .fad ((Link.row v10))), (40, .fad ((Link.row v10))), (39, .val false [.lit (.int .i64 v9)]), (38, .fad ([.lit (.int .i64 v9)])), (37, .val false [.lit (.int .i64 y1)]), (36, .val false [.sl false 1 (CV.frzEs (x1.map intRow))]), (35, .ref (.box 2) [(0, 0)] 3 1 1 false), (34, .adr (.box 2) [(0, 0)] 3 1), (33, .ref (.box 2) [(0, 0)] 3 0 3 true), (6, .val false [.sl true 1 (((([] : List Int) ++ ((x1.drop ((0 : Int)).toNat).take (((y1 : Int)).toNat - ((0 : Int)).toNat))) ++ ((x1.drop (((IntKind.wrap .i64 (y1 + 1)) : Int)).toNat).take ((((x1.length : Int) : Int)).toNat - (((IntKind.wrap .i64 (y1 + 1)) : Int)).toNat))).map intRow)]), (31, .val false [.sl false 1 (CV.frzEs (((x1.drop (((IntKind.wrap .i64 (y1 + 1)) : Int)).toNat).take ((((x1.length : Int) : Int)).toNat - (((IntKind.wrap .i64 (y1 + 1)) : Int)).toNat)).map intRow))]), (30, .val false [.lit (.int .i64 (IntKind.wrap .i64 (y1 + 1)))]), (29, .val false [.lit (.int .i64 y1)]), (28, .val false [.sl false 1 (CV.frzEs (x1.map intRow))]), (26, .val false [.sl false 1 (CV.frzEs (((x1.drop ((0 : Int)).toNat).take (((y1 : Int)).toNat - ((0 : Int)).toNat)).map intRow))]), (25, .val false [.lit (.int .i64 y1)]), (24, .val false [.sl false 1 (CV.frzEs (x1.map intRow))]), (22, .val false [.lit (.bool false)]), (21, .val false [.lit (.bool r4)]), (20, .val false [.lit (.int .i64 (IntKind.wrap .i64 ((x0.Links.length : Int) - 1)))]), (19, .val false [.lit (.int .i64 (x0.Links.length : Int))]), (18, .ref (.box 2) [(0, 0)] 3 1 1 false), (17, .adr (.box 2) [(0, 0)] 3 1), (16, .val false [.lit (.int .i64 v3)]), (15, .fad ([.lit (.int .i64 v3)])), (14, .val false [.lit (.int .i64 y1)]), (13, .val false [.sl false 1 (CV.frzEs (x1.map intRow))]), (10, .val false [.lit (.bool true)]), (9, .val false [.lit (.int .i64 (x1.length : Int))]), (8, .val false [.sl false 1 (CV.frzEs (x1.map intRow))]), (7, .val false [.lit (.int .i64 y1)]), (5, .val false [.lit (.int .i64 y1)]), (4, .val false [.lit (.bool false)]), (2, .adr (.box 2) [(0, 0)] 3 0), (1, .val false [.sl false 1 (CV.frzEs (x1.map intRow))])], [(2, (CV.frzRow (Net.row x0)))]⟩ (by kernel_rfl) ?_
                cases h3 : r14
                · have H := bifF h3 H
                  refine Tr.cond (b := false) (by kernel_rfl) (fun h => nomatch h) (fun _ => ?_)
                  refine Tr.skip ?_
                  show Tr _ _ _ _ _
                  refine Tr.at ?_
                  refine LAt.runU tOk 3 (by kernel_rfl) ?_
                  refine LAt.doneU [5, 12, 11, 54, 44, 53, 52, 51, 50, 49, 48, 47, 46, 45, 43, 42, 41, 40, 39, 38, 37, 36, 35, 34, 33, 6, 31, 30, 29, 28, 26, 25, 24, 22, 21, 20, 19, 18, 17, 16, 15, 14, 13, 10, 9, 8, 7, 4, 2, 1] [2] (by kernel_rfl) ?_
                  exact Exists.intro (mo2, (IntKind.wrap .i64 (y1 + 1))) (And.intro H (And.intro (Nat.lt_succ_self mo2) (St.sub_of [5, 4, 2, 1] [2] (by kernel_rfl))))
                · have H := bifT h3 H
                  refine Tr.cond (b := true) (by kernel_rfl) (fun _ => ?_) (fun h => nomatch h)
                  refine Tr.rs ?_
                  refine LAt.runU tOk 1 (by kernel_rfl) ?_
                  refine LAt.doneU [4, 54, 44, 53, 52, 51, 50, 49, 48, 47, 46, 45, 43, 42, 41, 40, 39, 38, 37, 36, 35, 34, 33, 6, 31, 30, 29, 28, 26, 25, 24, 22, 21, 20, 19, 18, 17, 16, 15, 14, 13, 10, 9, 8, 7, 5, 2, 1] [2] (by kernel_rfl) ?_
                  refine Tr.ret ?_
                  have H := Option.some.inj H
                  subst H
                  have H := Ho2
                  dsimp only at H
                  have H := Option.some.inj H
                  subst H
                  exact Fin.of _ [(false, [.lit (.bool true)])] (by kernel_rfl) rfl rfl
          · have H := bifT h2 H
            refine Tr.cond (b := true) (by kernel_rfl) (fun _ => ?_) (fun h => nomatch h)
            refine Tr.exit ?_
            refine And.intro (fun _ => ?_) (fun h => absurd rfl h)
            show Tr _ _ _ _ _
            refine Tr.at ?_
            refine LAt.runU tOk 3 (by kernel_rfl) ?_
            refine LAt.doneU [5, 12, 11, 22, 21, 20, 19, 18, 17, 16, 15, 14, 13, 10, 9, 8, 7, 4, 2, 1] [2] (by kernel_rfl) ?_
            exact Exists.intro (mo2, (IntKind.wrap .i64 (y1 + 1))) (And.intro H (And.intro (Nat.lt_succ_self mo2) (St.sub_of [5, 4, 2, 1] [2] (by kernel_rfl))))
  · rintro _ H
    have H : (spec_Loops_J1 n) = some r := H
    unfold spec_Loops_J1 at H
    show Tr _ _ _ _ _
    refine Tr.rs ?_
    refine LAt.runU tOk 1 (by kernel_rfl) ?_
    refine LAt.doneU [4] [] (by kernel_rfl) ?_
    refine Tr.ret ?_
    have H := Option.some.inj H
    subst H
    exact Fin.of _ [(false, [.lit (.bool false)])] (by kernel_rfl) rfl rfl

def impl_inF (n : Nat) (x0 : Int) (x1 : Int) (x2 : Int) : Option (Bool) :=
  (bif (decide (x0 ≥ x1)) then (some (decide (x0 ≤ x2))) else (some false))
/-- loop.example/g00326/impl.in -/
theorem impl_in (n : Nat) (x0 : Int) (x1 : Int) (x2 : Int) (r : Bool) (H : impl_inF n x0 x1 x2 = some r) : LCall Try.prog 70 [.val false [.lit (.int .i64 x0)], .val false [.lit (.int .i64 x1)], .val false [.lit (.int .i64 x2)]] [.val false [.lit (.bool r)]] [] := by
  refine LCall.of_body tOk Try.func70 rfl (c := (.seq (.region 0 (rg Try.f70 0) false) (.seq (.region 1 (rg Try.f70 1) false) .ret))) (by kernel_rfl) (Nat.le_of_ble_eq_true (by kernel_rfl)) 0 (rs := [.tmp 6]) rfl [] .nil [(false, [.lit (.bool r)])] [] [] fun cx => ?_
  show Tr _ _ _ ⟨15, 0, [(0, .val false [.lit (.int .i64 x0)]), (1, .val false [.lit (.int .i64 x1)]), (2, .val false [.lit (.int .i64 x2)])], []⟩ _
  unfold impl_inF at H
  refine Tr.rs ?_
  refine LAt.runU tOk 1 (by kernel_rfl) ?_
  refine LAt.doneU [6, 0, 1, 2] [] (by kernel_rfl) ?_
  refine Tr.rs ?_
  refine LAt.runU tOk 4 (by kernel_rfl) ?_
  refine LAt.to ⟨15, 0, [(10, .val false [.lit (.bool (decide (x0 ≥ x1)))]), (9, .val false [.lit (.bool (decide (x0 ≥ x1)))]), (8, .val false [.lit (.int .i64 x1)]), (7, .val false [.lit (.int .i64 x0)]), (6, .val false [.lit (.bool false)]), (0, .val false [.lit (.int .i64 x0)]), (1, .val false [.lit (.int .i64 x1)]), (2, .val false [.lit (.int .i64 x2)])], []⟩ (by kernel_rfl) ?_
  cases h1 : (decide (x0 ≥ x1))
  · have H := bifF h1 H
    refine LAt.runU tOk 5 (by kernel_rfl) ?_
    refine LAt.doneU [6] [] (by kernel_rfl) ?_
    refine Tr.ret ?_
    have H := Option.some.inj H
    subst H
    exact Fin.of _ [(false, [.lit (.bool false)])] (by kernel_rfl) rfl rfl
  · have H := bifT h1 H
    refine LAt.runU tOk 5 (by kernel_rfl) ?_
    refine LAt.doneU [6] [] (by kernel_rfl) ?_
    refine Tr.ret ?_
    have H := Option.some.inj H
    subst H
    exact Fin.of _ [(false, [.lit (.bool (decide (x0 ≤ x2)))])] (by kernel_rfl) rfl rfl

def impl_copyIntsF (n : Nat) (x0 : (List Int)) : Option ((List Int)) :=
  (bif (decide (([] : List Int).length + x0.length ≤ 268435456)) then (some (([] : List Int) ++ x0)) else none)
/-- loop.example/g00326/impl.copyInts -/
theorem impl_copyInts (n : Nat) (x0 : (List Int)) (r : (List Int)) (H : impl_copyIntsF n x0 = some r) : LCall Try.prog 71 [.val false [.sl false 1 (CV.frzEs (x0.map intRow))]] [.val false [.sl true 1 (r.map intRow)]] [] := by
  refine LCall.of_body tOk Try.func71 rfl (c := (.seq (.region 0 (rg Try.f71 0) false) (.seq (.region 1 (rg Try.f71 1) false) .ret))) (by kernel_rfl) (Nat.le_of_ble_eq_true (by kernel_rfl)) 0 (rs := [.tmp 2]) rfl [] .nil [(false, [.sl true 1 (r.map intRow)])] [] [] fun cx => ?_
  show Tr _ _ _ ⟨5, 0, [(0, .val false [.sl false 1 (CV.frzEs (x0.map intRow))])], []⟩ _
  unfold impl_copyIntsF at H
  refine Tr.rs ?_
  refine LAt.runU tOk 1 (by kernel_rfl) ?_
  refine LAt.doneU [2, 0] [] (by kernel_rfl) ?_
  refine Tr.rs ?_
  refine LAt.runU tOk 1 (by kernel_rfl) ?_
  obtain ⟨hg1, H⟩ := guard_some H
  refine LAt.appCU tOk (t := 27) (ty := 27) (e := 3) (x := (.const (.slice none 0 0))) (y := (.tmp 3)) (d := 4) (g := none) ⟨.int .i64, 1, 8, [.lit (.int .i64 0)]⟩ intRow ([] : List Int) x0 ⟨(.slot 3), [], 0, false, 1, (CV.frzEs (x0.map intRow))⟩ (by kernel_rfl) (by kernel_rfl) (by kernel_rfl) (by kernel_rfl) (by kernel_rfl) (by kernel_rfl) (by kernel_rfl) (by kernel_rfl) (by kernel_rfl) (by kernel_rfl) (by kernel_rfl) (.inr rfl) (fun _ => rfl) (fun _ => rfl) hg1 ?_
  refine LAt.moveU (T := lk tab) (ty := 27) (x := (.tmp 4)) (d := 2) (g := none) false [.sl true 1 ((([] : List Int) ++ x0).map intRow)] (by kernel_rfl) (by kernel_rfl) (by kernel_rfl) (by kernel_rfl) (by kernel_rfl) ?_
  refine LAt.doneU [2] [] (by kernel_rfl) ?_
  refine Tr.ret ?_
  have H := Option.some.inj H
  subst H
  exact Fin.of _ [(false, [.sl true 1 ((([] : List Int) ++ x0).map intRow)])] (by kernel_rfl) rfl rfl

def impl_Joined_J2 (n : Nat) (y9 : (List Int)) : Option ((List Int)) :=
  (some y9)
def impl_Joined_L3 (n : Nat) : Nat → (List Bool) → Int → (List Int) → Option (((List Int)) ⊕ ((List Int)))
  | 0, _, _, _ => none
  | mo10 + 1, y6, y7, y8 => (bif (decide (y7 < (y6.length : Int))) then ((idx y6 y7).bind fun v11 => (bif v11 then (bif (decide (y8.length + [y7].length ≤ 268435456)) then (impl_Joined_L3 n mo10 y6 (IntKind.wrap .i64 (y7 + 1)) (y8 ++ [y7])) else none) else (impl_Joined_L3 n mo10 y6 (IntKind.wrap .i64 (y7 + 1)) y8))) else (some (Sum.inl y8)))
def impl_Joined_J1 (n : Nat) (y6 : (List Bool)) : Option ((List Int)) :=
  ((impl_Joined_L3 n n y6 0 ([] : List Int)).bind fun o => match o with | .inl y9 => (impl_Joined_J2 n y9) | .inr r => some r)
def impl_Joined_J5 (n : Nat) (k : (Bool × (List Bool) → Option (((List Bool)) ⊕ ((List Int))))) (y17 : Int) (y18 : Bool) (y19 : (List Bool)) : Option (((List Bool)) ⊕ ((List Int))) :=
  (k (y18, y19))
def impl_Joined_J7 (n : Nat) (k : (Int × Bool × (List Bool) → Option ((Int × Bool × (List Bool)) ⊕ ((List Int))))) (v23 : Link) (y14 : Int) (y15 : Bool) (y16 : (List Bool)) (y24 : Bool) (y25 : Bool) (y26 : Bool) (y27 : Bool) (y28 : Bool) : Option ((Int × Bool × (List Bool)) ⊕ ((List Int))) :=
  (bif y24 then ((idx y16 v23.A).bind fun v29 => ((idx (y16.set (v23.A.toNat) true) v23.B).bind fun v30 => (k ((IntKind.wrap .i64 (y14 + 1)), true, ((y16.set (v23.A.toNat) true).set (v23.B.toNat) true))))) else (k ((IntKind.wrap .i64 (y14 + 1)), y15, y16)))
def impl_Joined_L6 (n : Nat) : Nat → Net → (List Int) → Int → Bool → (List Bool) → Option ((Int × Bool × (List Bool)) ⊕ ((List Int)))
  | 0, _, _, _, _, _ => none
  | mo20 + 1, x0, x2, y14, y15, y16 => (bif (decide (y14 < (x2.length : Int))) then ((idx x2 y14).bind fun v21 => ((impl_inF n v21 0 (IntKind.wrap .i64 ((x0.Links.length : Int) - 1))).bind fun r22 => (bif (!r22) then (impl_Joined_L6 n mo20 x0 x2 (IntKind.wrap .i64 (y14 + 1)) y15 y16) else ((idx x0.Links v21).bind fun v23 => ((impl_inF n v23.A 0 (IntKind.wrap .i64 ((y16.length : Int) - 1))).bind fun r31 => (bif r31 then ((impl_inF n v23.B 0 (IntKind.wrap .i64 ((y16.length : Int) - 1))).bind fun r32 => (bif r32 then ((idx y16 v23.A).bind fun v33 => ((idx y16 v23.B).bind fun v34 => (impl_Joined_J7 n (fun v => impl_Joined_L6 n mo20 x0 x2 v.1 v.2.1 v.2.2) v23 y14 y15 y16 (!(v33 == v34)) true true true true))) else (impl_Joined_J7 n (fun v => impl_Joined_L6 n mo20 x0 x2 v.1 v.2.1 v.2.2) v23 y14 y15 y16 false false false true true))) else (impl_Joined_J7 n (fun v => impl_Joined_L6 n mo20 x0 x2 v.1 v.2.1 v.2.2) v23 y14 y15 y16 false false false false false))))))) else (some (Sum.inl (y14, y15, y16))))
def impl_Joined_L4 (n : Nat) : Nat → Net → (List Int) → Bool → (List Bool) → Option (((List Bool)) ⊕ ((List Int)))
  | 0, _, _, _, _ => none
  | mo13 + 1, x0, x2, y4, y5 => (bif y4 then ((impl_Joined_L6 n n x0 x2 0 false y5).bind fun o => match o with | .inl (y17, y18, y19) => (impl_Joined_J5 n (fun v => impl_Joined_L4 n mo13 x0 x2 v.1 v.2) y17 y18 y19) | .inr r => some (Sum.inr r)) else (some (Sum.inl y5)))
def impl_JoinedF (n : Nat) (x0 : Net) (x1 : Int) (x2 : (List Int)) : Option ((List Int)) :=
  ((impl_inF n x1 0 (IntKind.wrap .i64 ((x0.Bridges.length : Int) - 1))).bind fun r1 => (bif (!r1) then (some ([] : List Int)) else (bif (decide (0 ≤ (x0.Bridges.length : Int)) && decide ((x0.Bridges.length : Int) ≤ 268435456)) then ((idx (List.replicate ((x0.Bridges.length : Int)).toNat false) x1).bind fun v3 => ((impl_Joined_L4 n n x0 x2 true ((List.replicate ((x0.Bridges.length : Int)).toNat false).set (x1.toNat) true)).bind fun o => match o with | .inl y6 => (impl_Joined_J1 n y6) | .inr r => some r)) else none)))
/-- loop.example/g00326/impl.Joined -/
theorem impl_Joined (n : Nat) (x0 : Net) (x1 : Int) (x2 : (List Int)) (r : (List Int)) (H : impl_JoinedF n x0 x1 x2 = some r) : LCall Try.prog 30 [.val true (CV.frzRow (Net.row x0)), .val false [.lit (.int .i64 x1)], .val false [.sl false 1 (CV.frzEs (x2.map intRow))]] [.val false [.sl true 1 (r.map intRow)]] [] := by
  refine LCall.of_body tOk Try.func30 rfl (c := (.seq (.region 0 (rg Try.f30 0) false) (.seq (.seq (.region 1 (rg Try.f30 1) false) (.cond (.tmp 21) (.seq (.region 2 (rg Try.f30 2) false) .ret) .skip)) (.seq (.region 3 (rg Try.f30 3) false) (.seq (.region 4 (rg Try.f30 4) false) (.seq (.seq (.region 5 (rg Try.f30 5) false) (.block 0 (.loop (.seq (.seq (.region 6 (rg Try.f30 6) false) (.cond (.tmp 29) .skip (.exit 0))) (.block 1 (.seq (.region 7 (rg Try.f30 7) false) (.seq (.region 8 (rg Try.f30 8) false) (.block 2 (.loop (.seq (.region 9 (rg Try.f30 9) false) (.seq (.cond (.tmp 33) .skip (.exit 2)) (.seq (.block 3 (.seq (.region 10 (rg Try.f30 10) false) (.seq (.seq (.region 11 (rg Try.f30 11) false) (.cond (.tmp 42) (.exit 3) .skip)) (.seq (.region 12 (rg Try.f30 12) false) (.seq (.region 13 (rg Try.f30 13) true) (.cond (.tmp 74) (.seq (.region 14 (rg Try.f30 14) true) (.region 15 (rg Try.f30 15) false)) .skip)))))) (.region 16 (rg Try.f30 16) false))))))))))))) (.seq (.region 17 (rg Try.f30 17) false) (.seq (.seq (.region 18 (rg Try.f30 18) false) (.block 4 (.loop (.seq (.region 19 (rg Try.f30 19) false) (.seq (.cond (.tmp 87) .skip (.exit 4)) (.seq (.block 5 (.seq (.region 20 (rg Try.f30 20) false) (.seq (.region 21 (rg Try.f30 21) false) (.cond (.tmp 91) (.region 22 (rg Try.f30 22) false) .skip)))) (.region 23 (rg Try.f30 23) false))))))) (.seq (.region 24 (rg Try.f30 24) false) .ret))))))))) (by kernel_rfl) (Nat.le_of_ble_eq_true (by kernel_rfl)) 0 (rs := [.tmp 6]) rfl [] .nil [(false, [.sl true 1 (r.map intRow)])] [] [] fun cx => ?_
  show Tr _ _ _ ⟨98, 0, [(0, .val true (CV.frzRow (Net.row x0))), (1, .val false [.lit (.int .i64 x1)]), (2, .val false [.sl false 1 (CV.frzEs (x2.map intRow))])], []⟩ _
  unfold impl_JoinedF at H
  refine Tr.rs ?_
  refine LAt.runU tOk 2 (by kernel_rfl) ?_
  refine LAt.doneU [6, 3, 1, 2] [3] (by kernel_rfl) ?_
  refine Tr.seq ?_
  refine Tr.rs ?_
  refine LAt.runU tOk 3 (by kernel_rfl) ?_
  refine LAt.lenE tOk (t := 30) (ty := 3) (e := 61) (x := (.tmp 17)) (d := 18) (g := none) ⟨(.slot 17), [], 0, false, 11, (CV.frzEs (x0.Bridges.map Bridge.row))⟩ (x0.Bridges).length _ (by kernel_rfl) (by kernel_rfl) (by kernel_rfl) (by kernel_rfl) (by kernel_rfl) (frz_len _ _) rfl ?_
  refine LAt.runU tOk 1 (by kernel_rfl) ?_
  obtain ⟨r1, er1, H⟩ := bind_some H
  refine LAt.callU tOk [.rd, .rd, .rd] (f := 70) (av := #[.tmp 15, .const (.int .i64 0), .tmp 19]) (ats := #[3, 3, 3]) (d := (some 20)) (ty := 4) (g := none) (by kernel_rfl) (by kernel_rfl) (by kernel_rfl) [] (impl_in n x1 0 (IntKind.wrap .i64 ((x0.Bridges.length : Int) - 1)) r1 er1) (by kernel_rfl) (.inl rfl) ?_
  refine LAt.runU tOk 1 (by kernel_rfl) ?_
  refine LAt.doneU [21, 6, 3, 1, 2] [3] (by kernel_rfl) ?_
  refine Tr.to ⟨98, 0, [(21, .val false [.lit (.bool (!r1))]), (6, .val false [.sl true 1 (([] : List Int).map intRow)]), (3, .adr (.box 3) [(0, 0)] 3 0), (1, .val false [.lit (.int .i64 x1)]), (2, .val false [.sl false 1 (CV.frzEs (x2.map intRow))])], [(3, (CV.frzRow (Net.row x0)))]⟩ (by kernel_rfl) ?_
  cases h1 : (!r1)
  · have H := bifF h1 H
    refine Tr.cond (b := false) (by kernel_rfl) (fun h => nomatch h) (fun _ => ?_)
    refine Tr.skip ?_
    show Tr _ _ _ _ _
    refine Tr.rs ?_
    refine LAt.runU tOk 2 (by kernel_rfl) ?_
    refine LAt.lenE tOk (t := 30) (ty := 3) (e := 61) (x := (.tmp 23)) (d := 24) (g := none) ⟨(.slot 23), [], 0, false, 11, (CV.frzEs (x0.Bridges.map Bridge.row))⟩ (x0.Bridges).length _ (by kernel_rfl) (by kernel_rfl) (by kernel_rfl) (by kernel_rfl) (by kernel_rfl) (frz_len _ _) rfl ?_
    obtain ⟨hg2, H⟩ := guard_some H
    refine LAt.makeG tOk (t := 111) (ty := 111) (e := 4) (x := (.tmp 24)) (d := 25) (g := none) ⟨.bool, 1, 1, [.lit (.bool false)]⟩ (x0.Bridges.length : Int) ((List.replicate ((x0.Bridges.length : Int)).toNat false).map boolRow) _ (by kernel_rfl) (by kernel_rfl) (by kernel_rfl) (by kernel_rfl) (by kernel_rfl) (by kernel_rfl) hg2 (by kernel_rfl) (rep_map _ rfl) rfl ?_
    refine LAt.moveU (T := lk tab) (ty := 111) (x := (.tmp 25)) (d := 7) (g := none) false [.sl true 1 ((List.replicate ((x0.Bridges.length : Int)).toNat false).map boolRow)] (by kernel_rfl) (by kernel_rfl) (by kernel_rfl) (by kernel_rfl) (by kernel_rfl) ?_
    refine LAt.doneU [7, 6, 3, 1, 2] [3] (by kernel_rfl) ?_
    refine Tr.rs ?_
    refine LAt.runU tOk 2 (by kernel_rfl) ?_
    obtain ⟨v3, ev3, H⟩ := bind_some H
    refine LAt.indexO tOk (t := 111) (ty := 0) (x := (.tmp 26)) (y := (.tmp 27)) (d := 28) (g := none) ⟨(.slot 7), [], 0, true, 1, ((List.replicate ((x0.Bridges.length : Int)).toNat false).map boolRow)⟩ x1 (x1.toNat) (boolRow v3) _ (by kernel_rfl) (by kernel_rfl) (by kernel_rfl) (by kernel_rfl) rfl (by kernel_rfl) (idx_isE ev3) rfl rfl ?_
    refine LAt.storeK tOk (t := 4) (ty := 0) (ad := (.tmp 28)) (x := (.const (.bool true))) (g := none) ⟨.bool, 1, 1, [.lit (.bool false)]⟩ false [.lit (.bool true)] (.slot 7) [(0, (x1.toNat))] [(0, (x1.toNat))] 1 0 [.sl true 1 ((List.replicate ((x0.Bridges.length : Int)).toNat false).map boolRow)] (boolRow v3) [.sl true 1 ((List.replicate ((x0.Bridges.length : Int)).toNat false).map boolRow)] [.sl true 1 (((List.replicate ((x0.Bridges.length : Int)).toNat false).set (x1.toNat) true).map boolRow)] (by kernel_rfl) (by kernel_rfl) (by kernel_rfl) (by kernel_rfl) (by kernel_rfl) (by kernel_rfl) (getQ_elem rfl (idx_get ev3).2) rfl (by intro h; cases h) (by kernel_rfl) (by kernel_rfl) (by kernel_rfl) (modQ_elem (new := true) rfl (idx_get ev3).2 rfl) (by kernel_rfl) ?_
    refine LAt.doneU [7, 6, 3, 2] [3] (by kernel_rfl) ?_
    refine Tr.seq ?_
    refine Tr.rs ?_
    refine LAt.runU tOk 1 (by kernel_rfl) ?_
    refine LAt.doneU [8, 7, 6, 3, 2] [3] (by kernel_rfl) ?_
    obtain ⟨o13, eo13, Ho13⟩ := bind_some H
    clear H
    refine Tr.mid (ι := (List Bool)) (fun v => ⟨98, 0, [(7, .val false [.sl true 1 (v.map boolRow)]), (6, .val false [.sl true 1 (([] : List Int).map intRow)])], []⟩) (fun v => impl_Joined_J1 n v = some r) ?_ ?_
    · refine Tr.block ?_
      refine Tr.loop (ι := Nat × (Bool × (List Bool))) (fun v => ⟨98, 0, [(8, .val false [.lit (.bool v.2.1)]), (7, .val false [.sl true 1 (v.2.2.map boolRow)]), (6, .val false [.sl true 1 (([] : List Int).map intRow)]), (3, .adr (.box 3) [(0, 0)] 3 0), (2, .val false [.sl false 1 (CV.frzEs (x2.map intRow))])], [(3, (CV.frzRow (Net.row x0)))]⟩) (fun v => impl_Joined_L4 n v.1 x0 x2 v.2.1 v.2.2 = some o13) (fun v => v.1) (n, (true, ((List.replicate ((x0.Bridges.length : Int)).toNat false).set (x1.toNat) true))) eo13 (St.sub_of [8, 7, 6, 3, 2] [3] (by kernel_rfl)) ?_
      rintro ⟨mo13, y4, y5⟩ H
      have H : impl_Joined_L4 n mo13 x0 x2 y4 y5 = some o13 := H
      obtain _ | mo13 := mo13
      · cases (show (none : Option _) = some o13 from H)
      · rw [impl_Joined_L4] at H
        refine Tr.seq ?_
        refine Tr.rs ?_
        refine LAt.runU tOk 1 (by kernel_rfl) ?_
        refine LAt.doneU [29, 8, 7, 6, 3, 2] [3] (by kernel_rfl) ?_
        refine Tr.to ⟨98, 0, [(29, .val false [.lit (.bool y4)]), (8, .val false [.lit (.bool y4)]), (7, .val false [.sl true 1 (y5.map boolRow)]), (6, .val false [.sl true 1 (([] : List Int).map intRow)]), (3, .adr (.box 3) [(0, 0)] 3 0), (2, .val false [.sl false 1 (CV.frzEs (x2.map intRow))])], [(3, (CV.frzRow (Net.row x0)))]⟩ (by kernel_rfl) ?_
        cases h4 : y4
        · have H := bifF h4 H
          refine Tr.cond (b := false) (by kernel_rfl) (fun h => nomatch h) (fun _ => ?_)
          refine Tr.exit ?_
          refine And.intro (fun _ => ?_) (fun h => absurd rfl h)
          have H := Option.some.inj H
          subst H
          have H := Ho13
          dsimp only at H
          exact Exists.intro y5 (And.intro H (St.sub_of [7, 6] [] (by kernel_rfl)))
        · have H := bifT h4 H
          refine Tr.cond (b := true) (by kernel_rfl) (fun _ => ?_) (fun h => nomatch h)
          refine Tr.skip ?_
          show Tr _ _ _ _ _
          refine Tr.block ?_
          refine Tr.rs ?_
          refine LAt.runU tOk 1 (by kernel_rfl) ?_
          refine LAt.doneU [8, 29, 7, 6, 3, 2] [3] (by kernel_rfl) ?_
          refine Tr.rs ?_
          refine LAt.runU tOk 1 (by kernel_rfl) ?_
          refine LAt.lenE tOk (t := 27) (ty := 3) (e := 3) (x := (.tmp 30)) (d := 31) (g := none) ⟨(.slot 30), [], 0, false, 1, (CV.frzEs (x2.map intRow))⟩ (x2).length _ (by kernel_rfl) (by kernel_rfl) (by kernel_rfl) (by kernel_rfl) (by kernel_rfl) (frz_len _ _) rfl ?_
          refine LAt.runU tOk 1 (by kernel_rfl) ?_
          refine LAt.doneU [32, 31, 30, 8, 29, 7, 6, 3, 2] [3] (by kernel_rfl) ?_
          obtain ⟨o20, eo20, Ho20⟩ := bind_some H
          clear H
          refine Tr.mid (ι := Int × Bool × (List Bool)) (fun v => ⟨98, 0, [(33, .val false [.lit (.bool false)]), (32, .val false [.lit (.int .i64 v.1)]), (31, .val false [.lit (.int .i64 (x2.length : Int))]), (30, .val false [.sl false 1 (CV.frzEs (x2.map intRow))]), (8, .val false [.lit (.bool v.2.1)]), (29, .val false [.lit (.bool true)]), (7, .val false [.sl true 1 (v.2.2.map boolRow)]), (6, .val false [.sl true 1 (([] : List Int).map intRow)]), (3, .adr (.box 3) [(0, 0)] 3 0), (2, .val false [.sl false 1 (CV.frzEs (x2.map intRow))])], [(3, (CV.frzRow (Net.row x0)))]⟩) (fun v => impl_Joined_J5 n (fun v => impl_Joined_L4 n mo13 x0 x2 v.1 v.2) v.1 v.2.1 v.2.2 = some o13) ?_ ?_
          · refine Tr.block ?_
            refine Tr.loop (ι := Nat × (Int × Bool × (List Bool))) (fun v => ⟨98, 0, [(32, .val false [.lit (.int .i64 v.2.1)]), (31, .val false [.lit (.int .i64 (x2.length : Int))]), (30, .val false [.sl false 1 (CV.frzEs (x2.map intRow))]), (8, .val false [.lit (.bool v.2.2.1)]), (29, .val false [.lit (.bool true)]), (7, .val false [.sl true 1 (v.2.2.2.map boolRow)]), (6, .val false [.sl true 1 (([] : List Int).map intRow)]), (3, .adr (.box 3) [(0, 0)] 3 0), (2, .val false [.sl false 1 (CV.frzEs (x2.map intRow))])], [(3, (CV.frzRow (Net.row x0)))]⟩) (fun v => impl_Joined_L6 n v.1 x0 x2 v.2.1 v.2.2.1 v.2.2.2 = some o20) (fun v => v.1) (n, (0, false, y5)) eo20 (St.sub_of [32, 31, 30, 8, 29, 7, 6, 3, 2] [3] (by kernel_rfl)) ?_
            rintro ⟨mo20, y14, y15, y16⟩ H
            have H : impl_Joined_L6 n mo20 x0 x2 y14 y15 y16 = some o20 := H
            obtain _ | mo20 := mo20
            · cases (show (none : Option _) = some o20 from H)
            · rw [impl_Joined_L6] at H
              refine Tr.rs ?_
              refine LAt.runU tOk 1 (by kernel_rfl) ?_
              refine LAt.doneU [33, 32, 31, 30, 8, 29, 7, 6, 3, 2] [3] (by kernel_rfl) ?_
              refine Tr.seq ?_
              refine Tr.to ⟨98, 0, [(33, .val false [.lit (.bool (decide (y14 < (x2.length : Int))))]), (32, .val false [.lit (.int .i64 y14)]), (31, .val false [.lit (.int .i64 (x2.length : Int))]), (30, .val false [.sl false 1 (CV.frzEs (x2.map intRow))]), (8, .val false [.lit (.bool y15)]), (29, .val false [.lit (.bool true)]), (7, .val false [.sl true 1 (y16.map boolRow)]), (6, .val false [.sl true 1 (([] : List Int).map intRow)]), (3, .adr (.box 3) [(0, 0)] 3 0), (2, .val false [.sl false 1 (CV.frzEs (x2.map intRow))])], [(3, (CV.frzRow (Net.row x0)))]⟩ (by kernel_rfl) ?_
              cases h5 : (decide (y14 < (x2.length : Int)))
              · have H := bifF h5 H
                refine Tr.cond (b := false) (by kernel_rfl) (fun h => nomatch h) (fun _ => ?_)
                refine Tr.exit ?_
                refine And.intro (fun _ => ?_) (fun h => absurd rfl h)
                have H := Option.some.inj H
                subst H
                have H := Ho20
                dsimp only at H
                exact Exists.intro (y14, y15, y16) (And.intro H (St.sub_of [33, 32, 31, 30, 8, 29, 7, 6, 3, 2] [3] (by kernel_rfl)))
              · have H := bifT h5 H
                refine Tr.cond (b := true) (by kernel_rfl) (fun _ => ?_) (fun h => nomatch h)
                refine Tr.skip ?_
                show Tr _ _ _ _ _
                refine Tr.seq ?_
                refine Tr.block ?_
                refine Tr.rs ?_
                obtain ⟨v21, ev21, H⟩ := bind_some H
                refine LAt.indexF tOk (t := 27) (ty := 0) (x := (.tmp 30)) (y := (.tmp 32)) (d := 34) (g := none) ⟨(.slot 30), [], 0, false, 1, (CV.frzEs (x2.map intRow))⟩ y14 [.lit (.int .i64 v21)] _ (by kernel_rfl) (by kernel_rfl) (by kernel_rfl) (by kernel_rfl) rfl (idx_isF ev21) rfl ?_
                refine LAt.runU tOk 2 (by kernel_rfl) ?_
                refine LAt.doneU [10, 35, 34, 33, 32, 31, 30, 8, 29, 7, 6, 3, 2] [3] (by kernel_rfl) ?_
                refine Tr.seq ?_
                refine Tr.rs ?_
                refine LAt.runU tOk 3 (by kernel_rfl) ?_
                refine LAt.lenE tOk (t := 31) (ty := 3) (e := 96) (x := (.tmp 38)) (d := 39) (g := none) ⟨(.slot 38), [], 0, false, 4, (CV.frzEs (x0.Links.map Link.row))⟩ (x0.Links).length _ (by kernel_rfl) (by kernel_rfl) (by kernel_rfl) (by kernel_rfl) (by kernel_rfl) (frz_len _ _) rfl ?_
                refine LAt.runU tOk 1 (by kernel_rfl) ?_
                obtain ⟨r22, er22, H⟩ := bind_some H
                refine LAt.callU tOk [.rd, .rd, .rd] (f := 70) (av := #[.tmp 36, .const (.int .i64 0), .tmp 40]) (ats := #[3, 3, 3]) (d := (some 41)) (ty := 4) (g := none) (by kernel_rfl) (by kernel_rfl) (by kernel_rfl) [] (impl_in n v21 0 (IntKind.wrap .i64 ((x0.Links.length : Int) - 1)) r22 er22) (by kernel_rfl) (.inl rfl) ?_
                refine LAt.runU tOk 1 (by kernel_rfl) ?_
                refine LAt.doneU [42, 41, 40, 39, 38, 37, 36, 10, 35, 34, 33, 32, 31, 30, 8, 29, 7, 6, 3, 2] [3] (by kernel_rfl) ?_
                refine Tr.to ⟨98, 0, [(42, .val false [.lit (.bool (!r22))]), (41, .val false [.lit (.bool r22)]), (40, .val false [.lit (.int .i64 (IntKind.wrap .i64 ((x0.Links.length : Int) - 1)))]), (39, .val false [.lit (.int .i64 (x0.Links.length : Int))]), (38, .val false [.sl false 4 (CV.frzEs (x0.Links.map Link.row))]), (37, .adr (.box 3) [(0, 0)] 3 1), (36, .val false [.lit (.int .i64 v21)]), (10, .val false [.lit (.int .i64 v21)]), (35, .val false [.lit (.int .i64 v21)]), (34, .fad ([.lit (.int .i64 v21)])), (33, .val false [.lit (.bool true)]), (32, .val false [.lit (.int .i64 y14)]), (31, .val false [.lit (.int .i64 (x2.length : Int))]), (30, .val false [.sl false 1 (CV.frzEs (x2.map intRow))]), (8, .val false [.lit (.bool y15)]), (29, .val false [.lit (.bool true)]), (7, .val false [.sl true 1 (y16.map boolRow)]), (6, .val false [.sl true 1 (([] : List Int).map intRow)]), (3, .adr (.box 3) [(0, 0)] 3 0), (2, .val false [.sl false 1 (CV.frzEs (x2.map intRow))])], [(3, (CV.frzRow (Net.row x0)))]⟩ (by kernel_rfl) ?_
                cases h6 : (!r22)
                · have H := bifF h6 H
                  refine Tr.cond (b := false) (by kernel_rfl) (fun h => nomatch h) (fun _ => ?_)
                  refine Tr.skip ?_
                  show Tr _ _ _ _ _
                  refine Tr.rs ?_
                  refine LAt.runU tOk 3 (by kernel_rfl) ?_
                  obtain ⟨v23, ev23, H⟩ := bind_some H
                  refine LAt.indexF tOk (t := 31) (ty := 0) (x := (.tmp 44)) (y := (.tmp 45)) (d := 46) (g := none) ⟨(.slot 44), [], 0, false, 4, (CV.frzEs (x0.Links.map Link.row))⟩ v21 (Link.row v23) _ (by kernel_rfl) (by kernel_rfl) (by kernel_rfl) (by kernel_rfl) rfl (idx_isF ev23) rfl ?_
                  refine LAt.runU tOk 3 (by kernel_rfl) ?_
                  refine LAt.doneU [11, 47, 46, 45, 44, 43, 42, 41, 40, 39, 38, 37, 36, 10, 35, 34, 33, 32, 31, 30, 8, 29, 7, 6, 3, 2] [11, 3] (by kernel_rfl) ?_
                  refine Tr.seq ?_
                  refine Tr.mid (ι := Bool × Bool × Bool × Bool × Bool) (fun v => ⟨98, 0, [(74, .val false [.lit (.bool v.1)]), (62, .val false [.lit (.bool v.2.1)]), (61, .val false [.lit (.bool v.2.2.1)]), (54, .val false [.lit (.bool v.2.2.2.1)]), (53, .val false [.lit (.bool v.2.2.2.2)]), (52, .val false [.lit (.int .i64 (IntKind.wrap .i64 ((y16.length : Int) - 1)))]), (51, .val false [.lit (.int .i64 (y16.length : Int))]), (50, .ref (.slot 7) [] 0 0 1 false), (49, .val false [.lit (.int .i64 v23.A)]), (48, .adr (.box 11) [(0, 0)] 4 0), (11, .adr (.box 11) [(0, 0)] 4 0), (47, .val true (Link.row v23)), (46, .fad ((Link.row v23))), (45, .val false [.lit (.int .i64 v21)]), (44, .val false [.sl false 4 (CV.frzEs (x0.Links.map Link.row))]), (43, .adr (.box 3) [(0, 0)] 3 1), (42, .val false [.lit (.bool false)]), (41, .val false [.lit (.bool r22)]), (40, .val false [.lit (.int .i64 (IntKind.wrap .i64 ((x0.Links.length : Int) - 1)))]), (39, .val false [.lit (.int .i64 (x0.Links.length : Int))]), (38, .val false [.sl false 4 (CV.frzEs (x0.Links.map Link.row))]), (37, .adr (.box 3) [(0, 0)] 3 1), (36, .val false [.lit (.int .i64 v21)]), (10, .val false [.lit (.int .i64 v21)]), (35, .val false [.lit (.int .i64 v21)]), (34, .fad ([.lit (.int .i64 v21)])), (33, .val false [.lit (.bool true)]), (32, .val false [.lit (.int .i64 y14)]), (31, .val false [.lit (.int .i64 (x2.length : Int))]), (30, .val false [.sl false 1 (CV.frzEs (x2.map intRow))]), (8, .val false [.lit (.bool y15)]), (29, .val false [.lit (.bool true)]), (7, .val false [.sl true 1 (y16.map boolRow)]), (6, .val false [.sl true 1 (([] : List Int).map intRow)]), (3, .adr (.box 3) [(0, 0)] 3 0), (2, .val false [.sl false 1 (CV.frzEs (x2.map intRow))])], [(11, (Link.row v23)), (3, (CV.frzRow (Net.row x0)))]⟩) (fun v => impl_Joined_J7 n (fun v => impl_Joined_L6 n mo20 x0 x2 v.1 v.2.1 v.2.2) v23 y14 y15 y16 v.1 v.2.1 v.2.2.1 v.2.2.2.1 v.2.2.2.2 = some o20) ?_ ?_
                  · obtain ⟨r31, er31, H⟩ := bind_some H
                    refine Tr.to ⟨98, 0, [(11, .adr (.box 11) [(0, 0)] 4 0), (47, .val true (Link.row v23)), (46, .fad ((Link.row v23))), (45, .val false [.lit (.int .i64 v21)]), (44, .val false [.sl false 4 (CV.frzEs (x0.Links.map Link.row))]), (43, .adr (.box 3) [(0, 0)] 3 1), (42, .val false [.lit (.bool false)]), (41, .val false [.lit (.bool r22)]), (40, .val false [.lit (.int .i64 (IntKind.wrap .i64 ((x0.Links.length : Int) - 1)))]), (39, .val false [.lit (.int .i64 (x0.Links.length : Int))]), (38, .val false [.sl false 4 (CV.frzEs (x0.Links.map Link.row))]), (37, .adr (.box 3) [(0, 0)] 3 1), (36, .val false [.lit (.int .i64 v21)]), (10, .val false [.lit (.int .i64 v21)]), (35, .val false [.lit (.int .i64 v21)]), (34, .fad ([.lit (.int .i64 v21)])), (33, .val false [.lit (.bool true)]), (32, .val false [.lit (.int .i64 y14)]), (31, .val false [.lit (.int .i64 (x2.length : Int))]), (30, .val false [.sl false 1 (CV.frzEs (x2.map intRow))]), (8, .val false [.lit (.bool y15)]), (29, .val false [.lit (.bool true)]), (7, .val false [.sl true 1 (y16.map boolRow)]), (6, .val false [.sl true 1 (([] : List Int).map intRow)]), (3, .adr (.box 3) [(0, 0)] 3 0), (2, .val false [.sl false 1 (CV.frzEs (x2.map intRow))])], [(11, (Link.row v23)), (3, (CV.frzRow (Net.row x0)))]⟩ (by kernel_rfl) ?_
                    cases h8 : r31
                    · have H := bifF h8 H
                      refine Tr.draw mixed 27 (by kernel_rfl) ⟨98, 0, [(74, .val false [.lit (.bool false)]), (73, .tup []), (72, .tup []), (71, .tup []), (70, .tup []), (69, .tup []), (68, .tup []), (67, .tup []), (66, .tup []), (65, .tup []), (64, .tup []), (63, .tup []), (62, .val false [.lit (.bool false)]), (61, .val false [.lit (.bool false)]), (60, .tup []), (59, .tup []), (58, .tup []), (57, .tup []), (56, .tup []), (55, .tup []), (54, .val false [.lit (.bool false)]), (53, .val false [.lit (.bool false)]), (52, .val false [.lit (.int .i64 (IntKind.wrap .i64 ((y16.length : Int) - 1)))]), (51, .val false [.lit (.int .i64 (y16.length : Int))]), (50, .ref (.slot 7) [] 0 0 1 false), (49, .val false [.lit (.int .i64 v23.A)]), (48, .adr (.box 11) [(0, 0)] 4 0), (11, .adr (.box 11) [(0, 0)] 4 0), (47, .val true (Link.row v23)), (46, .fad ((Link.row v23))), (45, .val false [.lit (.int .i64 v21)]), (44, .val false [.sl false 4 (CV.frzEs (x0.Links.map Link.row))]), (43, .adr (.box 3) [(0, 0)] 3 1), (42, .val false [.lit (.bool false)]), (41, .val false [.lit (.bool r22)]), (40, .val false [.lit (.int .i64 (IntKind.wrap .i64 ((x0.Links.length : Int) - 1)))]), (39, .val false [.lit (.int .i64 (x0.Links.length : Int))]), (38, .val false [.sl false 4 (CV.frzEs (x0.Links.map Link.row))]), (37, .adr (.box 3) [(0, 0)] 3 1), (36, .val false [.lit (.int .i64 v21)]), (10, .val false [.lit (.int .i64 v21)]), (35, .val false [.lit (.int .i64 v21)]), (34, .fad ([.lit (.int .i64 v21)])), (33, .val false [.lit (.bool true)]), (32, .val false [.lit (.int .i64 y14)]), (31, .val false [.lit (.int .i64 (x2.length : Int))]), (30, .val false [.sl false 1 (CV.frzEs (x2.map intRow))]), (8, .val false [.lit (.bool y15)]), (29, .val false [.lit (.bool true)]), (7, .val false [.sl true 1 (y16.map boolRow)]), (6, .val false [.sl true 1 (([] : List Int).map intRow)]), (3, .adr (.box 3) [(0, 0)] 3 0), (2, .val false [.sl false 1 (CV.frzEs (x2.map intRow))])], [(11, (Link.row v23)), (3, (CV.frzRow (Net.row x0)))]⟩ (fun cx => ?_) ?_
                      · refine AT.runU tOk [(0, []), (1, [5]), (2, [])] 24 [⟨[5], 3, 48, 49⟩] [2, 1, 0] rfl (by kernel_rfl) (fun cx => ?_)
                        refine AT.lenE tOk 3 (t := 111) (ty := 3) (e := 4) (x := (.tmp 50)) (d := 51) (g := none) ⟨(.slot 7), [], 0, true, 1, (y16.map boolRow)⟩ (y16).length _ (by kernel_rfl) (by kernel_rfl) (by kernel_rfl) (by kernel_rfl) (by kernel_rfl) (by kernel_rfl) (by kernel_rfl) (map_len _ _) rfl (fun cx => ?_)
                        refine AT.runU tOk [(4, [])] 22 [⟨[5], 3, 48, 49⟩] [4, 3, 2, 1, 0] rfl (by kernel_rfl) (fun cx => ?_)
                        refine AT.big1 tOk 5 (by kernel_rfl) (by kernel_rfl) ?_
                        refine LAt.callU tOk [.rd, .rd, .rd] (f := 70) (av := #[.tmp 49, .const (.int .i64 0), .tmp 52]) (ats := #[3, 3, 3]) (d := (some 53)) (ty := 4) (g := none) (by kernel_rfl) (by kernel_rfl) (by kernel_rfl) [] (impl_in n v23.A 0 (IntKind.wrap .i64 ((y16.length : Int) - 1)) r31 er31) (by kernel_rfl) (.inl rfl) ?_
                        refine LAt.fin (by kernel_rfl) (And.intro (And.intro (by kernel_rfl) (by kernel_rfl)) ?_)
                        refine AT.runU tOk [(6, [])] 20 [⟨[5], 3, 48, 49⟩] [6, 5, 4, 3, 2, 1, 0] rfl (by kernel_rfl) (fun cx => ?_)
                        refine AT.to ⟨98, 0, [(54, .val false [.lit (.bool r31)]), (53, .val false [.lit (.bool r31)]), (52, .val false [.lit (.int .i64 (IntKind.wrap .i64 ((y16.length : Int) - 1)))]), (51, .val false [.lit (.int .i64 (y16.length : Int))]), (50, .ref (.slot 7) [] 0 0 1 false), (49, .val false [.lit (.int .i64 v23.A)]), (48, .adr (.box 11) [(0, 0)] 4 0), (11, .adr (.box 11) [(0, 0)] 4 0), (47, .val true (Link.row v23)), (46, .fad ((Link.row v23))), (45, .val false [.lit (.int .i64 v21)]), (44, .val false [.sl false 4 (CV.frzEs (x0.Links.map Link.row))]), (43, .adr (.box 3) [(0, 0)] 3 1), (42, .val false [.lit (.bool false)]), (41, .val false [.lit (.bool r22)]), (40, .val false [.lit (.int .i64 (IntKind.wrap .i64 ((x0.Links.length : Int) - 1)))]), (39, .val false [.lit (.int .i64 (x0.Links.length : Int))]), (38, .val false [.sl false 4 (CV.frzEs (x0.Links.map Link.row))]), (37, .adr (.box 3) [(0, 0)] 3 1), (36, .val false [.lit (.int .i64 v21)]), (10, .val false [.lit (.int .i64 v21)]), (35, .val false [.lit (.int .i64 v21)]), (34, .fad ([.lit (.int .i64 v21)])), (33, .val false [.lit (.bool true)]), (32, .val false [.lit (.int .i64 y14)]), (31, .val false [.lit (.int .i64 (x2.length : Int))]), (30, .val false [.sl false 1 (CV.frzEs (x2.map intRow))]), (8, .val false [.lit (.bool y15)]), (29, .val false [.lit (.bool true)]), (7, .val false [.sl true 1 (y16.map boolRow)]), (6, .val false [.sl true 1 (([] : List Int).map intRow)]), (3, .adr (.box 3) [(0, 0)] 3 0), (2, .val false [.sl false 1 (CV.frzEs (x2.map intRow))])], [(11, (Link.row v23)), (3, (CV.frzRow (Net.row x0)))]⟩ (by kernel_rfl) ?_
                        rw [h8]
                        refine AT.runU tOk [(7, []), (8, []), (9, []), (10, []), (11, []), (12, []), (13, []), (14, []), (15, []), (16, []), (17, []), (18, []), (19, []), (20, []), (21, []), (22, []), (23, []), (24, []), (25, []), (26, [])] 0 [⟨[5], 3, 48, 49⟩] [26, 25, 24, 23, 22, 21, 20, 19, 18, 17, 16, 15, 14, 13, 12, 11, 10, 9, 8, 7, 6, 5, 4, 3, 2, 1, 0] rfl (by kernel_rfl) (fun cx => ?_)
                        exact AT.done [74, 73, 72, 71, 70, 69, 68, 67, 66, 65, 64, 63, 62, 61, 60, 59, 58, 57, 56, 55, 54, 53, 52, 51, 50, 49, 48, 11, 47, 46, 45, 44, 43, 42, 41, 40, 39, 38, 37, 36, 10, 35, 34, 33, 32, 31, 30, 8, 29, 7, 6, 3, 2] [11, 3] _ (by kernel_rfl) (by kernel_rfl) rfl
                      · exact Exists.intro (false, false, false, false, false) (And.intro H (St.sub_of [74, 62, 61, 54, 53, 52, 51, 50, 49, 48, 11, 47, 46, 45, 44, 43, 42, 41, 40, 39, 38, 37, 36, 10, 35, 34, 33, 32, 31, 30, 8, 29, 7, 6, 3, 2] [11, 3] (by kernel_rfl)))
                    · have H := bifT h8 H
                      obtain ⟨r32, er32, H⟩ := bind_some H
                      refine Tr.to ⟨98, 0, [(11, .adr (.box 11) [(0, 0)] 4 0), (47, .val true (Link.row v23)), (46, .fad ((Link.row v23))), (45, .val false [.lit (.int .i64 v21)]), (44, .val false [.sl false 4 (CV.frzEs (x0.Links.map Link.row))]), (43, .adr (.box 3) [(0, 0)] 3 1), (42, .val false [.lit (.bool false)]), (41, .val false [.lit (.bool r22)]), (40, .val false [.lit (.int .i64 (IntKind.wrap .i64 ((x0.Links.length : Int) - 1)))]), (39, .val false [.lit (.int .i64 (x0.Links.length : Int))]), (38, .val false [.sl false 4 (CV.frzEs (x0.Links.map Link.row))]), (37, .adr (.box 3) [(0, 0)] 3 1), (36, .val false [.lit (.int .i64 v21)]), (10, .val false [.lit (.int .i64 v21)]), (35, .val false [.lit (.int .i64 v21)]), (34, .fad ([.lit (.int .i64 v21)])), (33, .val false [.lit (.bool true)]), (32, .val false [.lit (.int .i64 y14)]), (31, .val false [.lit (.int .i64 (x2.length : Int))]), (30, .val false [.sl false 1 (CV.frzEs (x2.map intRow))]), (8, .val false [.lit (.bool y15)]), (29, .val false [.lit (.bool true)]), (7, .val false [.sl true 1 (y16.map boolRow)]), (6, .val false [.sl true 1 (([] : List Int).map intRow)]), (3, .adr (.box 3) [(0, 0)] 3 0), (2, .val false [.sl false 1 (CV.frzEs (x2.map intRow))])], [(11, (Link.row v23)), (3, (CV.frzRow (Net.row x0)))]⟩ (by kernel_rfl) ?_
                      cases h9 : r32
                      · have H := bifF h9 H
                        refine Tr.draw mixed 27 (by kernel_rfl) ⟨98, 0, [(74, .val false [.lit (.bool false)]), (73, .tup []), (72, .tup []), (71, .tup []), (70, .tup []), (69, .tup []), (68, .tup []), (67, .tup []), (66, .tup []), (65, .tup []), (64, .tup []), (63, .tup []), (62, .val false [.lit (.bool false)]), (61, .val false [.lit (.bool false)]), (60, .val false [.lit (.bool false)]), (59, .val false [.lit (.int .i64 (IntKind.wrap .i64 ((y16.length : Int) - 1)))]), (58, .val false [.lit (.int .i64 (y16.length : Int))]), (57, .ref (.slot 7) [] 0 0 1 false), (56, .val false [.lit (.int .i64 v23.B)]), (55, .adr (.box 11) [(0, 0)] 4 2), (54, .val false [.lit (.bool true)]), (53, .val false [.lit (.bool true)]), (52, .val false [.lit (.int .i64 (IntKind.wrap .i64 ((y16.length : Int) - 1)))]), (51, .val false [.lit (.int .i64 (y16.length : Int))]), (50, .ref (.slot 7) [] 0 0 1 false), (49, .val false [.lit (.int .i64 v23.A)]), (48, .adr (.box 11) [(0, 0)] 4 0), (11, .adr (.box 11) [(0, 0)] 4 0), (47, .val true (Link.row v23)), (46, .fad ((Link.row v23))), (45, .val false [.lit (.int .i64 v21)]), (44, .val false [.sl false 4 (CV.frzEs (x0.Links.map Link.row))]), (43, .adr (.box 3) [(0, 0)] 3 1), (42, .val false [.lit (.bool false)]), (41, .val false [.lit (.bool r22)]), (40, .val false [.lit (.int .i64 (IntKind.wrap .i64 ((x0.Links.length : Int) - 1)))]), (39, .val false [.lit (.int .i64 (x0.Links.length : Int))]), (38, .val false [.sl false 4 (CV.frzEs (x0.Links.map Link.row))]), (37, .adr (.box 3) [(0, 0)] 3 1), (36, .val false [.lit (.int .i64 v21)]), (10, .val false [.lit (.int .i64 v21)]), (35, .val false [.lit (.int .i64 v21)]), (34, .fad ([.lit (.int .i64 v21)])), (33, .val false [.lit (.bool true)]), (32, .val false [.lit (.int .i64 y14)]), (31, .val false [.lit (.int .i64 (x2.length : Int))]), (30, .val false [.sl false 1 (CV.frzEs (x2.map intRow))]), (8, .val false [.lit (.bool y15)]), (29, .val false [.lit (.bool true)]), (7, .val false [.sl true 1 (y16.map boolRow)]), (6, .val false [.sl true 1 (([] : List Int).map intRow)]), (3, .adr (.box 3) [(0, 0)] 3 0), (2, .val false [.sl false 1 (CV.frzEs (x2.map intRow))])], [(11, (Link.row v23)), (3, (CV.frzRow (Net.row x0)))]⟩ (fun cx => ?_) ?_
                        · refine AT.runU tOk [(0, []), (1, [5, 12]), (2, [])] 24 [⟨[5, 12], 3, 48, 49⟩] [2, 1, 0] rfl (by kernel_rfl) (fun cx => ?_)
                          refine AT.lenE tOk 3 (t := 111) (ty := 3) (e := 4) (x := (.tmp 50)) (d := 51) (g := none) ⟨(.slot 7), [], 0, true, 1, (y16.map boolRow)⟩ (y16).length _ (by kernel_rfl) (by kernel_rfl) (by kernel_rfl) (by kernel_rfl) (by kernel_rfl) (by kernel_rfl) (by kernel_rfl) (map_len _ _) rfl (fun cx => ?_)
                          refine AT.runU tOk [(4, [])] 22 [⟨[5, 12], 3, 48, 49⟩] [4, 3, 2, 1, 0] rfl (by kernel_rfl) (fun cx => ?_)
                          refine AT.big1 tOk 5 (by kernel_rfl) (by kernel_rfl) ?_
                          refine LAt.callU tOk [.rd, .rd, .rd] (f := 70) (av := #[.tmp 49, .const (.int .i64 0), .tmp 52]) (ats := #[3, 3, 3]) (d := (some 53)) (ty := 4) (g := none) (by kernel_rfl) (by kernel_rfl) (by kernel_rfl) [] (impl_in n v23.A 0 (IntKind.wrap .i64 ((y16.length : Int) - 1)) r31 er31) (by kernel_rfl) (.inl rfl) ?_
                          refine LAt.fin (by kernel_rfl) (And.intro (And.intro (by kernel_rfl) (by kernel_rfl)) ?_)
                          refine AT.runU tOk [(6, [])] 20 [⟨[5, 12], 3, 48, 49⟩] [6, 5, 4, 3, 2, 1, 0] rfl (by kernel_rfl) (fun cx => ?_)
                          refine AT.to ⟨98, 0, [(54, .val false [.lit (.bool r31)]), (53, .val false [.lit (.bool r31)]), (52, .val false [.lit (.int .i64 (IntKind.wrap .i64 ((y16.length : Int) - 1)))]), (51, .val false [.lit (.int .i64 (y16.length : Int))]), (50, .ref (.slot 7) [] 0 0 1 false), (49, .val false [.lit (.int .i64 v23.A)]), (48, .adr (.box 11) [(0, 0)] 4 0), (11, .adr (.box 11) [(0, 0)] 4 0), (47, .val true (Link.row v23)), (46, .fad ((Link.row v23))), (45, .val false [.lit (.int .i64 v21)]), (44, .val false [.sl false 4 (CV.frzEs (x0.Links.map Link.row))]), (43, .adr (.box 3) [(0, 0)] 3 1), (42, .val false [.lit (.bool false)]), (41, .val false [.lit (.bool r22)]), (40, .val false [.lit (.int .i64 (IntKind.wrap .i64 ((x0.Links.length : Int) - 1)))]), (39, .val false [.lit (.int .i64 (x0.Links.length : Int))]), (38, .val false [.sl false 4 (CV.frzEs (x0.Links.map Link.row))]), (37, .adr (.box 3) [(0, 0)] 3 1), (36, .val false [.lit (.int .i64 v21)]), (10, .val false [.lit (.int .i64 v21)]), (35, .val false [.lit (.int .i64 v21)]), (34, .fad ([.lit (.int .i64 v21)])), (33, .val false [.lit (.bool true)]), (32, .val false [.lit (.int .i64 y14)]), (31, .val false [.lit (.int .i64 (x2.length : Int))]), (30, .val false [.sl false 1 (CV.frzEs (x2.map intRow))]), (8, .val false [.lit (.bool y15)]), (29, .val false [.lit (.bool true)]), (7, .val false [.sl true 1 (y16.map boolRow)]), (6, .val false [.sl true 1 (([] : List Int).map intRow)]), (3, .adr (.box 3) [(0, 0)] 3 0), (2, .val false [.sl false 1 (CV.frzEs (x2.map intRow))])], [(11, (Link.row v23)), (3, (CV.frzRow (Net.row x0)))]⟩ (by kernel_rfl) ?_
                          rw [h8]
                          refine AT.runU tOk [(7, []), (8, [12]), (9, [])] 17 [⟨[12], 3, 55, 56⟩, ⟨[5, 12], 3, 48, 49⟩] [9, 8, 7, 6, 5, 4, 3, 2, 1, 0] rfl (by kernel_rfl) (fun cx => ?_)
                          refine AT.lenE tOk 10 (t := 111) (ty := 3) (e := 4) (x := (.tmp 57)) (d := 58) (g := (some (6, true))) ⟨(.slot 7), [], 0, true, 1, (y16.map boolRow)⟩ (y16).length _ (by kernel_rfl) (by kernel_rfl) (by kernel_rfl) (by kernel_rfl) (by kernel_rfl) (by kernel_rfl) (by kernel_rfl) (map_len _ _) rfl (fun cx => ?_)
                          refine AT.runU tOk [(11, [])] 15 [⟨[12], 3, 55, 56⟩, ⟨[5, 12], 3, 48, 49⟩] [11, 10, 9, 8, 7, 6, 5, 4, 3, 2, 1, 0] rfl (by kernel_rfl) (fun cx => ?_)
                          refine AT.big1 tOk 12 (by kernel_rfl) (by kernel_rfl) ?_
                          refine LAt.callU tOk [.rd, .rd, .rd] (f := 70) (av := #[.tmp 56, .const (.int .i64 0), .tmp 59]) (ats := #[3, 3, 3]) (d := (some 60)) (ty := 4) (g := (some (6, true))) (by kernel_rfl) (by kernel_rfl) (by kernel_rfl) [] (impl_in n v23.B 0 (IntKind.wrap .i64 ((y16.length : Int) - 1)) r32 er32) (by kernel_rfl) (.inl rfl) ?_
                          refine LAt.fin (by kernel_rfl) (And.intro (And.intro (by kernel_rfl) (by kernel_rfl)) ?_)
                          refine AT.runU tOk [(13, []), (14, [])] 12 [⟨[12], 3, 55, 56⟩, ⟨[5, 12], 3, 48, 49⟩] [14, 13, 12, 11, 10, 9, 8, 7, 6, 5, 4, 3, 2, 1, 0] rfl (by kernel_rfl) (fun cx => ?_)
                          refine AT.to ⟨98, 0, [(62, .val false [.lit (.bool r32)]), (61, .val false [.lit (.bool r32)]), (60, .val false [.lit (.bool r32)]), (59, .val false [.lit (.int .i64 (IntKind.wrap .i64 ((y16.length : Int) - 1)))]), (58, .val false [.lit (.int .i64 (y16.length : Int))]), (57, .ref (.slot 7) [] 0 0 1 false), (56, .val false [.lit (.int .i64 v23.B)]), (55, .adr (.box 11) [(0, 0)] 4 2), (54, .val false [.lit (.bool true)]), (53, .val false [.lit (.bool true)]), (52, .val false [.lit (.int .i64 (IntKind.wrap .i64 ((y16.length : Int) - 1)))]), (51, .val false [.lit (.int .i64 (y16.length : Int))]), (50, .ref (.slot 7) [] 0 0 1 false), (49, .val false [.lit (.int .i64 v23.A)]), (48, .adr (.box 11) [(0, 0)] 4 0), (11, .adr (.box 11) [(0, 0)] 4 0), (47, .val true (Link.row v23)), (46, .fad ((Link.row v23))), (45, .val false [.lit (.int .i64 v21)]), (44, .val false [.sl false 4 (CV.frzEs (x0.Links.map Link.row))]), (43, .adr (.box 3) [(0, 0)] 3 1), (42, .val false [.lit (.bool false)]), (41, .val false [.lit (.bool r22)]), (40, .val false [.lit (.int .i64 (IntKind.wrap .i64 ((x0.Links.length : Int) - 1)))]), (39, .val false [.lit (.int .i64 (x0.Links.length : Int))]), (38, .val false [.sl false 4 (CV.frzEs (x0.Links.map Link.row))]), (37, .adr (.box 3) [(0, 0)] 3 1), (36, .val false [.lit (.int .i64 v21)]), (10, .val false [.lit (.int .i64 v21)]), (35, .val false [.lit (.int .i64 v21)]), (34, .fad ([.lit (.int .i64 v21)])), (33, .val false [.lit (.bool true)]), (32, .val false [.lit (.int .i64 y14)]), (31, .val false [.lit (.int .i64 (x2.length : Int))]), (30, .val false [.sl false 1 (CV.frzEs (x2.map intRow))]), (8, .val false [.lit (.bool y15)]), (29, .val false [.lit (.bool true)]), (7, .val false [.sl true 1 (y16.map boolRow)]), (6, .val false [.sl true 1 (([] : List Int).map intRow)]), (3, .adr (.box 3) [(0, 0)] 3 0), (2, .val false [.sl false 1 (CV.frzEs (x2.map intRow))])], [(11, (Link.row v23)), (3, (CV.frzRow (Net.row x0)))]⟩ (by kernel_rfl) ?_
                          rw [h9]
                          refine AT.runU tOk [(15, []), (16, []), (17, []), (18, []), (19, []), (20, []), (21, []), (22, []), (23, []), (24, []), (25, []), (26, [])] 0 [⟨[12], 3, 55, 56⟩, ⟨[5, 12], 3, 48, 49⟩] [26, 25, 24, 23, 22, 21, 20, 19, 18, 17, 16, 15, 14, 13, 12, 11, 10, 9, 8, 7, 6, 5, 4, 3, 2, 1, 0] rfl (by kernel_rfl) (fun cx => ?_)
                          exact AT.done [74, 73, 72, 71, 70, 69, 68, 67, 66, 65, 64, 63, 62, 61, 60, 59, 58, 57, 56, 55, 54, 53, 52, 51, 50, 49, 48, 11, 47, 46, 45, 44, 43, 42, 41, 40, 39, 38, 37, 36, 10, 35, 34, 33, 32, 31, 30, 8, 29, 7, 6, 3, 2] [11, 3] _ (by kernel_rfl) (by kernel_rfl) rfl
                        · exact Exists.intro (false, false, false, true, true) (And.intro H (St.sub_of [74, 62, 61, 54, 53, 52, 51, 50, 49, 48, 11, 47, 46, 45, 44, 43, 42, 41, 40, 39, 38, 37, 36, 10, 35, 34, 33, 32, 31, 30, 8, 29, 7, 6, 3, 2] [11, 3] (by kernel_rfl)))
                      · have H := bifT h9 H
                        obtain ⟨v33, ev33, H⟩ := bind_some H
                        obtain ⟨v34, ev34, H⟩ := bind_some H
                        refine Tr.draw mixed 27 (by kernel_rfl) ⟨98, 0, [(74, .val false [.lit (.bool (!(v33 == v34)))]), (73, .val false [.lit (.bool (!(v33 == v34)))]), (72, .val false [.lit (.bool v34)]), (71, .adr (.slot 7) [(0, (v23.B.toNat))] 1 0), (70, .val false [.lit (.int .i64 v23.B)]), (69, .adr (.box 11) [(0, 0)] 4 2), (68, .ref (.slot 7) [] 0 0 1 false), (67, .val false [.lit (.bool v33)]), (66, .adr (.slot 7) [(0, (v23.A.toNat))] 1 0), (65, .val false [.lit (.int .i64 v23.A)]), (64, .adr (.box 11) [(0, 0)] 4 0), (63, .ref (.slot 7) [] 0 0 1 false), (62, .val false [.lit (.bool true)]), (61, .val false [.lit (.bool true)]), (60, .val false [.lit (.bool true)]), (59, .val false [.lit (.int .i64 (IntKind.wrap .i64 ((y16.length : Int) - 1)))]), (58, .val false [.lit (.int .i64 (y16.length : Int))]), (57, .ref (.slot 7) [] 0 0 1 false), (56, .val false [.lit (.int .i64 v23.B)]), (55, .adr (.box 11) [(0, 0)] 4 2), (54, .val false [.lit (.bool true)]), (53, .val false [.lit (.bool true)]), (52, .val false [.lit (.int .i64 (IntKind.wrap .i64 ((y16.length : Int) - 1)))]), (51, .val false [.lit (.int .i64 (y16.length : Int))]), (50, .ref (.slot 7) [] 0 0 1 false), (49, .val false [.lit (.int .i64 v23.A)]), (48, .adr (.box 11) [(0, 0)] 4 0), (11, .adr (.box 11) [(0, 0)] 4 0), (47, .val true (Link.row v23)), (46, .fad ((Link.row v23))), (45, .val false [.lit (.int .i64 v21)]), (44, .val false [.sl false 4 (CV.frzEs (x0.Links.map Link.row))]), (43, .adr (.box 3) [(0, 0)] 3 1), (42, .val false [.lit (.bool false)]), (41, .val false [.lit (.bool r22)]), (40, .val false [.lit (.int .i64 (IntKind.wrap .i64 ((x0.Links.length : Int) - 1)))]), (39, .val false [.lit (.int .i64 (x0.Links.length : Int))]), (38, .val false [.sl false 4 (CV.frzEs (x0.Links.map Link.row))]), (37, .adr (.box 3) [(0, 0)] 3 1), (36, .val false [.lit (.int .i64 v21)]), (10, .val false [.lit (.int .i64 v21)]), (35, .val false [.lit (.int .i64 v21)]), (34, .fad ([.lit (.int .i64 v21)])), (33, .val false [.lit (.bool true)]), (32, .val false [.lit (.int .i64 y14)]), (31, .val false [.lit (.int .i64 (x2.length : Int))]), (30, .val false [.sl false 1 (CV.frzEs (x2.map intRow))]), (8, .val false [.lit (.bool y15)]), (29, .val false [.lit (.bool true)]), (7, .val false [.sl true 1 (y16.map boolRow)]), (6, .val false [.sl true 1 (([] : List Int).map intRow)]), (3, .adr (.box 3) [(0, 0)] 3 0), (2, .val false [.sl false 1 (CV.frzEs (x2.map intRow))])], [(11, (Link.row v23)), (3, (CV.frzRow (Net.row x0)))]⟩ (fun cx => ?_) ?_
                        · refine AT.runU tOk [(0, []), (1, [5, 12]), (2, [])] 24 [⟨[5, 12], 3, 48, 49⟩] [2, 1, 0] rfl (by kernel_rfl) (fun cx => ?_)
                          refine AT.lenE tOk 3 (t := 111) (ty := 3) (e := 4) (x := (.tmp 50)) (d := 51) (g := none) ⟨(.slot 7), [], 0, true, 1, (y16.map boolRow)⟩ (y16).length _ (by kernel_rfl) (by kernel_rfl) (by kernel_rfl) (by kernel_rfl) (by kernel_rfl) (by kernel_rfl) (by kernel_rfl) (map_len _ _) rfl (fun cx => ?_)
                          refine AT.runU tOk [(4, [])] 22 [⟨[5, 12], 3, 48, 49⟩] [4, 3, 2, 1, 0] rfl (by kernel_rfl) (fun cx => ?_)
                          refine AT.big1 tOk 5 (by kernel_rfl) (by kernel_rfl) ?_
                          refine LAt.callU tOk [.rd, .rd, .rd] (f := 70) (av := #[.tmp 49, .const (.int .i64 0), .tmp 52]) (ats := #[3, 3, 3]) (d := (some 53)) (ty := 4) (g := none) (by kernel_rfl) (by kernel_rfl) (by kernel_rfl) [] (impl_in n v23.A 0 (IntKind.wrap .i64 ((y16.length : Int) - 1)) r31 er31) (by kernel_rfl) (.inl rfl) ?_
                          refine LAt.fin (by kernel_rfl) (And.intro (And.intro (by kernel_rfl) (by kernel_rfl)) ?_)
                          refine AT.runU tOk [(6, [])] 20 [⟨[5, 12], 3, 48, 49⟩] [6, 5, 4, 3, 2, 1, 0] rfl (by kernel_rfl) (fun cx => ?_)
                          refine AT.to ⟨98, 0, [(54, .val false [.lit (.bool r31)]), (53, .val false [.lit (.bool r31)]), (52, .val false [.lit (.int .i64 (IntKind.wrap .i64 ((y16.length : Int) - 1)))]), (51, .val false [.lit (.int .i64 (y16.length : Int))]), (50, .ref (.slot 7) [] 0 0 1 false), (49, .val false [.lit (.int .i64 v23.A)]), (48, .adr (.box 11) [(0, 0)] 4 0), (11, .adr (.box 11) [(0, 0)] 4 0), (47, .val true (Link.row v23)), (46, .fad ((Link.row v23))), (45, .val false [.lit (.int .i64 v21)]), (44, .val false [.sl false 4 (CV.frzEs (x0.Links.map Link.row))]), (43, .adr (.box 3) [(0, 0)] 3 1), (42, .val false [.lit (.bool false)]), (41, .val false [.lit (.bool r22)]), (40, .val false [.lit (.int .i64 (IntKind.wrap .i64 ((x0.Links.length : Int) - 1)))]), (39, .val false [.lit (.int .i64 (x0.Links.length : Int))]), (38, .val false [.sl false 4 (CV.frzEs (x0.Links.map Link.row))]), (37, .adr (.box 3) [(0, 0)] 3 1), (36, .val false [.lit (.int .i64 v21)]), (10, .val false [.lit (.int .i64 v21)]), (35, .val false [.lit (.int .i64 v21)]), (34, .fad ([.lit (.int .i64 v21)])), (33, .val false [.lit (.bool true)]), (32, .val false [.lit (.int .i64 y14)]), (31, .val false [.lit (.int .i64 (x2.length : Int))]), (30, .val false [.sl false 1 (CV.frzEs (x2.map intRow))]), (8, .val false [.lit (.bool y15)]), (29, .val false [.lit (.bool true)]), (7, .val false [.sl true 1 (y16.map boolRow)]), (6, .val false [.sl true 1 (([] : List Int).map intRow)]), (3, .adr (.box 3) [(0, 0)] 3 0), (2, .val false [.sl false 1 (CV.frzEs (x2.map intRow))])], [(11, (Link.row v23)), (3, (CV.frzRow (Net.row x0)))]⟩ (by kernel_rfl) ?_
                          rw [h8]
                          refine AT.runU tOk [(7, []), (8, [12]), (9, [])] 17 [⟨[12], 3, 55, 56⟩, ⟨[5, 12], 3, 48, 49⟩] [9, 8, 7, 6, 5, 4, 3, 2, 1, 0] rfl (by kernel_rfl) (fun cx => ?_)
                          refine AT.lenE tOk 10 (t := 111) (ty := 3) (e := 4) (x := (.tmp 57)) (d := 58) (g := (some (6, true))) ⟨(.slot 7), [], 0, true, 1, (y16.map boolRow)⟩ (y16).length _ (by kernel_rfl) (by kernel_rfl) (by kernel_rfl) (by kernel_rfl) (by kernel_rfl) (by kernel_rfl) (by kernel_rfl) (map_len _ _) rfl (fun cx => ?_)
                          refine AT.runU tOk [(11, [])] 15 [⟨[12], 3, 55, 56⟩, ⟨[5, 12], 3, 48, 49⟩] [11, 10, 9, 8, 7, 6, 5, 4, 3, 2, 1, 0] rfl (by kernel_rfl) (fun cx => ?_)
                          refine AT.big1 tOk 12 (by kernel_rfl) (by kernel_rfl) ?_
                          refine LAt.callU tOk [.rd, .rd, .rd] (f := 70) (av := #[.tmp 56, .const (.int .i64 0), .tmp 59]) (ats := #[3, 3, 3]) (d := (some 60)) (ty := 4) (g := (some (6, true))) (by kernel_rfl) (by kernel_rfl) (by kernel_rfl) [] (impl_in n v23.B 0 (IntKind.wrap .i64 ((y16.length : Int) - 1)) r32 er32) (by kernel_rfl) (.inl rfl) ?_
                          refine LAt.fin (by kernel_rfl) (And.intro (And.intro (by kernel_rfl) (by kernel_rfl)) ?_)
                          refine AT.runU tOk [(13, []), (14, [])] 12 [⟨[12], 3, 55, 56⟩, ⟨[5, 12], 3, 48, 49⟩] [14, 13, 12, 11, 10, 9, 8, 7, 6, 5, 4, 3, 2, 1, 0] rfl (by kernel_rfl) (fun cx => ?_)
                          refine AT.to ⟨98, 0, [(62, .val false [.lit (.bool r32)]), (61, .val false [.lit (.bool r32)]), (60, .val false [.lit (.bool r32)]), (59, .val false [.lit (.int .i64 (IntKind.wrap .i64 ((y16.length : Int) - 1)))]), (58, .val false [.lit (.int .i64 (y16.length : Int))]), (57, .ref (.slot 7) [] 0 0 1 false), (56, .val false [.lit (.int .i64 v23.B)]), (55, .adr (.box 11) [(0, 0)] 4 2), (54, .val false [.lit (.bool true)]), (53, .val false [.lit (.bool true)]), (52, .val false [.lit (.int .i64 (IntKind.wrap .i64 ((y16.length : Int) - 1)))]), (51, .val false [.lit (.int .i64 (y16.length : Int))]), (50, .ref (.slot 7) [] 0 0 1 false), (49, .val false [.lit (.int .i64 v23.A)]), (48, .adr (.box 11) [(0, 0)] 4 0), (11, .adr (.box 11) [(0, 0)] 4 0), (47, .val true (Link.row v23)), (46, .fad ((Link.row v23))), (45, .val false [.lit (.int .i64 v21)]), (44, .val false [.sl false 4 (CV.frzEs (x0.Links.map Link.row))]), (43, .adr (.box 3) [(0, 0)] 3 1), (42, .val false [.lit (.bool false)]), (41, .val false [.lit (.bool r22)]), (40, .val false [.lit (.int .i64 (IntKind.wrap .i64 ((x0.Links.length : Int) - 1)))]), (39, .val false [.lit (.int .i64 (x0.Links.length : Int))]), (38, .val false [.sl false 4 (CV.frzEs (x0.Links.map Link.row))]), (37, .adr (.box 3) [(0, 0)] 3 1), (36, .val false [.lit (.int .i64 v21)]), (10, .val false [.lit (.int .i64 v21)]), (35, .val false [.lit (.int .i64 v21)]), (34, .fad ([.lit (.int .i64 v21)])), (33, .val false [.lit (.bool true)]), (32, .val false [.lit (.int .i64 y14)]), (31, .val false [.lit (.int .i64 (x2.length : Int))]), (30, .val false [.sl false 1 (CV.frzEs (x2.map intRow))]), (8, .val false [.lit (.bool y15)]), (29, .val false [.lit (.bool true)]), (7, .val false [.sl true 1 (y16.map boolRow)]), (6, .val false [.sl true 1 (([] : List Int).map intRow)]), (3, .adr (.box 3) [(0, 0)] 3 0), (2, .val false [.sl false 1 (CV.frzEs (x2.map intRow))])], [(11, (Link.row v23)), (3, (CV.frzRow (Net.row x0)))]⟩ (by kernel_rfl) ?_
                          rw [h9]
                          refine AT.runU tOk [(15, []), (16, []), (17, [])] 9 [⟨[], 3, 64, 65⟩, ⟨[12], 3, 55, 56⟩, ⟨[5, 12], 3, 48, 49⟩] [17, 16, 15, 14, 13, 12, 11, 10, 9, 8, 7, 6, 5, 4, 3, 2, 1, 0] rfl (by kernel_rfl) (fun cx => ?_)
                          refine AT.indexO tOk 18 (t := 111) (ty := 0) (x := (.tmp 63)) (y := (.tmp 65)) (d := 66) (g := (some (14, true))) ⟨(.slot 7), [], 0, true, 1, (y16.map boolRow)⟩ v23.A (v23.A.toNat) (boolRow v33) _ (by kernel_rfl) (by kernel_rfl) (by kernel_rfl) (by kernel_rfl) (by kernel_rfl) (by kernel_rfl) rfl (by kernel_rfl) (idx_isE ev33) rfl rfl (fun cx => ?_)
                          refine AT.runU tOk [(20, []), (21, []), (22, [])] 5 [⟨[], 3, 69, 70⟩, ⟨[], 3, 64, 65⟩, ⟨[12], 3, 55, 56⟩, ⟨[5, 12], 3, 48, 49⟩] [22, 21, 20, 18, 17, 16, 15, 14, 13, 12, 11, 10, 9, 8, 7, 6, 5, 4, 3, 2, 1, 0] rfl (by kernel_rfl) (fun cx => ?_)
                          refine AT.indexO tOk 23 (t := 111) (ty := 0) (x := (.tmp 68)) (y := (.tmp 70)) (d := 71) (g := (some (14, true))) ⟨(.slot 7), [], 0, true, 1, (y16.map boolRow)⟩ v23.B (v23.B.toNat) (boolRow v34) _ (by kernel_rfl) (by kernel_rfl) (by kernel_rfl) (by kernel_rfl) (by kernel_rfl) (by kernel_rfl) rfl (by kernel_rfl) (idx_isE ev34) rfl rfl (fun cx => ?_)
                          refine AT.big2 tOk 19 24 (by kernel_rfl) (And.intro (by kernel_rfl) ?_) (And.intro (by kernel_rfl) ?_)
                          · refine LAt.loadE tOk (t := 4) (ty := 4) (x := (.tmp 66)) (d := 67) (g := (some (14, true))) ⟨.bool, 1, 1, [.lit (.bool false)]⟩ (.slot 7) [(0, (v23.A.toNat))] 1 0 [.sl true 1 (y16.map boolRow)] (boolRow v33) _ (by kernel_rfl) (by kernel_rfl) (by kernel_rfl) (by kernel_rfl) (by kernel_rfl) (getQ_elem rfl (idx_get ev33).2) rfl (by intro h; cases h) (by kernel_rfl) (by kernel_rfl) rfl ?_
                            refine LAt.fin (by kernel_rfl) (And.intro (And.intro (by kernel_rfl) (by kernel_rfl)) ?_)
                            refine AT.big1 tOk 24 (by kernel_rfl) (by kernel_rfl) ?_
                            refine LAt.loadE tOk (t := 4) (ty := 4) (x := (.tmp 71)) (d := 72) (g := (some (14, true))) ⟨.bool, 1, 1, [.lit (.bool false)]⟩ (.slot 7) [(0, (v23.B.toNat))] 1 0 [.sl true 1 (y16.map boolRow)] (boolRow v34) _ (by kernel_rfl) (by kernel_rfl) (by kernel_rfl) (by kernel_rfl) (by kernel_rfl) (getQ_elem rfl (idx_get ev34).2) rfl (by intro h; cases h) (by kernel_rfl) (by kernel_rfl) rfl ?_
                            refine LAt.fin (by kernel_rfl) (And.intro (And.intro (by kernel_rfl) (by kernel_rfl)) ?_)
                            refine AT.runU tOk [(25, []), (26, [])] 0 [⟨[], 3, 69, 70⟩, ⟨[], 3, 64, 65⟩, ⟨[12], 3, 55, 56⟩, ⟨[5, 12], 3, 48, 49⟩] [26, 25, 24, 19, 23, 22, 21, 20, 18, 17, 16, 15, 14, 13, 12, 11, 10, 9, 8, 7, 6, 5, 4, 3, 2, 1, 0] rfl (by kernel_rfl) (fun cx => ?_)
                            exact AT.done [74, 73, 72, 71, 70, 69, 68, 67, 66, 65, 64, 63, 62, 61, 60, 59, 58, 57, 56, 55, 54, 53, 52, 51, 50, 49, 48, 11, 47, 46, 45, 44, 43, 42, 41, 40, 39, 38, 37, 36, 10, 35, 34, 33, 32, 31, 30, 8, 29, 7, 6, 3, 2] [11, 3] _ (by kernel_rfl) (by kernel_rfl) rfl
                          · refine LAt.loadE tOk (t := 4) (ty := 4) (x := (.tmp 71)) (d := 72) (g := (some (14, true))) ⟨.bool, 1, 1, [.lit (.bool false)]⟩ (.slot 7) [(0, (v23.B.toNat))] 1 0 [.sl true 1 (y16.map boolRow)] (boolRow v34) _ (by kernel_rfl) (by kernel_rfl) (by kernel_rfl) (by kernel_rfl) (by kernel_rfl) (getQ_elem rfl (idx_get ev34).2) rfl (by intro h; cases h) (by kernel_rfl) (by kernel_rfl) rfl ?_
                            refine LAt.fin (by kernel_rfl) (And.intro (And.intro (by kernel_rfl) (by kernel_rfl)) ?_)
                            refine AT.big1 tOk 19 (by kernel_rfl) (by kernel_rfl) ?_
                            refine LAt.loadE tOk (t := 4) (ty := 4) (x := (.tmp 66)) (d := 67) (g := (some (14, true))) ⟨.bool, 1, 1, [.lit (.bool false)]⟩ (.slot 7) [(0, (v23.A.toNat))] 1 0 [.sl true 1 (y16.map boolRow)] (boolRow v33) _ (by kernel_rfl) (by kernel_rfl) (by kernel_rfl) (by kernel_rfl) (by kernel_rfl) (getQ_elem rfl (idx_get ev33).2) rfl (by intro h; cases h) (by kernel_rfl) (by kernel_rfl) rfl ?_
                            refine LAt.fin (by kernel_rfl) (And.intro (And.intro (by kernel_rfl) (by kernel_rfl)) ?_)
                            refine AT.runU tOk [(25, []), (26, [])] 0 [⟨[], 3, 69, 70⟩, ⟨[], 3, 64, 65⟩, ⟨[12], 3, 55, 56⟩, ⟨[5, 12], 3, 48, 49⟩] [26, 25, 19, 24, 23, 22, 21, 20, 18, 17, 16, 15, 14, 13, 12, 11, 10, 9, 8, 7, 6, 5, 4, 3, 2, 1, 0] rfl (by kernel_rfl) (fun cx => ?_)
                            exact AT.done [74, 73, 72, 71, 70, 69, 68, 67, 66, 65, 64, 63, 62, 61, 60, 59, 58, 57, 56, 55, 54, 53, 52, 51, 50, 49, 48, 11, 47, 46, 45, 44, 43, 42, 41, 40, 39, 38, 37, 36, 10, 35, 34, 33, 32, 31, 30, 8, 29, 7, 6, 3, 2] [11, 3] _ (by kernel_rfl) (by kernel_rfl) rfl
                        · exact Exists.intro ((!(v33 == v34)), true, true, true, true) (And.intro H (St.sub_of [74, 62, 61, 54, 53, 52, 51, 50, 49, 48, 11, 47, 46, 45, 44, 43, 42, 41, 40, 39, 38, 37, 36, 10, 35, 34, 33, 32, 31, 30, 8, 29, 7, 6, 3, 2] [11, 3] (by kernel_rfl)))
                  · rintro ⟨y24, y25, y26, y27, y28⟩ H
                    have H : (impl_Joined_J7 n (fun v => impl_Joined_L6 n mo20 x0 x2 v.1 v.2.1 v.2.2) v23 y14 y15 y16 y24 y25 y26 y27 y28) = some o20 := H
                    unfold impl_Joined_J7 at H
                    show Tr _ _ _ _ _
                    refine Tr.to ⟨98, 0, [(74, .val false [.lit (.bool y24)]), (62, .val false [.lit (.bool y25)]), (61, .val false [.lit (.bool y26)]), (54, .val false [.lit (.bool y27)]), (53, .val false [.lit (.bool y28)]), (52, .val false [.lit (.int .i64 (IntKind.wrap .i64 ((y16.length : Int) - 1)))]), (51, .val false [.lit (.int .i64 (y16.length : Int))]), (50, .ref (.slot 7) [] 0 0 1 false), (49, .val false [.lit (.int .i64 v23.A)]), (48, .adr (.box 11) [(0, 0)] 4 0), (11, .adr (.box 11) [(0, 0)] 4 0), (47, .val true (Link.row v23)), (46, .fad ((Link.row v23))), (45, .val false [.lit (.int .i64 v21)]), (44, .val false [.sl false 4 (CV.frzEs (x0.Links.map Link.row))]), (43, .adr (.box 3) [(0, 0)] 3 1), (42, .val false [.lit (.bool false)]), (41, .val false [.lit (.bool r22)]), (40, .val false [.lit (.int .i64 (IntKind.wrap .i64 ((x0.Links.length : Int) - 1)))]), (39, .val false [.lit (.int .i64 (x0.Links.length : Int))]), (38, .val false [.sl false 4 (CV.frzEs (x0.Links.map Link.row))]), (37, .adr (.box 3) [(0, 0)] 3 1), (36, .val false [.lit (.int .i64 v21)]), (10, .val false [.lit (.int .i64 v21)]), (35, .val false [.lit (.int .i64 v21)]), (34, .fad ([.lit (.int .i64 v21)])), (33, .val false [.lit (.bool true)]), (32, .val false [.lit (.int .i64 y14)]), (31, .val false [.lit (.int .i64 (x2.length : Int))]), (30, .val false [.sl false 1 (CV.frzEs (x2.map intRow))]), (8, .val false [.lit (.bool y15)]), (29, .val false [.lit (.bool true)]), (7, .val false [.sl true 1 (y16.map boolRow)]), (6, .val false [.sl true 1 (([] : List Int).map intRow)]), (3, .adr (.box 3) [(0, 0)] 3 0), (2, .val false [.sl false 1 (CV.frzEs (x2.map intRow))])], [(11, (Link.row v23)), (3, (CV.frzRow (Net.row x0)))]⟩ (by kernel_rfl) ?_
                    cases h7 : y24
                    · have H := bifF h7 H
                      refine Tr.cond (b := false) (by kernel_rfl) (fun h => nomatch h) (fun _ => ?_)
                      refine Tr.skip ?_
                      show Tr _ _ _ _ _
                      refine Tr.at ?_
                      refine LAt.runU tOk 2 (by kernel_rfl) ?_
                      refine LAt.doneU [32, 83, 74, 62, 61, 54, 53, 52, 51, 50, 49, 48, 11, 47, 46, 45, 44, 43, 42, 41, 40, 39, 38, 37, 36, 10, 35, 34, 33, 31, 30, 8, 29, 7, 6, 3, 2] [11, 3] (by kernel_rfl) ?_
                      exact Exists.intro (mo20, ((IntKind.wrap .i64 (y14 + 1)), y15, y16)) (And.intro H (And.intro (Nat.lt_succ_self mo20) (St.sub_of [32, 31, 30, 8, 29, 7, 6, 3, 2] [3] (by kernel_rfl))))
                    · have H := bifT h7 H
                      refine Tr.cond (b := true) (by kernel_rfl) (fun _ => ?_) (fun h => nomatch h)
                      obtain ⟨v29, ev29, H⟩ := bind_some H
                      obtain ⟨v30, ev30, H⟩ := bind_some H
                      refine Tr.draws mixed 10 (by kernel_rfl) ⟨98, 0, [(7, .val false [.sl true 1 (((y16.set (v23.A.toNat) true).set (v23.B.toNat) true).map boolRow)]), (82, .adr (.slot 7) [(0, (v23.B.toNat))] 1 0), (81, .adr (.slot 7) [(0, (v23.A.toNat))] 1 0), (80, .val false [.lit (.int .i64 v23.B)]), (79, .adr (.box 11) [(0, 0)] 4 2), (77, .val false [.lit (.int .i64 v23.A)]), (76, .adr (.box 11) [(0, 0)] 4 0), (74, .val false [.lit (.bool true)]), (62, .val false [.lit (.bool y25)]), (61, .val false [.lit (.bool y26)]), (54, .val false [.lit (.bool y27)]), (53, .val false [.lit (.bool y28)]), (52, .val false [.lit (.int .i64 (IntKind.wrap .i64 ((y16.length : Int) - 1)))]), (51, .val false [.lit (.int .i64 (y16.length : Int))]), (49, .val false [.lit (.int .i64 v23.A)]), (48, .adr (.box 11) [(0, 0)] 4 0), (11, .adr (.box 11) [(0, 0)] 4 0), (47, .val true (Link.row v23)), (46, .fad ((Link.row v23))), (45, .val false [.lit (.int .i64 v21)]), (44, .val false [.sl false 4 (CV.frzEs (x0.Links.map Link.row))]), (43, .adr (.box 3) [(0, 0)] 3 1), (42, .val false [.lit (.bool false)]), (41, .val false [.lit (.bool r22)]), (40, .val false [.lit (.int .i64 (IntKind.wrap .i64 ((x0.Links.length : Int) - 1)))]), (39, .val false [.lit (.int .i64 (x0.Links.length : Int))]), (38, .val false [.sl false 4 (CV.frzEs (x0.Links.map Link.row))]), (37, .adr (.box 3) [(0, 0)] 3 1), (36, .val false [.lit (.int .i64 v21)]), (10, .val false [.lit (.int .i64 v21)]), (35, .val false [.lit (.int .i64 v21)]), (34, .fad ([.lit (.int .i64 v21)])), (33, .val false [.lit (.bool true)]), (32, .val false [.lit (.int .i64 y14)]), (31, .val false [.lit (.int .i64 (x2.length : Int))]), (30, .val false [.sl false 1 (CV.frzEs (x2.map intRow))]), (8, .val false [.lit (.bool y15)]), (29, .val false [.lit (.bool true)]), (6, .val false [.sl true 1 (([] : List Int).map intRow)]), (3, .adr (.box 3) [(0, 0)] 3 0), (2, .val false [.sl false 1 (CV.frzEs (x2.map intRow))]), (78, .ref (.slot 7) [] 0 0 1 false), (75, .ref (.slot 7) [] 0 0 1 false), (50, .ref (.slot 7) [] 0 0 1 false)], [(11, (Link.row v23)), (3, (CV.frzRow (Net.row x0)))]⟩ (fun cx => ?_) ?_
                      · refine AT.runU tOk [(0, []), (1, []), (2, [7, 9]), (3, []), (4, []), (5, [9])] 4 [⟨[9], 3, 79, 80⟩, ⟨[7, 9], 3, 76, 77⟩] [5, 4, 3, 2, 1, 0] rfl (by kernel_rfl) (fun cx => ?_)
                        refine AT.indexO tOk 6 (t := 111) (ty := 0) (x := (.tmp 75)) (y := (.tmp 77)) (d := 81) (g := none) ⟨(.slot 7), [], 0, true, 1, (y16.map boolRow)⟩ v23.A (v23.A.toNat) (boolRow v29) _ (by kernel_rfl) (by kernel_rfl) (by kernel_rfl) (by kernel_rfl) (by kernel_rfl) (by kernel_rfl) rfl (by kernel_rfl) (idx_isE ev29) rfl rfl (fun cx => ?_)
                        refine AT.big1 tOk 7 (by kernel_rfl) (by kernel_rfl) ?_
                        refine LAt.storeK tOk (t := 4) (ty := 0) (ad := (.tmp 81)) (x := (.const (.bool true))) (g := none) ⟨.bool, 1, 1, [.lit (.bool false)]⟩ false [.lit (.bool true)] (.slot 7) [(0, (v23.A.toNat))] [(0, (v23.A.toNat))] 1 0 [.sl true 1 (y16.map boolRow)] (boolRow v29) [.sl true 1 (y16.map boolRow)] [.sl true 1 ((y16.set (v23.A.toNat) true).map boolRow)] (by kernel_rfl) (by kernel_rfl) (by kernel_rfl) (by kernel_rfl) (by kernel_rfl) (by kernel_rfl) (getQ_elem rfl (idx_get ev29).2) rfl (by intro h; cases h) (by kernel_rfl) (by kernel_rfl) (by kernel_rfl) (modQ_elem (new := true) rfl (idx_get ev29).2 rfl) (by kernel_rfl) ?_
                        refine LAt.fin (by kernel_rfl) (And.intro (And.intro (by kernel_rfl) (by kernel_rfl)) ?_)
                        refine AT.indexO tOk 8 (t := 111) (ty := 0) (x := (.tmp 78)) (y := (.tmp 80)) (d := 82) (g := none) ⟨(.slot 7), [], 0, true, 1, ((y16.set (v23.A.toNat) true).map boolRow)⟩ v23.B (v23.B.toNat) (boolRow v30) _ (by kernel_rfl) (by kernel_rfl) (by kernel_rfl) (by kernel_rfl) (by kernel_rfl) (by kernel_rfl) rfl (by kernel_rfl) (idx_isE ev30) rfl rfl (fun cx => ?_)
                        refine AT.big1 tOk 9 (by kernel_rfl) (by kernel_rfl) ?_
                        refine LAt.storeK tOk (t := 4) (ty := 0) (ad := (.tmp 82)) (x := (.const (.bool true))) (g := none) ⟨.bool, 1, 1, [.lit (.bool false)]⟩ false [.lit (.bool true)] (.slot 7) [(0, (v23.B.toNat))] [(0, (v23.B.toNat))] 1 0 [.sl true 1 ((y16.set (v23.A.toNat) true).map boolRow)] (boolRow v30) [.sl true 1 ((y16.set (v23.A.toNat) true).map boolRow)] [.sl true 1 (((y16.set (v23.A.toNat) true).set (v23.B.toNat) true).map boolRow)] (by kernel_rfl) (by kernel_rfl) (by kernel_rfl) (by kernel_rfl) (by kernel_rfl) (by kernel_rfl) (getQ_elem rfl (idx_get ev30).2) rfl (by intro h; cases h) (by kernel_rfl) (by kernel_rfl) (by kernel_rfl) (modQ_elem (new := true) rfl (idx_get ev30).2 rfl) (by kernel_rfl) ?_
                        refine LAt.fin (by kernel_rfl) (And.intro (And.intro (by kernel_rfl) (by kernel_rfl)) ?_)
                        exact AT.done [7, 82, 81, 80, 79, 77, 76, 74, 62, 61, 54, 53, 52, 51, 49, 48, 11, 47, 46, 45, 44, 43, 42, 41, 40, 39, 38, 37, 36, 10, 35, 34, 33, 32, 31, 30, 8, 29, 6, 3, 2, 78, 75, 50] [11, 3] _ (by kernel_rfl) (by kernel_rfl) rfl
                      · refine Tr.at ?_
                        refine LAt.runU tOk 1 (by kernel_rfl) ?_
                        refine LAt.doneU [8, 7, 82, 81, 80, 79, 77, 76, 74, 62, 61, 54, 53, 52, 51, 49, 48, 11, 47, 46, 45, 44, 43, 42, 41, 40, 39, 38, 37, 36, 10, 35, 34, 33, 32, 31, 30, 29, 6, 3, 2, 78, 75, 50] [11, 3] (by kernel_rfl) ?_
                        show Tr _ _ _ _ _
                        refine Tr.at ?_
                        refine LAt.runU tOk 2 (by kernel_rfl) ?_
                        refine LAt.doneU [32, 83, 8, 7, 82, 81, 80, 79, 77, 76, 74, 62, 61, 54, 53, 52, 51, 49, 48, 11, 47, 46, 45, 44, 43, 42, 41, 40, 39, 38, 37, 36, 10, 35, 34, 33, 31, 30, 29, 6, 3, 2, 78, 75, 50] [11, 3] (by kernel_rfl) ?_
                        exact Exists.intro (mo20, ((IntKind.wrap .i64 (y14 + 1)), true, ((y16.set (v23.A.toNat) true).set (v23.B.toNat) true))) (And.intro H (And.intro (Nat.lt_succ_self mo20) (St.sub_of [32, 31, 30, 8, 29, 7, 6, 3, 2] [3] (by kernel_rfl))))
                · have H := bifT h6 H
                  refine Tr.cond (b := true) (by kernel_rfl) (fun _ => ?_) (fun h => nomatch h)
                  refine Tr.exit ?_
                  refine And.intro (fun _ => ?_) (fun h => absurd rfl h)
                  show Tr _ _ _ _ _
                  refine Tr.at ?_
                  refine LAt.runU tOk 2 (by kernel_rfl) ?_
                  refine LAt.doneU [32, 83, 42, 41, 40, 39, 38, 37, 36, 10, 35, 34, 33, 31, 30, 8, 29, 7, 6, 3, 2] [3] (by kernel_rfl) ?_
                  exact Exists.intro (mo20, ((IntKind.wrap .i64 (y14 + 1)), y15, y16)) (And.intro H (And.intro (Nat.lt_succ_self mo20) (St.sub_of [32, 31, 30, 8, 29, 7, 6, 3, 2] [3] (by kernel_rfl))))
          · rintro ⟨y17, y18, y19⟩ H
            have H : (impl_Joined_J5 n (fun v => impl_Joined_L4 n mo13 x0 x2 v.1 v.2) y17 y18 y19) = some o13 := H
            unfold impl_Joined_J5 at H
            exact Exists.intro (mo13, (y18, y19)) (And.intro H (And.intro (Nat.lt_succ_self mo13) (St.sub_of [8, 7, 6, 3, 2] [3] (by kernel_rfl))))
    · rintro y6 H
      have H : (impl_Joined_J1 n y6) = some r := H
      unfold impl_Joined_J1 at H
      show Tr _ _ _ _ _
      refine Tr.rs ?_
      refine LAt.runU tOk 1 (by kernel_rfl) ?_
      refine LAt.doneU [12, 7, 6] [] (by kernel_rfl) ?_
      refine Tr.seq ?_
      refine Tr.rs ?_
      refine LAt.runU tOk 1 (by kernel_rfl) ?_
      refine LAt.lenE tOk (t := 111) (ty := 3) (e := 4) (x := (.tmp 84)) (d := 85) (g := none) ⟨(.slot 7), [], 0, true, 1, (y6.map boolRow)⟩ (y6).length _ (by kernel_rfl) (by kernel_rfl) (by kernel_rfl) (by kernel_rfl) (by kernel_rfl) (map_len _ _) rfl ?_
      refine LAt.runU tOk 1 (by kernel_rfl) ?_
      refine LAt.doneU [86, 85, 84, 12, 7, 6] [] (by kernel_rfl) ?_
      obtain ⟨o10, eo10, Ho10⟩ := bind_some H
      clear H
      refine Tr.mid (ι := (List Int)) (fun v => ⟨98, 0, [(12, .val false [.sl true 1 (v.map intRow)]), (6, .val false [.sl true 1 (([] : List Int).map intRow)])], []⟩) (fun v => impl_Joined_J2 n v = some r) ?_ ?_
      · refine Tr.block ?_
        refine Tr.loop (ι := Nat × (Int × (List Int))) (fun v => ⟨98, 0, [(86, .val false [.lit (.int .i64 v.2.1)]), (85, .val false [.lit (.int .i64 (y6.length : Int))]), (84, .ref (.slot 7) [] 0 0 1 false), (12, .val false [.sl true 1 (v.2.2.map intRow)]), (7, .val false [.sl true 1 (y6.map boolRow)]), (6, .val false [.sl true 1 (([] : List Int).map intRow)])], []⟩) (fun v => impl_Joined_L3 n v.1 y6 v.2.1 v.2.2 = some o10) (fun v => v.1) (n, (0, ([] : List Int))) eo10 (St.sub_of [86, 85, 84, 12, 7, 6] [] (by kernel_rfl)) ?_
        rintro ⟨mo10, y7, y8⟩ H
        have H : impl_Joined_L3 n mo10 y6 y7 y8 = some o10 := H
        obtain _ | mo10 := mo10
        · cases (show (none : Option _) = some o10 from H)
        · rw [impl_Joined_L3] at H
          refine Tr.rs ?_
          refine LAt.runU tOk 1 (by kernel_rfl) ?_
          refine LAt.doneU [87, 86, 85, 84, 12, 7, 6] [] (by kernel_rfl) ?_
          refine Tr.seq ?_
          refine Tr.to ⟨98, 0, [(87, .val false [.lit (.bool (decide (y7 < (y6.length : Int))))]), (86, .val false [.lit (.int .i64 y7)]), (85, .val false [.lit (.int .i64 (y6.length : Int))]), (84, .ref (.slot 7) [] 0 0 1 false), (12, .val false [.sl true 1 (y8.map intRow)]), (7, .val false [.sl true 1 (y6.map boolRow)]), (6, .val false [.sl true 1 (([] : List Int).map intRow)])], []⟩ (by kernel_rfl) ?_
          cases h2 : (decide (y7 < (y6.length : Int)))
          · have H := bifF h2 H
            refine Tr.cond (b := false) (by kernel_rfl) (fun h => nomatch h) (fun _ => ?_)
            refine Tr.exit ?_
            refine And.intro (fun _ => ?_) (fun h => absurd rfl h)
            have H := Option.some.inj H
            subst H
            have H := Ho10
            dsimp only at H
            exact Exists.intro y8 (And.intro H (St.sub_of [12, 6] [] (by kernel_rfl)))
          · have H := bifT h2 H
            refine Tr.cond (b := true) (by kernel_rfl) (fun _ => ?_) (fun h => nomatch h)
            refine Tr.skip ?_
            show Tr _ _ _ _ _
            refine Tr.seq ?_
            refine Tr.block ?_
            refine Tr.rs ?_
            refine LAt.runU tOk 1 (by kernel_rfl) ?_
            obtain ⟨v11, ev11, H⟩ := bind_some H
            refine LAt.indexO tOk (t := 111) (ty := 0) (x := (.tmp 84)) (y := (.tmp 86)) (d := 89) (g := none) ⟨(.slot 7), [], 0, true, 1, (y6.map boolRow)⟩ y7 (y7.toNat) (boolRow v11) _ (by kernel_rfl) (by kernel_rfl) (by kernel_rfl) (by kernel_rfl) rfl (by kernel_rfl) (idx_isE ev11) rfl rfl ?_
            refine LAt.loadE tOk (t := 4) (ty := 4) (x := (.tmp 89)) (d := 90) (g := none) ⟨.bool, 1, 1, [.lit (.bool false)]⟩ (.slot 7) [(0, (y7.toNat))] 1 0 [.sl true 1 (y6.map boolRow)] (boolRow v11) _ (by kernel_rfl) (by kernel_rfl) (by kernel_rfl) (by kernel_rfl) (by kernel_rfl) (getQ_elem rfl (idx_get ev11).2) rfl (by intro h; cases h) (by kernel_rfl) (by kernel_rfl) rfl ?_
            refine LAt.runU tOk 2 (by kernel_rfl) ?_
            refine LAt.doneU [14, 13, 90, 89, 88, 87, 86, 85, 84, 12, 7, 6] [] (by kernel_rfl) ?_
            refine Tr.rs ?_
            refine LAt.runU tOk 1 (by kernel_rfl) ?_
            refine LAt.doneU [91, 14, 13, 90, 89, 88, 87, 86, 85, 84, 12, 7, 6] [] (by kernel_rfl) ?_
            refine Tr.to ⟨98, 0, [(91, .val false [.lit (.bool v11)]), (14, .val false [.lit (.bool v11)]), (13, .val false [.lit (.int .i64 y7)]), (90, .val false [.lit (.bool v11)]), (89, .adr (.slot 7) [(0, (y7.toNat))] 1 0), (88, .val false [.lit (.int .i64 y7)]), (87, .val false [.lit (.bool true)]), (86, .val false [.lit (.int .i64 y7)]), (85, .val false [.lit (.int .i64 (y6.length : Int))]), (84, .ref (.slot 7) [] 0 0 1 false), (12, .val false [.sl true 1 (y8.map intRow)]), (7, .val false [.sl true 1 (y6.map boolRow)]), (6, .val false [.sl true 1 (([] : List Int).map intRow)])], []⟩ (by kernel_rfl) ?_
            cases h3 : v11
            · have H := bifF h3 H
              refine Tr.cond (b := false) (by kernel_rfl) (fun h => nomatch h) (fun _ => ?_)
              refine Tr.skip ?_
              show Tr _ _ _ _ _
              refine Tr.at ?_
              refine LAt.runU tOk 2 (by kernel_rfl) ?_
              refine LAt.doneU [86, 96, 91, 14, 13, 90, 89, 88, 87, 85, 84, 12, 7, 6] [] (by kernel_rfl) ?_
              exact Exists.intro (mo10, ((IntKind.wrap .i64 (y7 + 1)), y8)) (And.intro H (And.intro (Nat.lt_succ_self mo10) (St.sub_of [86, 85, 84, 12, 7, 6] [] (by kernel_rfl))))
            · have H := bifT h3 H
              refine Tr.cond (b := true) (by kernel_rfl) (fun _ => ?_) (fun h => nomatch h)
              refine Tr.at ?_
              refine LAt.runU tOk 3 (by kernel_rfl) ?_
              obtain ⟨hg12, H⟩ := guard_some H
              refine LAt.appMU tOk (t := 27) (ty := 27) (e := 3) (x := (.tmp 92)) (y := (.tmp 94)) (d := 95) (g := none) ⟨.int .i64, 1, 8, [.lit (.int .i64 0)]⟩ intRow y8 [y7] (by kernel_rfl) (by kernel_rfl) (by kernel_rfl) (by kernel_rfl) (by kernel_rfl) (by kernel_rfl) (by kernel_rfl) (by kernel_rfl) (by kernel_rfl) (by kernel_rfl) hg12 ?_
              refine LAt.moveU (T := lk tab) (ty := 27) (x := (.tmp 95)) (d := 12) (g := none) false [.sl true 1 ((y8 ++ [y7]).map intRow)] (by kernel_rfl) (by kernel_rfl) (by kernel_rfl) (by kernel_rfl) (by kernel_rfl) ?_
              refine LAt.doneU [12, 93, 91, 14, 13, 90, 89, 88, 87, 86, 85, 84, 7, 6] [] (by kernel_rfl) ?_
              show Tr _ _ _ _ _
              refine Tr.at ?_
              refine LAt.runU tOk 2 (by kernel_rfl) ?_
              refine LAt.doneU [86, 96, 12, 93, 91, 14, 13, 90, 89, 88, 87, 85, 84, 7, 6] [] (by kernel_rfl) ?_
              exact Exists.intro (mo10, ((IntKind.wrap .i64 (y7 + 1)), (y8 ++ [y7]))) (And.intro H (And.intro (Nat.lt_succ_self mo10) (St.sub_of [86, 85, 84, 12, 7, 6] [] (by kernel_rfl))))
      · rintro y9 H
        have H : (impl_Joined_J2 n y9) = some r := H
        unfold impl_Joined_J2 at H
        show Tr _ _ _ _ _
        refine Tr.rs ?_
        refine LAt.runU tOk 2 (by kernel_rfl) ?_
        refine LAt.doneU [6, 12] [] (by kernel_rfl) ?_
        refine Tr.ret ?_
        have H := Option.some.inj H
        subst H
        exact Fin.of _ [(false, [.sl true 1 (y9.map intRow)])] (by kernel_rfl) rfl rfl
  · have H := bifT h1 H
    refine Tr.cond (b := true) (by kernel_rfl) (fun _ => ?_) (fun h => nomatch h)
    refine Tr.rs ?_
    refine LAt.runU tOk 1 (by kernel_rfl) ?_
    refine LAt.doneU [6, 3, 1, 2] [3] (by kernel_rfl) ?_
    refine Tr.ret ?_
    have H := Option.some.inj H
    subst H
    exact Fin.of _ [(false, [.sl true 1 (([] : List Int).map intRow)])] (by kernel_rfl) rfl rfl

def impl_hasInt_J1 (n : Nat) : Option (Bool) :=
  (some false)
def impl_hasInt_L2 (n : Nat) : Nat → (List Int) → Int → Int → Option ((Unit) ⊕ (Bool))
  | 0, _, _, _ => none
  | mo2 + 1, x0, x1, y1 => (bif (decide (y1 < (x0.length : Int))) then ((idx x0 y1).bind fun v3 => (bif (v3 == x1) then (some (Sum.inr true)) else (impl_hasInt_L2 n mo2 x0 x1 (IntKind.wrap .i64 (y1 + 1))))) else (some (Sum.inl ())))
def impl_hasIntF (n : Nat) (x0 : (List Int)) (x1 : Int) : Option (Bool) :=
  ((impl_hasInt_L2 n n x0 x1 0).bind fun o => match o with | .inl _ => (impl_hasInt_J1 n) | .inr r => some r)
/-- loop.example/g00326/impl.hasInt -/
theorem impl_hasInt (n : Nat) (x0 : (List Int)) (x1 : Int) (r : Bool) (H : impl_hasIntF n x0 x1 = some r) : LCall Try.prog 72 [.val false [.sl false 1 (CV.frzEs (x0.map intRow))], .val false [.lit (.int .i64 x1)]] [.val false [.lit (.bool r)]] [] := by
  refine LCall.of_body tOk Try.func72 rfl (c := (.seq (.region 0 (rg Try.f72 0) false) (.seq (.seq (.region 1 (rg Try.f72 1) false) (.block 0 (.loop (.seq (.region 2 (rg Try.f72 2) false) (.seq (.cond (.tmp 10) .skip (.exit 0)) (.seq (.block 1 (.seq (.region 3 (rg Try.f72 3) false) (.seq (.region 4 (rg Try.f72 4) false) (.cond (.tmp 15) (.seq (.region 5 (rg Try.f72 5) false) .ret) .skip)))) (.region 6 (rg Try.f72 6) false))))))) (.seq (.region 7 (rg Try.f72 7) false) .ret)))) (by kernel_rfl) (Nat.le_of_ble_eq_true (by kernel_rfl)) 0 (rs := [.tmp 4]) rfl [] .nil [(false, [.lit (.bool r)])] [] [] fun cx => ?_
  show Tr _ _ _ ⟨17, 0, [(0, .val false [.sl false 1 (CV.frzEs (x0.map intRow))]), (1, .val false [.lit (.int .i64 x1)])], []⟩ _
  unfold impl_hasIntF at H
  refine Tr.rs ?_
  refine LAt.runU tOk 1 (by kernel_rfl) ?_
  refine LAt.doneU [4, 0, 1] [] (by kernel_rfl) ?_
  refine Tr.seq ?_
  refine Tr.rs ?_
  refine LAt.runU tOk 1 (by kernel_rfl) ?_
  refine LAt.lenE tOk (t := 27) (ty := 3) (e := 3) (x := (.tmp 7)) (d := 8) (g := none) ⟨(.slot 7), [], 0, false, 1, (CV.frzEs (x0.map intRow))⟩ (x0).length _ (by kernel_rfl) (by kernel_rfl) (by kernel_rfl) (by kernel_rfl) (by kernel_rfl) (frz_len _ _) rfl ?_
  refine LAt.runU tOk 1 (by kernel_rfl) ?_
  refine LAt.doneU [9, 8, 7, 4, 1] [] (by kernel_rfl) ?_
  obtain ⟨o2, eo2, Ho2⟩ := bind_some H
  clear H
  refine Tr.mid (ι := Unit) (fun v => ⟨17, 0, [(4, .val false [.lit (.bool false)])], []⟩) (fun v => impl_hasInt_J1 n = some r) ?_ ?_
  · refine Tr.block ?_
    refine Tr.loop (ι := Nat × (Int)) (fun v => ⟨17, 0, [(9, .val false [.lit (.int .i64 v.2)]), (8, .val false [.lit (.int .i64 (x0.length : Int))]), (7, .val false [.sl false 1 (CV.frzEs (x0.map intRow))]), (4, .val false [.lit (.bool false)]), (1, .val false [.lit (.int .i64 x1)])], []⟩) (fun v => impl_hasInt_L2 n v.1 x0 x1 v.2 = some o2) (fun v => v.1) (n, 0) eo2 (St.sub_of [9, 8, 7, 4, 1] [] (by kernel_rfl)) ?_
    rintro ⟨mo2, y1⟩ H
    have H : impl_hasInt_L2 n mo2 x0 x1 y1 = some o2 := H
    obtain _ | mo2 := mo2
    · cases (show (none : Option _) = some o2 from H)
    · rw [impl_hasInt_L2] at H
      refine Tr.rs ?_
      refine LAt.runU tOk 1 (by kernel_rfl) ?_
      refine LAt.doneU [10, 9, 8, 7, 4, 1] [] (by kernel_rfl) ?_
      refine Tr.seq ?_
      refine Tr.to ⟨17, 0, [(10, .val false [.lit (.bool (decide (y1 < (x0.length : Int))))]), (9, .val false [.lit (.int .i64 y1)]), (8, .val false [.lit (.int .i64 (x0.length : Int))]), (7, .val false [.sl false 1 (CV.frzEs (x0.map intRow))]), (4, .val false [.lit (.bool false)]), (1, .val false [.lit (.int .i64 x1)])], []⟩ (by kernel_rfl) ?_
      cases h1 : (decide (y1 < (x0.length : Int)))
      · have H := bifF h1 H
        refine Tr.cond (b := false) (by kernel_rfl) (fun h => nomatch h) (fun _ => ?_)
        refine Tr.exit ?_
        refine And.intro (fun _ => ?_) (fun h => absurd rfl h)
        have H := Option.some.inj H
        subst H
        have H := Ho2
        dsimp only at H
        exact Exists.intro () (And.intro H (St.sub_of [4] [] (by kernel_rfl)))
      · have H := bifT h1 H
        refine Tr.cond (b := true) (by kernel_rfl) (fun _ => ?_) (fun h => nomatch h)
        refine Tr.skip ?_
        show Tr _ _ _ _ _
        refine Tr.seq ?_
        refine Tr.block ?_
        refine Tr.rs ?_
        obtain ⟨v3, ev3, H⟩ := bind_some H
        refine LAt.indexF tOk (t := 27) (ty := 0) (x := (.tmp 7)) (y := (.tmp 9)) (d := 11) (g := none) ⟨(.slot 7), [], 0, false, 1, (CV.frzEs (x0.map intRow))⟩ y1 [.lit (.int .i64 v3)] _ (by kernel_rfl) (by kernel_rfl) (by kernel_rfl) (by kernel_rfl) rfl (idx_isF ev3) rfl ?_
        refine LAt.runU tOk 2 (by kernel_rfl) ?_
        refine LAt.doneU [6, 12, 11, 10, 9, 8, 7, 4, 1] [] (by kernel_rfl) ?_
        refine Tr.rs ?_
        refine LAt.runU tOk 3 (by kernel_rfl) ?_
        refine LAt.doneU [15, 14, 13, 6, 12, 11, 10, 9, 8, 7, 4, 1] [] (by kernel_rfl) ?_
        refine Tr.to ⟨17, 0, [(15, .val false [.lit (.bool (v3 == x1))]), (14, .val false [.lit (.int .i64 x1)]), (13, .val false [.lit (.int .i64 v3)]), (6, .val false [.lit (.int .i64 v3)]), (12, .val false [.lit (.int .i64 v3)]), (11, .fad ([.lit (.int .i64 v3)])), (10, .val false [.lit (.bool true)]), (9, .val false [.lit (.int .i64 y1)]), (8, .val false [.lit (.int .i64 (x0.length : Int))]), (7, .val false [.sl false 1 (CV.frzEs (x0.map intRow))]), (4, .val false [.lit (.bool false)]), (1, .val false [.lit (.int .i64 x1)])], []⟩ (by kernel_rfl) ?_
        cases h2 : (v3 == x1)
        · have H := bifF h2 H
          refine Tr.cond (b := false) (by kernel_rfl) (fun h => nomatch h) (fun _ => ?_)
          refine Tr.skip ?_
          show Tr _ _ _ _ _
          refine Tr.at ?_
          refine LAt.runU tOk 2 (by kernel_rfl) ?_
          refine LAt.doneU [9, 16, 15, 14, 13, 6, 12, 11, 10, 8, 7, 4, 1] [] (by kernel_rfl) ?_
          exact Exists.intro (mo2, (IntKind.wrap .i64 (y1 + 1))) (And.intro H (And.intro (Nat.lt_succ_self mo2) (St.sub_of [9, 8, 7, 4, 1] [] (by kernel_rfl))))
        · have H := bifT h2 H
          refine Tr.cond (b := true) (by kernel_rfl) (fun _ => ?_) (fun h => nomatch h)
          refine Tr.rs ?_
          refine LAt.runU tOk 1 (by kernel_rfl) ?_
          refine LAt.doneU [4, 15, 14, 13, 6, 12, 11, 10, 9, 8, 7, 1] [] (by kernel_rfl) ?_
          refine Tr.ret ?_
          have H := Option.some.inj H
          subst H
          have H := Ho2
          dsimp only at H
          have H := Option.some.inj H
          subst H
          exact Fin.of _ [(false, [.lit (.bool true)])] (by kernel_rfl) rfl rfl
  · rintro _ H
    have H : (impl_hasInt_J1 n) = some r := H
    unfold impl_hasInt_J1 at H
    show Tr _ _ _ _ _
    refine Tr.rs ?_
    refine LAt.runU tOk 1 (by kernel_rfl) ?_
    refine LAt.doneU [4] [] (by kernel_rfl) ?_
    refine Tr.ret ?_
    have H := Option.some.inj H
    subst H
    exact Fin.of _ [(false, [.lit (.bool false)])] (by kernel_rfl) rfl rfl

def impl_Loops_J1 (n : Nat) : Option (Bool) :=
  (some false)
def impl_Loops_L2 (n : Nat) : Nat → Net → (List Int) → Int → Option ((Unit) ⊕ (Bool))
  | 0, _, _, _ => none
  | mo2 + 1, x0, x1, y1 => (bif (decide (y1 < (x1.length : Int))) then ((idx x1 y1).bind fun v3 => ((impl_inF n v3 0 (IntKind.wrap .i64 ((x0.Links.length : Int) - 1))).bind fun r4 => (bif (!r4) then (impl_Loops_L2 n mo2 x0 x1 (IntKind.wrap .i64 (y1 + 1))) else (bif (decide ((0 : Int) ≤ 0) && (decide ((0 : Int) ≤ y1) && decide ((y1 : Int) ≤ (x1.length : Int)))) then ((impl_copyIntsF n ((x1.drop ((0 : Int)).toNat).take (((y1 : Int)).toNat - ((0 : Int)).toNat))).bind fun r6 => (bif (decide ((0 : Int) ≤ (IntKind.wrap .i64 (y1 + 1))) && (decide (((IntKind.wrap .i64 (y1 + 1)) : Int) ≤ (x1.length : Int)) && decide (((x1.length : Int) : Int) ≤ (x1.length : Int)))) then (bif (decide (r6.length + ((x1.drop (((IntKind.wrap .i64 (y1 + 1)) : Int)).toNat).take ((((x1.length : Int) : Int)).toNat - (((IntKind.wrap .i64 (y1 + 1)) : Int)).toNat)).length ≤ 268435456)) then ((idx x0.Links v3).bind fun v9 => ((impl_JoinedF n x0 v9.A (r6 ++ ((x1.drop (((IntKind.wrap .i64 (y1 + 1)) : Int)).toNat).take ((((x1.length : Int) : Int)).toNat - (((IntKind.wrap .i64 (y1 + 1)) : Int)).toNat)))).bind fun r10 => ((idx x0.Links v3).bind fun v11 => ((impl_hasIntF n r10 v11.B).bind fun r12 => (bif r12 then (some (Sum.inr true)) else (impl_Loops_L2 n mo2 x0 x1 (IntKind.wrap .i64 (y1 + 1)))))))) else none) else none)) else none)))) else (some (Sum.inl ())))
def impl_LoopsF (n : Nat) (x0 : Net) (x1 : (List Int)) : Option (Bool) :=
  ((impl_Loops_L2 n n x0 x1 0).bind fun o => match o with | .inl _ => (impl_Loops_J1 n) | .inr r => some r)
/-- loop.example/g00326/impl.Loops -/
theorem impl_Loops (n : Nat) (x0 : Net) (x1 : (List Int)) (r : Bool) (H : impl_LoopsF n x0 x1 = some r) : LCall Try.prog 19 [.val true (CV.frzRow (Net.row x0)), .val false [.sl false 1 (CV.frzEs (x1.map intRow))]] [.val false [.lit (.bool r)]] [] := by
  refine LCall.of_body tOk Try.func19 rfl (c := (.seq (.region 0 (rg Try.f19 0) false) (.seq (.seq (.region 1 (rg Try.f19 1) false) (.block 0 (.loop (.seq (.region 2 (rg Try.f19 2) false) (.seq (.cond (.tmp 11) .skip (.exit 0)) (.seq (.block 1 (.seq (.region 3 (rg Try.f19 3) false) (.seq (.seq (.region 4 (rg Try.f19 4) false) (.cond (.tmp 21) (.exit 1) .skip)) (.seq (.region 5 (rg Try.f19 5) true) (.seq (.region 6 (rg Try.f19 6) true) (.cond (.tmp 46) (.seq (.region 7 (rg Try.f19 7) false) .ret) .skip)))))) (.region 8 (rg Try.f19 8) false))))))) (.seq (.region 9 (rg Try.f19 9) false) .ret)))) (by kernel_rfl) (Nat.le_of_ble_eq_true (by kernel_rfl)) 0 (rs := [.tmp 4]) rfl [] .nil [(false, [.lit (.bool r)])] [] [] fun cx => ?_
  show Tr _ _ _ ⟨48, 0, [(0, .val true (CV.frzRow (Net.row x0))), (1, .val false [.sl false 1 (CV.frzEs (x1.map intRow))])], []⟩ _
  unfold impl_LoopsF at H
  refine Tr.rs ?_
  refine LAt.runU tOk 2 (by kernel_rfl) ?_
  refine LAt.doneU [4, 2, 1] [2] (by kernel_rfl) ?_
  refine Tr.seq ?_
  refine Tr.rs ?_
  refine LAt.runU tOk 1 (by kernel_rfl) ?_
  refine LAt.lenE tOk (t := 27) (ty := 3) (e := 3) (x := (.tmp 8)) (d := 9) (g := none) ⟨(.slot 8), [], 0, false, 1, (CV.frzEs (x1.map intRow))⟩ (x1).length _ (by kernel_rfl) (by kernel_rfl) (by kernel_rfl) (by kernel_rfl) (by kernel_rfl) (frz_len _ _) rfl ?_
  refine LAt.runU tOk 1 (by kernel_rfl) ?_
  refine LAt.doneU [10, 9, 8, 4, 2, 1] [2] (by kernel_rfl) ?_
  obtain ⟨o2, eo2, Ho2⟩ := bind_some H
  clear H
  refine Tr.mid (ι := Unit) (fun v => ⟨48, 0, [(4, .val false [.lit (.bool false)])], []⟩) (fun v => impl_Loops_J1 n = some r) ?_ ?_
  · refine Tr.block ?_
    refine Tr.loop (ι := Nat × (Int)) (fun v => ⟨48, 0, [(10, .val false [.lit (.int .i64 v.2)]), (9, .val false [.lit (.int .i64 (x1.length : Int))]), (8, .val false [.sl false 1 (CV.frzEs (x1.map intRow))]), (4, .val false [.lit (.bool false)]), (2, .adr (.box 2) [(0, 0)] 3 0), (1, .val false [.sl false 1 (CV.frzEs (x1.map intRow))])], [(2, (CV.frzRow (Net.row x0)))]⟩) (fun v => impl_Loops_L2 n v.1 x0 x1 v.2 = some o2) (fun v => v.1) (n, 0) eo2 (St.sub_of [10, 9, 8, 4, 2, 1] [2] (by kernel_rfl)) ?_
    rintro ⟨mo2, y1⟩ H
    have H : impl_Loops_L2 n mo2 x0 x1 y1 = some o2 := H
    obtain _ | mo2 := mo2
    · cases (show (none : Option _) = some o2 from H)
    · rw [impl_Loops_L2] at H
      refine Tr.rs ?_
      refine LAt.runU tOk 1 (by kernel_rfl) ?_
      refine LAt.doneU [11, 10, 9, 8, 4, 2, 1] [2] (by kernel_rfl) ?_
      refine Tr.seq ?_
      refine Tr.to ⟨48, 0, [(11, .val false [.lit (.bool (decide (y1 < (x1.length : Int))))]), (10, .val false [.lit (.int .i64 y1)]), (9, .val false [.lit (.int .i64 (x1.length : Int))]), (8, .val false [.sl false 1 (CV.frzEs (x1.map intRow))]), (4, .val false [.lit (.bool false)]), (2, .adr (.box 2) [(0, 0)] 3 0), (1, .val false [.sl false 1 (CV.frzEs (x1.map intRow))])], [(2, (CV.frzRow (Net.row x0)))]⟩ (by kernel_rfl) ?_
      cases h1 : (decide (y1 < (x1.length : Int)))
      · have H := bifF h1 H
        refine Tr.cond (b := false) (by kernel_rfl) (fun h => nomatch h) (fun _ => ?_)
        refine Tr.exit ?_
        refine And.intro (fun _ => ?_) (fun h => absurd rfl h)
        have H := Option.some.inj H
        subst H
        have H := Ho2
        dsimp only at H
        exact Exists.intro () (And.intro H (St.sub_of [4] [] (by kernel_rfl)))
      · have H := bifT h1 H
        refine Tr.cond (b := true) (by kernel_rfl) (fun _ => ?_) (fun h => nomatch h)
        refine Tr.skip ?_
        show Tr _ _ _ _ _
        refine Tr.seq ?_
        refine Tr.block ?_
        refine Tr.rs ?_
        refine LAt.runU tOk 1 (by kernel_rfl) ?_
        obtain ⟨v3, ev3, H⟩ := bind_some H
        refine LAt.indexF tOk (t := 27) (ty := 0) (x := (.tmp 8)) (y := (.tmp 10)) (d := 13) (g := none) ⟨(.slot 8), [], 0, false, 1, (CV.frzEs (x1.map intRow))⟩ y1 [.lit (.int .i64 v3)] _ (by kernel_rfl) (by kernel_rfl) (by kernel_rfl) (by kernel_rfl) rfl (idx_isF ev3) rfl ?_
        refine LAt.runU tOk 3 (by kernel_rfl) ?_
        refine LAt.doneU [6, 5, 14, 13, 12, 11, 10, 9, 8, 4, 2, 1] [2] (by kernel_rfl) ?_
        refine Tr.seq ?_
        refine Tr.rs ?_
        refine LAt.runU tOk 3 (by kernel_rfl) ?_
        refine LAt.lenE tOk (t := 31) (ty := 3) (e := 96) (x := (.tmp 17)) (d := 18) (g := none) ⟨(.slot 17), [], 0, false, 4, (CV.frzEs (x0.Links.map Link.row))⟩ (x0.Links).length _ (by kernel_rfl) (by kernel_rfl) (by kernel_rfl) (by kernel_rfl) (by kernel_rfl) (frz_len _ _) rfl ?_
        refine LAt.runU tOk 1 (by kernel_rfl) ?_
        obtain ⟨r4, er4, H⟩ := bind_some H
        refine LAt.callU tOk [.rd, .rd, .rd] (f := 70) (av := #[.tmp 15, .const (.int .i64 0), .tmp 19]) (ats := #[3, 3, 3]) (d := (some 20)) (ty := 4) (g := none) (by kernel_rfl) (by kernel_rfl) (by kernel_rfl) [] (impl_in n v3 0 (IntKind.wrap .i64 ((x0.Links.length : Int) - 1)) r4 er4) (by kernel_rfl) (.inl rfl) ?_
        refine LAt.runU tOk 1 (by kernel_rfl) ?_
        refine LAt.doneU [21, 20, 19, 18, 17, 16, 15, 6, 5, 14, 13, 12, 11, 10, 9, 8, 4, 2, 1] [2] (by kernel_rfl) ?_
        refine Tr.to ⟨48, 0, [(21, .val false [.lit (.bool (!r4))]), (20, .val false [.lit (.bool r4)]), (19, .val false [.lit (.int .i64 (IntKind.wrap .i64 ((x0.Links.length : Int) - 1)))]), (18, .val false [.lit (.int .i64 (x0.Links.length : Int))]), (17, .val false [.sl false 4 (CV.frzEs (x0.Links.map Link.row))]), (16, .adr (.box 2) [(0, 0)] 3 1), (15, .val false [.lit (.int .i64 v3)]), (6, .val false [.lit (.int .i64 v3)]), (5, .val false [.lit (.int .i64 y1)]), (14, .val false [.lit (.int .i64 v3)]), (13, .fad ([.lit (.int .i64 v3)])), (12, .val false [.lit (.int .i64 y1)]), (11, .val false [.lit (.bool true)]), (10, .val false [.lit (.int .i64 y1)]), (9, .val false [.lit (.int .i64 (x1.length : Int))]), (8, .val false [.sl false 1 (CV.frzEs (x1.map intRow))]), (4, .val false [.lit (.bool false)]), (2, .adr (.box 2) [(0, 0)] 3 0), (1, .val false [.sl false 1 (CV.frzEs (x1.map intRow))])], [(2, (CV.frzRow (Net.row x0)))]⟩ (by kernel_rfl) ?_
        cases h2 : (!r4)
        · have H := bifF h2 H
          refine Tr.cond (b := false) (by kernel_rfl) (fun h => nomatch h) (fun _ => ?_)
          refine Tr.skip ?_
          show Tr _ _ _ _ _
          obtain ⟨hg5, H⟩ := guard_some H
          obtain ⟨r6, er6, H⟩ := bind_some H
          obtain ⟨hg7, H⟩ := guard_some H
          obtain ⟨hg8, H⟩ := guard_some H
          refine Tr.draws mixed 10 (by kernel_rfl) ⟨48, 0, [(7, .val false [.sl true 1 ((r6 ++ ((x1.drop (((IntKind.wrap .i64 (y1 + 1)) : Int)).toNat).take ((((x1.length : Int) : Int)).toNat - (((IntKind.wrap .i64 (y1 + 1)) : Int)).toNat))).map intRow)]), (29, .val false [.sl false 1 (CV.frzEs (((x1.drop (((IntKind.wrap .i64 (y1 + 1)) : Int)).toNat).take ((((x1.length : Int) : Int)).toNat - (((IntKind.wrap .i64 (y1 + 1)) : Int)).toNat)).map intRow))]), (28, .val false [.lit (.int .i64 (IntKind.wrap .i64 (y1 + 1)))]), (27, .val false [.lit (.int .i64 y1)]), (26, .val false [.sl false 1 (CV.frzEs (x1.map intRow))]), (24, .val false [.sl false 1 (CV.frzEs (((x1.drop ((0 : Int)).toNat).take (((y1 : Int)).toNat - ((0 : Int)).toNat)).map intRow))]), (23, .val false [.lit (.int .i64 y1)]), (22, .val false [.sl false 1 (CV.frzEs (x1.map intRow))]), (21, .val false [.lit (.bool false)]), (20, .val false [.lit (.bool r4)]), (19, .val false [.lit (.int .i64 (IntKind.wrap .i64 ((x0.Links.length : Int) - 1)))]), (18, .val false [.lit (.int .i64 (x0.Links.length : Int))]), (17, .val false [.sl false 4 (CV.frzEs (x0.Links.map Link.row))]), (16, .adr (.box 2) [(0, 0)] 3 1), (15, .val false [.lit (.int .i64 v3)]), (6, .val false [.lit (.int .i64 v3)]), (5, .val false [.lit (.int .i64 y1)]), (14, .val false [.lit (.int .i64 v3)]), (13, .fad ([.lit (.int .i64 v3)])), (12, .val false [.lit (.int .i64 y1)]), (11, .val false [.lit (.bool true)]), (10, .val false [.lit (.int .i64 y1)]), (9, .val false [.lit (.int .i64 (x1.length : Int))]), (8, .val false [.sl false 1 (CV.frzEs (x1.map intRow))]), (4, .val false [.lit (.bool false)]), (2, .adr (.box 2) [(0, 0)] 3 0), (1, .val false [.sl false 1 (CV.frzEs (x1.map intRow))])], [(2, (CV.frzRow (Net.row x0)))]⟩ (fun cx => ?_) ?_
          · refine AT.runU tOk [(0, []), (1, []), (4, []), (5, []), (6, [])] 5 [] [6, 5, 4, 1, 0] rfl (by kernel_rfl) (fun cx => ?_)
            refine AT.big2 tOk 2 7 (by kernel_rfl) (And.intro (by kernel_rfl) ?_) (And.intro (by kernel_rfl) ?_)
            · refine LAt.cutG tOk (t := 27) (ty := 27) (e := 3) (x := (.tmp 22)) (lo := none) (hi := (some (.tmp 23))) (d := 24) (g := none) ⟨.int .i64, 1, 8, [.lit (.int .i64 0)]⟩ intRow x1 ⟨(.slot 22), [], 0, false, 1, (CV.frzEs (x1.map intRow))⟩ 0 y1 (by kernel_rfl) (by kernel_rfl) (by kernel_rfl) (by kernel_rfl) (by kernel_rfl) (by kernel_rfl) rfl (by kernel_rfl) rfl (by kernel_rfl) (by kernel_rfl) hg5 ?_
              refine LAt.fin (by kernel_rfl) (And.intro (And.intro (by kernel_rfl) (by kernel_rfl)) ?_)
              refine AT.big2 tOk 3 7 (by kernel_rfl) (And.intro (by kernel_rfl) ?_) (And.intro (by kernel_rfl) ?_)
              · refine LAt.callU tOk [.rd] (f := 71) (av := #[.tmp 24]) (ats := #[27]) (d := (some 25)) (ty := 27) (g := none) (by kernel_rfl) (by kernel_rfl) (by kernel_rfl) [] (impl_copyInts n ((x1.drop ((0 : Int)).toNat).take (((y1 : Int)).toNat - ((0 : Int)).toNat)) r6 er6) (by kernel_rfl) (.inl rfl) ?_
                refine LAt.fin (by kernel_rfl) (And.intro (And.intro (by kernel_rfl) (by kernel_rfl)) ?_)
                refine AT.big1 tOk 7 (by kernel_rfl) (by kernel_rfl) ?_
                refine LAt.cutG tOk (t := 27) (ty := 27) (e := 3) (x := (.tmp 26)) (lo := (some (.tmp 28))) (hi := none) (d := 29) (g := none) ⟨.int .i64, 1, 8, [.lit (.int .i64 0)]⟩ intRow x1 ⟨(.slot 26), [], 0, false, 1, (CV.frzEs (x1.map intRow))⟩ (IntKind.wrap .i64 (y1 + 1)) (x1.length : Int) (by kernel_rfl) (by kernel_rfl) (by kernel_rfl) (by kernel_rfl) (by kernel_rfl) (by kernel_rfl) rfl (by kernel_rfl) rfl (by kernel_rfl) (by kernel_rfl) hg7 ?_
                refine LAt.fin (by kernel_rfl) (And.intro (And.intro (by kernel_rfl) (by kernel_rfl)) ?_)
                refine AT.big1 tOk 8 (by kernel_rfl) (by kernel_rfl) ?_
                refine LAt.appCU tOk (t := 27) (ty := 27) (e := 3) (x := (.tmp 25)) (y := (.tmp 29)) (d := 30) (g := none) ⟨.int .i64, 1, 8, [.lit (.int .i64 0)]⟩ intRow r6 ((x1.drop (((IntKind.wrap .i64 (y1 + 1)) : Int)).toNat).take ((((x1.length : Int) : Int)).toNat - (((IntKind.wrap .i64 (y1 + 1)) : Int)).toNat)) ⟨(.slot 29), [], 0, false, 1, (CV.frzEs (((x1.drop (((IntKind.wrap .i64 (y1 + 1)) : Int)).toNat).take ((((x1.length : Int) : Int)).toNat - (((IntKind.wrap .i64 (y1 + 1)) : Int)).toNat)).map intRow))⟩ (by kernel_rfl) (by kernel_rfl) (by kernel_rfl) (by kernel_rfl) (by kernel_rfl) (by kernel_rfl) (by kernel_rfl) (by kernel_rfl) (by kernel_rfl) (by kernel_rfl) (by kernel_rfl) (.inr rfl) (fun _ => rfl) (fun _ => rfl) hg8 ?_
                refine LAt.fin (by kernel_rfl) (And.intro (And.intro (by kernel_rfl) (by kernel_rfl)) ?_)
                refine AT.big1 tOk 9 (by kernel_rfl) (by kernel_rfl) ?_
                refine LAt.moveU (T := lk tab) (ty := 27) (x := (.tmp 30)) (d := 7) (g := none) false [.sl true 1 ((r6 ++ ((x1.drop (((IntKind.wrap .i64 (y1 + 1)) : Int)).toNat).take ((((x1.length : Int) : Int)).toNat - (((IntKind.wrap .i64 (y1 + 1)) : Int)).toNat))).map intRow)] (by kernel_rfl) (by kernel_rfl) (by kernel_rfl) (by kernel_rfl) (by kernel_rfl) ?_
                refine LAt.fin (by kernel_rfl) (And.intro (And.intro (by kernel_rfl) (by kernel_rfl)) ?_)
                exact AT.done [7, 29, 28, 27, 26, 24, 23, 22, 21, 20, 19, 18, 17, 16, 15, 6, 5, 14, 13, 12, 11, 10, 9, 8, 4, 2, 1] [2] _ (by kernel_rfl) (by kernel_rfl) rfl
              · refine LAt.cutG tOk (t := 27) (ty := 27) (e := 3) (x := (.tmp 26)) (lo := (some (.tmp 28))) (hi := none) (d := 29) (g := none) ⟨.int .i64, 1, 8, [.lit (.int .i64 0)]⟩ intRow x1 ⟨(.slot 26), [], 0, false, 1, (CV.frzEs (x1.map intRow))⟩ (IntKind.wrap .i64 (y1 + 1)) (x1.length : Int) (by kernel_rfl) (by kernel_rfl) (by kernel_rfl) (by kernel_rfl) (by kernel_rfl) (by kernel_rfl) rfl (by kernel_rfl) rfl (by kernel_rfl) (by kernel_rfl) hg7 ?_
                refine LAt.fin (by kernel_rfl) (And.intro (And.intro (by kernel_rfl) (by kernel_rfl)) ?_)
                refine AT.big1 tOk 3 (by kernel_rfl) (by kernel_rfl) ?_
                refine LAt.callU tOk [.rd] (f := 71) (av := #[.tmp 24]) (ats := #[27]) (d := (some 25)) (ty := 27) (g := none) (by kernel_rfl) (by kernel_rfl) (by kernel_rfl) [] (impl_copyInts n ((x1.drop ((0 : Int)).toNat).take (((y1 : Int)).toNat - ((0 : Int)).toNat)) r6 er6) (by kernel_rfl) (.inl rfl) ?_
                refine LAt.fin (by kernel_rfl) (And.intro (And.intro (by kernel_rfl) (by kernel_rfl)) ?_)
                refine AT.big1 tOk 8 (by kernel_rfl) (by kernel_rfl) ?_
                refine LAt.appCU tOk (t := 27) (ty := 27) (e := 3) (x := (.tmp 25)) (y := (.tmp 29)) (d := 30) (g := none) ⟨.int .i64, 1, 8, [.lit (.int .i64 0)]⟩ intRow r6 ((x1.drop (((IntKind.wrap .i64 (y1 + 1)) : Int)).toNat).take ((((x1.length : Int) : Int)).toNat - (((IntKind.wrap .i64 (y1 + 1)) : Int)).toNat)) ⟨(.slot 29), [], 0, false, 1, (CV.frzEs (((x1.drop (((IntKind.wrap .i64 (y1 + 1)) : Int)).toNat).take ((((x1.length : Int) : Int)).toNat - (((IntKind.wrap .i64 (y1 + 1)) : Int)).toNat)).map intRow))⟩ (by kernel_rfl) (by kernel_rfl) (by kernel_rfl) (by kernel_rfl) (by kernel_rfl) (by kernel_rfl) (by kernel_rfl) (by kernel_rfl) (by kernel_rfl) (by kernel_rfl) (by kernel_rfl) (.inr rfl) (fun _ => rfl) (fun _ => rfl) hg8 ?_
                refine LAt.fin (by kernel_rfl) (And.intro (And.intro (by kernel_rfl) (by kernel_rfl)) ?_)
                refine AT.big1 tOk 9 (by kernel_rfl) (by kernel_rfl) ?_
                refine LAt.moveU (T := lk tab) (ty := 27) (x := (.tmp 30)) (d := 7) (g := none) false [.sl true 1 ((r6 ++ ((x1.drop (((IntKind.wrap .i64 (y1 + 1)) : Int)).toNat).take ((((x1.length : Int) : Int)).toNat - (((IntKind.wrap .i64 (y1 + 1)) : Int)).toNat))).map intRow)] (by kernel_rfl) (by kernel_rfl) (by kernel_rfl) (by kernel_rfl) (by kernel_rfl) ?_
                refine LAt.fin (by kernel_rfl) (And.intro (And.intro (by kernel_rfl) (by kernel_rfl)) ?_)
                exact AT.done [7, 29, 28, 27, 26, 24, 23, 22, 21, 20, 19, 18, 17, 16, 15, 6, 5, 14, 13, 12, 11, 10, 9, 8, 4, 2, 1] [2] _ (by kernel_rfl) (by kernel_rfl) rfl
            · refine LAt.cutG tOk (t := 27) (ty := 27) (e := 3) (x := (.tmp 26)) (lo := (some (.tmp 28))) (hi := none) (d := 29) (g := none) ⟨.int .i64, 1, 8, [.lit (.int .i64 0)]⟩ intRow x1 ⟨(.slot 26), [], 0, false, 1, (CV.frzEs (x1.map intRow))⟩ (IntKind.wrap .i64 (y1 + 1)) (x1.length : Int) (by kernel_rfl) (by kernel_rfl) (by kernel_rfl) (by kernel_rfl) (by kernel_rfl) (by kernel_rfl) rfl (by kernel_rfl) rfl (by kernel_rfl) (by kernel_rfl) hg7 ?_
              refine LAt.fin (by kernel_rfl) (And.intro (And.intro (by kernel_rfl) (by kernel_rfl)) ?_)
              refine AT.big1 tOk 2 (by kernel_rfl) (by kernel_rfl) ?_
              refine LAt.cutG tOk (t := 27) (ty := 27) (e := 3) (x := (.tmp 22)) (lo := none) (hi := (some (.tmp 23))) (d := 24) (g := none) ⟨.int .i64, 1, 8, [.lit (.int .i64 0)]⟩ intRow x1 ⟨(.slot 22), [], 0, false, 1, (CV.frzEs (x1.map intRow))⟩ 0 y1 (by kernel_rfl) (by kernel_rfl) (by kernel_rfl) (by kernel_rfl) (by kernel_rfl) (by kernel_rfl) rfl (by kernel_rfl) rfl (by kernel_rfl) (by kernel_rfl) hg5 ?_
              refine LAt.fin (by kernel_rfl) (And.intro (And.intro (by kernel_rfl) (by kernel_rfl)) ?_)
              refine AT.big1 tOk 3 (by kernel_rfl) (by kernel_rfl) ?_
              refine LAt.callU tOk [.rd] (f := 71) (av := #[.tmp 24]) (ats := #[27]) (d := (some 25)) (ty := 27) (g := none) (by kernel_rfl) (by kernel_rfl) (by kernel_rfl) [] (impl_copyInts n ((x1.drop ((0 : Int)).toNat).take (((y1 : Int)).toNat - ((0 : Int)).toNat)) r6 er6) (by kernel_rfl) (.inl rfl) ?_
              refine LAt.fin (by kernel_rfl) (And.intro (And.intro (by kernel_rfl) (by kernel_rfl)) ?_)
              refine AT.big1 tOk 8 (by kernel_rfl) (by kernel_rfl) ?_
              refine LAt.appCU tOk (t := 27) (ty := 27) (e := 3) (x := (.tmp 25)) (y := (.tmp 29)) (d := 30) (g := none) ⟨.int .i64, 1, 8, [.lit (.int .i64 0)]⟩ intRow r6 ((x1.drop (((IntKind.wrap .i64 (y1 + 1)) : Int)).toNat).take ((((x1.length : Int) : Int)).toNat - (((IntKind.wrap .i64 (y1 + 1)) : Int)).toNat)) ⟨(.slot 29), [], 0, false, 1, (CV.frzEs (((x1.drop (((IntKind.wrap .i64 (y1 + 1)) : Int)).toNat).take ((((x1.length : Int) : Int)).toNat - (((IntKind.wrap .i64 (y1 + 1)) : Int)).toNat)).map intRow))⟩ (by kernel_rfl) (by kernel_rfl) (by kernel_rfl) (by kernel_rfl) (by kernel_rfl) (by kernel_rfl) (by kernel_rfl) (by kernel_rfl) (by kernel_rfl) (by kernel_rfl) (by kernel_rfl) (.inr rfl) (fun _ => rfl) (fun _ => rfl) hg8 ?_
              refine LAt.fin (by kernel_rfl) (And.intro (And.intro (by kernel_rfl) (by kernel_rfl)) ?_)
              refine AT.big1 tOk 9 (by kernel_rfl) (by kernel_rfl) ?_
              refine LAt.moveU (T := lk tab) (ty := 27) (x := (.tmp 30)) (d := 7) (g := none) false [.sl true 1 ((r6 ++ ((x1.drop (((IntKind.wrap .i64 (y1 + 1)) : Int)).toNat).take ((((x1.length : Int) : Int)).toNat - (((IntKind.wrap .i64 (y1 + 1)) : Int)).toNat))).map intRow)] (by kernel_rfl) (by kernel_rfl) (by kernel_rfl) (by kernel_rfl) (by kernel_rfl) ?_
              refine LAt.fin (by kernel_rfl) (And.intro (And.intro (by kernel_rfl) (by kernel_rfl)) ?_)
              exact AT.done [7, 29, 28, 27, 26, 24, 23, 22, 21, 20, 19, 18, 17, 16, 15, 6, 5, 14, 13, 12, 11, 10, 9, 8, 4, 2, 1] [2] _ (by kernel_rfl) (by kernel_rfl) rfl
          · obtain ⟨v9, ev9, H⟩ := bind_some H
            obtain ⟨r10, er10, H⟩ := bind_some H
            obtain ⟨v11, ev11, H⟩ := bind_some H
            obtain ⟨r12, er12, H⟩ := bind_some H
            refine Tr.draws mixed 16 (by kernel_rfl) ⟨48, 0, [(46, .val false [.lit (.bool r12)]), (39, .val false [.sl false 1 (CV.frzEs (r10.map intRow))]), (45, .val false [.lit (.int .i64 v11.B)]), (44, .fad (((Link.row v11).drop 2))), (43, .fad ((Link.row v11))), (42, .val false [.lit (.int .i64 v3)]), (41, .ref (.box 2) [(0, 0)] 3 1 1 false), (40, .adr (.box 2) [(0, 0)] 3 1), (38, .ref (.slot 7) [] 0 0 1 false), (37, .val false [.lit (.int .i64 v9.A)]), (36, .fad ((Link.row v9))), (35, .fad ((Link.row v9))), (34, .val false [.lit (.int .i64 v3)]), (33, .ref (.box 2) [(0, 0)] 3 1 1 false), (32, .adr (.box 2) [(0, 0)] 3 1), (31, .ref (.box 2) [(0, 0)] 3 0 3 true), (7, .val false [.sl true 1 ((r6 ++ ((x1.drop (((IntKind.wrap .i64 (y1 + 1)) : Int)).toNat).take ((((x1.length : Int) : Int)).toNat - (((IntKind.wrap .i64 (y1 + 1)) : Int)).toNat))).map intRow)]), (29, .val false [.sl false 1 (CV.frzEs (((x1.drop (((IntKind.wrap .i64 (y1 + 1)) : Int)).toNat).take ((((x1.length : Int) : Int)).toNat - (((IntKind.wrap .i64 (y1 + 1)) : Int)).toNat)).map intRow))]), (28, .val false [.lit (.int .i64 (IntKind.wrap .i64 (y1 + 1)))]), (27, .val false [.lit (.int .i64 y1)]), (26, .val false [.sl false 1 (CV.frzEs (x1.map intRow))]), (24, .val false [.sl false 1 (CV.frzEs (((x1.drop ((0 : Int)).toNat).take (((y1 : Int)).toNat - ((0 : Int)).toNat)).map intRow))]), (23, .val false [.lit (.int .i64 y1)]), (22, .val false [.sl false 1 (CV.frzEs (x1.map intRow))]), (21, .val false [.lit (.bool false)]), (20, .val false [.lit (.bool r4)]), (19, .val false [.lit (.int .i64 (IntKind.wrap .i64 ((x0.Links.length : Int) - 1)))]), (18, .val false [.lit (.int .i64 (x0.Links.length : Int))]), (17, .val false [.sl false 4 (CV.frzEs (x0.Links.map Link.row))]), (16, .adr (.box 2) [(0, 0)] 3 1), (15, .val false [.lit (.int .i64 v3)]), (6, .val false [.lit (.int .i64 v3)]), (5, .val false [.lit (.int .i64 y1)]), (14, .val false [.lit (.int .i64 v3)]), (13, .fad ([.lit (.int .i64 v3)])), (12, .val false [.lit (.int .i64 y1)]), (11, .val false [.lit (.bool true)]), (10, .val false [.lit (.int .i64 y1)]), (9, .val false [.lit (.int .i64 (x1.length : Int))]), (8, .val false [.sl false 1 (CV.frzEs (x1.map intRow))]), (4, .val false [.lit (.bool false)]), (2, .adr (.box 2) [(0, 0)] 3 0), (1, .val false [.sl false 1 (CV.frzEs (x1.map intRow))])], [(2, (CV.frzRow (Net.row x0)))]⟩ (fun cx => ?_) ?_
            · refine AT.runU tOk [(0, [8, 15]), (1, []), (2, [8, 15]), (3, [])] 12 [⟨[8, 15], 31, 32, 33⟩, ⟨[8, 15], 34, 2, 31⟩] [3, 2, 1, 0] rfl (by kernel_rfl) (fun cx => ?_)
              refine AT.indexF tOk 4 (t := 31) (ty := 0) (x := (.tmp 33)) (y := (.tmp 34)) (d := 35) (g := none) ⟨(.box 2), [(0, 0)], 1, false, 4, (CV.frzEs (x0.Links.map Link.row))⟩ v3 (Link.row v9) _ (by kernel_rfl) (by kernel_rfl) (by kernel_rfl) (by kernel_rfl) (by kernel_rfl) (by kernel_rfl) rfl (idx_isF ev9) rfl (fun cx => ?_)
              refine AT.runU tOk [(5, []), (6, []), (7, []), (9, []), (10, [15]), (11, [])] 5 [⟨[15], 31, 40, 41⟩, ⟨[8, 15], 31, 32, 33⟩, ⟨[8, 15], 34, 2, 31⟩] [11, 10, 9, 7, 6, 5, 4, 3, 2, 1, 0] rfl (by kernel_rfl) (fun cx => ?_)
              refine AT.indexF tOk 12 (t := 31) (ty := 0) (x := (.tmp 41)) (y := (.tmp 42)) (d := 43) (g := none) ⟨(.box 2), [(0, 0)], 1, false, 4, (CV.frzEs (x0.Links.map Link.row))⟩ v3 (Link.row v11) _ (by kernel_rfl) (by kernel_rfl) (by kernel_rfl) (by kernel_rfl) (by kernel_rfl) (by kernel_rfl) rfl (idx_isF ev11) rfl (fun cx => ?_)
              refine AT.runU tOk [(13, []), (14, [])] 2 [⟨[15], 31, 40, 41⟩, ⟨[8, 15], 31, 32, 33⟩, ⟨[8, 15], 34, 2, 31⟩] [14, 13, 12, 11, 10, 9, 7, 6, 5, 4, 3, 2, 1, 0] rfl (by kernel_rfl) (fun cx => ?_)
              refine AT.big1 tOk 8 (by kernel_rfl) (by kernel_rfl) ?_
              refine LAt.callU tOk [.rd, .rd, .rd] (f := 30) (av := #[.tmp 31, .tmp 37, .tmp 38]) (ats := #[34, 3, 27]) (d := (some 39)) (ty := 27) (g := none) (by kernel_rfl) (by kernel_rfl) (by kernel_rfl) [.slot 7] (impl_Joined n x0 v9.A (r6 ++ ((x1.drop (((IntKind.wrap .i64 (y1 + 1)) : Int)).toNat).take ((((x1.length : Int) : Int)).toNat - (((IntKind.wrap .i64 (y1 + 1)) : Int)).toNat))) r10 er10) (by kernel_rfl) (.inr (rets_cons (mine_cons (mine_sl (mine_map intRow_mine _)) mine_nil) rets_nil)) ?_
              refine LAt.fin (by kernel_rfl) (And.intro (And.intro (by kernel_rfl) (by kernel_rfl)) ?_)
              refine AT.big1 tOk 15 (by kernel_rfl) (by kernel_rfl) ?_
              refine LAt.callU tOk [.rd, .rd] (f := 72) (av := #[.tmp 39, .tmp 45]) (ats := #[27, 3]) (d := (some 46)) (ty := 4) (g := none) (by kernel_rfl) (by kernel_rfl) (by kernel_rfl) [] (impl_hasInt n r10 v11.B r12 er12) (by kernel_rfl) (.inl rfl) ?_
              refine LAt.fin (by kernel_rfl) (And.intro (And.intro (by kernel_rfl) (by kernel_rfl)) ?_)
              exact AT.done [46, 39, 45, 44, 43, 42, 41, 40, 38, 37, 36, 35, 34, 33, 32, 31, 7, 29, 28, 27, 26, 24, 23, 22, 21, 20, 19, 18, 17, 16, 15, 6, 5, 14, 13, 12, 11, 10, 9, 8, 4, 2, 1] [2] _ (by kernel_rfl) (by kernel_rfl) rfl
            · refine Tr.to ⟨48, 0, [(46, .val false [.lit (.bool r12)]), (39, .val false [.sl false 1 (CV.frzEs (r10.map intRow))]), (45, .val false [.lit (.int .i64 v11.B)]), (44, .fad (((Link.row v11).drop 2))), (43, .fad ((Link.row v11))), (42, .val false [.lit (.int .i64 v3)]), (41, .ref (.box 2) [(0, 0)] 3 1 1 false), (40, .adr (.box 2) [(0, 0)] 3 1), (38, .ref (.slot 7) [] 0 0 1 false), (37, .val false [.lit (.int .i64 v9.A)]), (36, .fad ((Link.row v9))), (35, .fad ((Link.row v9))), (34, .val false [.lit (.int .i64 v3)]), (33, .ref (.box 2) [(0, 0)] 3 1 1 false), (32, .adr (.box 2) [(0, 0)] 3 1), (31, .ref (.box 2) [(0, 0)] 3 0 3 true), (7, .val false [.sl true 1 ((r6 ++ ((x1.drop (((IntKind.wrap .i64 (y1 + 1)) : Int)).toNat).take ((((x1.length : Int) : Int)).toNat - (((IntKind.wrap .i64 (y1 + 1)) : Int)).toNat))).map intRow)]), (29, .val false [.sl false 1 (CV.frzEs (((x1.drop (((IntKind.wrap .i64 (y1 + 1)) : Int)).toNat).take ((((x1.length : Int) : Int)).toNat - (((IntKind.wrap .i64 (y1 + 1)) : Int)).toNat)).map intRow))]), (28, .val false [.lit (.int .i64 (IntKind.wrap .i64 (y1 + 1)))]), (27, .val false [.lit (.int .i64 y1)]), (26, .val false [.sl false 1 (CV.frzEs (x1.map intRow))]), (24, .val false [.sl false 1 (CV.frzEs (((x1.drop ((0 : Int)).toNat).take (((y1 : Int)).toNat - ((0 : Int)).toNat)).map intRow))]), (23, .val false [.lit (.int .i64 y1)]), (22, .val false [.sl false 1 (CV.frzEs (x1.map intRow))]), (21, .val false [.lit (.bool false)]), (20, .val false [.lit (.bool r4)]), (19, .val false [.lit (.int .i64 (IntKind.wrap .i64 ((x0.Links.length : Int) - 1)))]), (18, .val false [.lit (.int .i64 (x0.Links.length : Int))]), (17, .val false [.sl false 4 (CV.frzEs (x0.Links.map Link.row))]), (16, .adr (.box 2) [(0, 0)] 3 1), (15, .val false [.lit (.int .i64 v3)]), (6, .val false [.lit (.int .i64 v3)]), (5, .val false [.lit (.int .i64 y1)]), (14, .val false [.lit (.int .i64 v3)]), (13, .fad ([.lit (.int .i64 v3)])), (12, .val false [.lit (.int .i64 y1)]), (11, .val false [.lit (.bool true)]), (10, .val false [.lit (.int .i64 y1)]), (9, .val false [.lit (.int .i64 (x1.length : Int))]), (8, .val false [.sl false 1 (CV.frzEs (x1.map intRow))]), (4, .val false [.lit (.bool false)]), (2, .adr (.box 2) [(0, 0)] 3 0), (1, .val false [.sl false 1 (CV.frzEs (x1.map intRow))])], [(2, (CV.frzRow (Net.row x0)))]⟩ (by kernel_rfl) ?_
              cases h3 : r12
              · have H := bifF h3 H
                refine Tr.cond (b := false) (by kernel_rfl) (fun h => nomatch h) (fun _ => ?_)
                refine Tr.skip ?_
                show Tr _ _ _ _ _
                refine Tr.at ?_
                refine LAt.runU tOk 2 (by kernel_rfl) ?_
                refine LAt.doneU [10, 47, 46, 39, 45, 44, 43, 42, 41, 40, 38, 37, 36, 35, 34, 33, 32, 31, 7, 29, 28, 27, 26, 24, 23, 22, 21, 20, 19, 18, 17, 16, 15, 6, 5, 14, 13, 12, 11, 9, 8, 4, 2, 1] [2] (by kernel_rfl) ?_
                exact Exists.intro (mo2, (IntKind.wrap .i64 (y1 + 1))) (And.intro H (And.intro (Nat.lt_succ_self mo2) (St.sub_of [10, 9, 8, 4, 2, 1] [2] (by kernel_rfl))))
              · have H := bifT h3 H
                refine Tr.cond (b := true) (by kernel_rfl) (fun _ => ?_) (fun h => nomatch h)
                refine Tr.rs ?_
                refine LAt.runU tOk 1 (by kernel_rfl) ?_
                refine LAt.doneU [4, 46, 39, 45, 44, 43, 42, 41, 40, 38, 37, 36, 35, 34, 33, 32, 31, 7, 29, 28, 27, 26, 24, 23, 22, 21, 20, 19, 18, 17, 16, 15, 6, 5, 14, 13, 12, 11, 10, 9, 8, 2, 1] [2] (by kernel_rfl) ?_
                refine Tr.ret ?_
                have H := Option.some.inj H
                subst H
                have H := Ho2
                dsimp only at H
                have H := Option.some.inj H
                subst H
                exact Fin.of _ [(false, [.lit (.bool true)])] (by kernel_rfl) rfl rfl
        · have H := bifT h2 H
          refine Tr.cond (b := true) (by kernel_rfl) (fun _ => ?_) (fun h => nomatch h)
          refine Tr.exit ?_
          refine And.intro (fun _ => ?_) (fun h => absurd rfl h)
          show Tr _ _ _ _ _
          refine Tr.at ?_
          refine LAt.runU tOk 2 (by kernel_rfl) ?_
          refine LAt.doneU [10, 47, 21, 20, 19, 18, 17, 16, 15, 6, 5, 14, 13, 12, 11, 9, 8, 4, 2, 1] [2] (by kernel_rfl) ?_
          exact Exists.intro (mo2, (IntKind.wrap .i64 (y1 + 1))) (And.intro H (And.intro (Nat.lt_succ_self mo2) (St.sub_of [10, 9, 8, 4, 2, 1] [2] (by kernel_rfl))))
  · rintro _ H
    have H : (impl_Loops_J1 n) = some r := H
    unfold impl_Loops_J1 at H
    show Tr _ _ _ _ _
    refine Tr.rs ?_
    refine LAt.runU tOk 1 (by kernel_rfl) ?_
    refine LAt.doneU [4] [] (by kernel_rfl) ?_
    refine Tr.ret ?_
    have H := Option.some.inj H
    subst H
    exact Fin.of _ [(false, [.lit (.bool false)])] (by kernel_rfl) rfl rfl

def laws_eqVecF (n : Nat) (x0 : Vec) (x1 : Vec) : Option (Bool) :=
  (bif (x0.Root != x1.Root) then (some false) else (bif (x0.Cost != x1.Cost) then (some false) else (bif (x0.Hops != x1.Hops) then (some false) else (bif (x0.Bridge != x1.Bridge) then (some false) else (bif (x0.Port != x1.Port) then (some false) else (some true))))))
/-- loop.example/g00326/laws.eqVec -/
theorem laws_eqVec (n : Nat) (x0 : Vec) (x1 : Vec) (r : Bool) (H : laws_eqVecF n x0 x1 = some r) : LCall Try.prog 173 [.val true (CV.frzRow (Vec.row x0)), .val true (CV.frzRow (Vec.row x1))] [.val false [.lit (.bool r)]] [] := by
  refine LCall.of_body tOk Try.func173 rfl (c := (.seq (.region 0 (rg Try.f173 0) false) (.seq (.seq (.region 1 (rg Try.f173 1) false) (.cond (.tmp 9) (.seq (.region 2 (rg Try.f173 2) false) .ret) .skip)) (.seq (.seq (.region 3 (rg Try.f173 3) false) (.cond (.tmp 14) (.seq (.region 4 (rg Try.f173 4) false) .ret) .skip)) (.seq (.seq (.region 5 (rg Try.f173 5) false) (.cond (.tmp 19) (.seq (.region 6 (rg Try.f173 6) false) .ret) .skip)) (.seq (.seq (.region 7 (rg Try.f173 7) false) (.cond (.tmp 24) (.seq (.region 8 (rg Try.f173 8) false) .ret) .skip)) (.seq (.seq (.region 9 (rg Try.f173 9) false) (.cond (.tmp 29) (.seq (.region 10 (rg Try.f173 10) false) .ret) .skip)) (.seq (.region 11 (rg Try.f173 11) false) .ret)))))))) (by kernel_rfl) (Nat.le_of_ble_eq_true (by kernel_rfl)) 0 (rs := [.tmp 4]) rfl [] .nil [(false, [.lit (.bool r)])] [] [] fun cx => ?_
  show Tr _ _ _ ⟨30, 0, [(0, .val true (Vec.row x0)), (1, .val true (Vec.row x1))], []⟩ _
  unfold laws_eqVecF at H
  refine Tr.rs ?_
  refine LAt.runU tOk 3 (by kernel_rfl) ?_
  refine LAt.doneU [4, 3, 2] [3, 2] (by kernel_rfl) ?_
  refine Tr.seq ?_
  refine Tr.rs ?_
  refine LAt.runU tOk 5 (by kernel_rfl) ?_
  refine LAt.doneU [9, 4, 3, 2] [3, 2] (by kernel_rfl) ?_
  refine Tr.to ⟨30, 0, [(9, .val false [.lit (.bool (x0.Root != x1.Root))]), (4, .val false [.lit (.bool false)]), (3, .adr (.box 3) [(0, 0)] 5 0), (2, .adr (.box 2) [(0, 0)] 5 0)], [(3, (Vec.row x1)), (2, (Vec.row x0))]⟩ (by kernel_rfl) ?_
  cases h1 : (x0.Root != x1.Root)
  · have H := bifF h1 H
    refine Tr.cond (b := false) (by kernel_rfl) (fun h => nomatch h) (fun _ => ?_)
    refine Tr.skip ?_
    show Tr _ _ _ _ _
    refine Tr.seq ?_
    refine Tr.rs ?_
    refine LAt.runU tOk 5 (by kernel_rfl) ?_
    refine LAt.doneU [14, 4, 3, 2] [3, 2] (by kernel_rfl) ?_
    refine Tr.to ⟨30, 0, [(14, .val false [.lit (.bool (x0.Cost != x1.Cost))]), (4, .val false [.lit (.bool false)]), (3, .adr (.box 3) [(0, 0)] 5 0), (2, .adr (.box 2) [(0, 0)] 5 0)], [(3, (Vec.row x1)), (2, (Vec.row x0))]⟩ (by kernel_rfl) ?_
    cases h2 : (x0.Cost != x1.Cost)
    · have H := bifF h2 H
      refine Tr.cond (b := false) (by kernel_rfl) (fun h => nomatch h) (fun _ => ?_)
      refine Tr.skip ?_
      show Tr _ _ _ _ _
      refine Tr.seq ?_
      refine Tr.rs ?_
      refine LAt.runU tOk 5 (by kernel_rfl) ?_
      refine LAt.doneU [19, 4, 3, 2] [3, 2] (by kernel_rfl) ?_
      refine Tr.to ⟨30, 0, [(19, .val false [.lit (.bool (x0.Hops != x1.Hops))]), (4, .val false [.lit (.bool false)]), (3, .adr (.box 3) [(0, 0)] 5 0), (2, .adr (.box 2) [(0, 0)] 5 0)], [(3, (Vec.row x1)), (2, (Vec.row x0))]⟩ (by kernel_rfl) ?_
      cases h3 : (x0.Hops != x1.Hops)
      · have H := bifF h3 H
        refine Tr.cond (b := false) (by kernel_rfl) (fun h => nomatch h) (fun _ => ?_)
        refine Tr.skip ?_
        show Tr _ _ _ _ _
        refine Tr.seq ?_
        refine Tr.rs ?_
        refine LAt.runU tOk 5 (by kernel_rfl) ?_
        refine LAt.doneU [24, 4, 3, 2] [3, 2] (by kernel_rfl) ?_
        refine Tr.to ⟨30, 0, [(24, .val false [.lit (.bool (x0.Bridge != x1.Bridge))]), (4, .val false [.lit (.bool false)]), (3, .adr (.box 3) [(0, 0)] 5 0), (2, .adr (.box 2) [(0, 0)] 5 0)], [(3, (Vec.row x1)), (2, (Vec.row x0))]⟩ (by kernel_rfl) ?_
        cases h4 : (x0.Bridge != x1.Bridge)
        · have H := bifF h4 H
          refine Tr.cond (b := false) (by kernel_rfl) (fun h => nomatch h) (fun _ => ?_)
          refine Tr.skip ?_
          show Tr _ _ _ _ _
          refine Tr.seq ?_
          refine Tr.rs ?_
          refine LAt.runU tOk 5 (by kernel_rfl) ?_
          refine LAt.doneU [29, 4] [] (by kernel_rfl) ?_
          refine Tr.to ⟨30, 0, [(29, .val false [.lit (.bool (x0.Port != x1.Port))]), (4, .val false [.lit (.bool false)])], []⟩ (by kernel_rfl) ?_
          cases h5 : (x0.Port != x1.Port)
          · have H := bifF h5 H
            refine Tr.cond (b := false) (by kernel_rfl) (fun h => nomatch h) (fun _ => ?_)
            refine Tr.skip ?_
            show Tr _ _ _ _ _
            refine Tr.rs ?_
            refine LAt.runU tOk 1 (by kernel_rfl) ?_
            refine LAt.doneU [4] [] (by kernel_rfl) ?_
            refine Tr.ret ?_
            have H := Option.some.inj H
            subst H
            exact Fin.of _ [(false, [.lit (.bool true)])] (by kernel_rfl) rfl rfl
          · have H := bifT h5 H
            refine Tr.cond (b := true) (by kernel_rfl) (fun _ => ?_) (fun h => nomatch h)
            refine Tr.rs ?_
            refine LAt.runU tOk 1 (by kernel_rfl) ?_
            refine LAt.doneU [4] [] (by kernel_rfl) ?_
            refine Tr.ret ?_
            have H := Option.some.inj H
            subst H
            exact Fin.of _ [(false, [.lit (.bool false)])] (by kernel_rfl) rfl rfl
        · have H := bifT h4 H
          refine Tr.cond (b := true) (by kernel_rfl) (fun _ => ?_) (fun h => nomatch h)
          refine Tr.rs ?_
          refine LAt.runU tOk 1 (by kernel_rfl) ?_
          refine LAt.doneU [4, 3, 2] [3, 2] (by kernel_rfl) ?_
          refine Tr.ret ?_
          have H := Option.some.inj H
          subst H
          exact Fin.of _ [(false, [.lit (.bool false)])] (by kernel_rfl) rfl rfl
      · have H := bifT h3 H
        refine Tr.cond (b := true) (by kernel_rfl) (fun _ => ?_) (fun h => nomatch h)
        refine Tr.rs ?_
        refine LAt.runU tOk 1 (by kernel_rfl) ?_
        refine LAt.doneU [4, 3, 2] [3, 2] (by kernel_rfl) ?_
        refine Tr.ret ?_
        have H := Option.some.inj H
        subst H
        exact Fin.of _ [(false, [.lit (.bool false)])] (by kernel_rfl) rfl rfl
    · have H := bifT h2 H
      refine Tr.cond (b := true) (by kernel_rfl) (fun _ => ?_) (fun h => nomatch h)
      refine Tr.rs ?_
      refine LAt.runU tOk 1 (by kernel_rfl) ?_
      refine LAt.doneU [4, 3, 2] [3, 2] (by kernel_rfl) ?_
      refine Tr.ret ?_
      have H := Option.some.inj H
      subst H
      exact Fin.of _ [(false, [.lit (.bool false)])] (by kernel_rfl) rfl rfl
  · have H := bifT h1 H
    refine Tr.cond (b := true) (by kernel_rfl) (fun _ => ?_) (fun h => nomatch h)
    refine Tr.rs ?_
    refine LAt.runU tOk 1 (by kernel_rfl) ?_
    refine LAt.doneU [4, 3, 2] [3, 2] (by kernel_rfl) ?_
    refine Tr.ret ?_
    have H := Option.some.inj H
    subst H
    exact Fin.of _ [(false, [.lit (.bool false)])] (by kernel_rfl) rfl rfl

def laws_eqPtF (n : Nat) (x0 : Pt) (x1 : Pt) : Option (Bool) :=
  (bif (!(x0.Up == x1.Up)) then (some false) else (bif (x0.Cost != x1.Cost) then (some false) else (bif (!(x0.Has == x1.Has)) then (some false) else ((laws_eqVecF n x0.Heard x1.Heard).bind fun r1 => (bif (!r1) then (some false) else (some true))))))
/-- loop.example/g00326/laws.eqPt -/
theorem laws_eqPt (n : Nat) (x0 : Pt) (x1 : Pt) (r : Bool) (H : laws_eqPtF n x0 x1 = some r) : LCall Try.prog 161 [.val true (CV.frzRow (Pt.row x0)), .val true (CV.frzRow (Pt.row x1))] [.val false [.lit (.bool r)]] [] := by
  refine LCall.of_body tOk Try.func161 rfl (c := (.seq (.region 0 (rg Try.f161 0) false) (.seq (.seq (.region 1 (rg Try.f161 1) false) (.cond (.tmp 9) (.seq (.region 2 (rg Try.f161 2) false) .ret) .skip)) (.seq (.seq (.region 3 (rg Try.f161 3) false) (.cond (.tmp 14) (.seq (.region 4 (rg Try.f161 4) false) .ret) .skip)) (.seq (.seq (.region 5 (rg Try.f161 5) false) (.cond (.tmp 19) (.seq (.region 6 (rg Try.f161 6) false) .ret) .skip)) (.seq (.seq (.region 7 (rg Try.f161 7) false) (.cond (.tmp 25) (.seq (.region 8 (rg Try.f161 8) false) .ret) .skip)) (.seq (.region 9 (rg Try.f161 9) false) .ret))))))) (by kernel_rfl) (Nat.le_of_ble_eq_true (by kernel_rfl)) 0 (rs := [.tmp 4]) rfl [] .nil [(false, [.lit (.bool r)])] [] [] fun cx => ?_
  show Tr _ _ _ ⟨26, 0, [(0, .val true (Pt.row x0)), (1, .val true (Pt.row x1))], []⟩ _
  unfold laws_eqPtF at H
  refine Tr.rs ?_
  refine LAt.runU tOk 3 (by kernel_rfl) ?_
  refine LAt.doneU [4, 3, 2] [3, 2] (by kernel_rfl) ?_
  refine Tr.seq ?_
  refine Tr.rs ?_
  refine LAt.runU tOk 5 (by kernel_rfl) ?_
  refine LAt.doneU [9, 4, 3, 2] [3, 2] (by kernel_rfl) ?_
  refine Tr.to ⟨26, 0, [(9, .val false [.lit (.bool (!(x0.Up == x1.Up)))]), (4, .val false [.lit (.bool false)]), (3, .adr (.box 3) [(0, 0)] 8 0), (2, .adr (.box 2) [(0, 0)] 8 0)], [(3, (Pt.row x1)), (2, (Pt.row x0))]⟩ (by kernel_rfl) ?_
  cases h1 : (!(x0.Up == x1.Up))
  · have H := bifF h1 H
    refine Tr.cond (b := false) (by kernel_rfl) (fun h => nomatch h) (fun _ => ?_)
    refine Tr.skip ?_
    show Tr _ _ _ _ _
    refine Tr.seq ?_
    refine Tr.rs ?_
    refine LAt.runU tOk 5 (by kernel_rfl) ?_
    refine LAt.doneU [14, 4, 3, 2] [3, 2] (by kernel_rfl) ?_
    refine Tr.to ⟨26, 0, [(14, .val false [.lit (.bool (x0.Cost != x1.Cost))]), (4, .val false [.lit (.bool false)]), (3, .adr (.box 3) [(0, 0)] 8 0), (2, .adr (.box 2) [(0, 0)] 8 0)], [(3, (Pt.row x1)), (2, (Pt.row x0))]⟩ (by kernel_rfl) ?_
    cases h2 : (x0.Cost != x1.Cost)
    · have H := bifF h2 H
      refine Tr.cond (b := false) (by kernel_rfl) (fun h => nomatch h) (fun _ => ?_)
      refine Tr.skip ?_
      show Tr _ _ _ _ _
      refine Tr.seq ?_
      refine Tr.rs ?_
      refine LAt.runU tOk 5 (by kernel_rfl) ?_
      refine LAt.doneU [19, 4, 3, 2] [3, 2] (by kernel_rfl) ?_
      refine Tr.to ⟨26, 0, [(19, .val false [.lit (.bool (!(x0.Has == x1.Has)))]), (4, .val false [.lit (.bool false)]), (3, .adr (.box 3) [(0, 0)] 8 0), (2, .adr (.box 2) [(0, 0)] 8 0)], [(3, (Pt.row x1)), (2, (Pt.row x0))]⟩ (by kernel_rfl) ?_
      cases h3 : (!(x0.Has == x1.Has))
      · have H := bifF h3 H
        refine Tr.cond (b := false) (by kernel_rfl) (fun h => nomatch h) (fun _ => ?_)
        refine Tr.skip ?_
        show Tr _ _ _ _ _
        refine Tr.seq ?_
        refine Tr.rs ?_
        refine LAt.runU tOk 4 (by kernel_rfl) ?_
        obtain ⟨r1, er1, H⟩ := bind_some H
        refine LAt.callU tOk [.rd, .rd] (f := 173) (av := #[.tmp 21, .tmp 23]) (ats := #[70, 70]) (d := (some 24)) (ty := 4) (g := none) (by kernel_rfl) (by kernel_rfl) (by kernel_rfl) [] (laws_eqVec n x0.Heard x1.Heard r1 er1) (by kernel_rfl) (.inl rfl) ?_
        refine LAt.runU tOk 1 (by kernel_rfl) ?_
        refine LAt.doneU [25, 4] [] (by kernel_rfl) ?_
        refine Tr.to ⟨26, 0, [(25, .val false [.lit (.bool (!r1))]), (4, .val false [.lit (.bool false)])], []⟩ (by kernel_rfl) ?_
        cases h4 : (!r1)
        · have H := bifF h4 H
          refine Tr.cond (b := false) (by kernel_rfl) (fun h => nomatch h) (fun _ => ?_)
          refine Tr.skip ?_
          show Tr _ _ _ _ _
          refine Tr.rs ?_
          refine LAt.runU tOk 1 (by kernel_rfl) ?_
          refine LAt.doneU [4] [] (by kernel_rfl) ?_
          refine Tr.ret ?_
          have H := Option.some.inj H
          subst H
          exact Fin.of _ [(false, [.lit (.bool true)])] (by kernel_rfl) rfl rfl
        · have H := bifT h4 H
          refine Tr.cond (b := true) (by kernel_rfl) (fun _ => ?_) (fun h => nomatch h)
          refine Tr.rs ?_
          refine LAt.runU tOk 1 (by kernel_rfl) ?_
          refine LAt.doneU [4] [] (by kernel_rfl) ?_
          refine Tr.ret ?_
          have H := Option.some.inj H
          subst H
          exact Fin.of _ [(false, [.lit (.bool false)])] (by kernel_rfl) rfl rfl
      · have H := bifT h3 H
        refine Tr.cond (b := true) (by kernel_rfl) (fun _ => ?_) (fun h => nomatch h)
        refine Tr.rs ?_
        refine LAt.runU tOk 1 (by kernel_rfl) ?_
        refine LAt.doneU [4, 3, 2] [3, 2] (by kernel_rfl) ?_
        refine Tr.ret ?_
        have H := Option.some.inj H
        subst H
        exact Fin.of _ [(false, [.lit (.bool false)])] (by kernel_rfl) rfl rfl
    · have H := bifT h2 H
      refine Tr.cond (b := true) (by kernel_rfl) (fun _ => ?_) (fun h => nomatch h)
      refine Tr.rs ?_
      refine LAt.runU tOk 1 (by kernel_rfl) ?_
      refine LAt.doneU [4, 3, 2] [3, 2] (by kernel_rfl) ?_
      refine Tr.ret ?_
      have H := Option.some.inj H
      subst H
      exact Fin.of _ [(false, [.lit (.bool false)])] (by kernel_rfl) rfl rfl
  · have H := bifT h1 H
    refine Tr.cond (b := true) (by kernel_rfl) (fun _ => ?_) (fun h => nomatch h)
    refine Tr.rs ?_
    refine LAt.runU tOk 1 (by kernel_rfl) ?_
    refine LAt.doneU [4, 3, 2] [3, 2] (by kernel_rfl) ?_
    refine Tr.ret ?_
    have H := Option.some.inj H
    subst H
    exact Fin.of _ [(false, [.lit (.bool false)])] (by kernel_rfl) rfl rfl

def laws_eqPtS_J1 (n : Nat) : Option (Bool) :=
  (some true)
def laws_eqPtS_L2 (n : Nat) : Nat → (List Pt) → (List Pt) → Int → Option ((Unit) ⊕ (Bool))
  | 0, _, _, _ => none
  | mo2 + 1, x0, x1, y1 => (bif (decide (y1 < (x0.length : Int))) then ((idx x0 y1).bind fun v3 => ((idx x1 y1).bind fun v4 => ((laws_eqPtF n v3 v4).bind fun r5 => (bif (!r5) then (some (Sum.inr false)) else (laws_eqPtS_L2 n mo2 x0 x1 (IntKind.wrap .i64 (y1 + 1))))))) else (some (Sum.inl ())))
def laws_eqPtSF (n : Nat) (x0 : (List Pt)) (x1 : (List Pt)) : Option (Bool) :=
  (bif ((x0.length : Int) != (x1.length : Int)) then (some false) else ((laws_eqPtS_L2 n n x0 x1 0).bind fun o => match o with | .inl _ => (laws_eqPtS_J1 n) | .inr r => some r))
/-- loop.example/g00326/laws.eqPtS -/
theorem laws_eqPtS (n : Nat) (x0 : (List Pt)) (x1 : (List Pt)) (r : Bool) (H : laws_eqPtSF n x0 x1 = some r) : LCall Try.prog 106 [.val false [.sl false 8 (CV.frzEs (x0.map Pt.row))], .val false [.sl false 8 (CV.frzEs (x1.map Pt.row))]] [.val false [.lit (.bool r)]] [] := by
  refine LCall.of_body tOk Try.func106 rfl (c := (.seq (.region 0 (rg Try.f106 0) false) (.seq (.seq (.region 1 (rg Try.f106 1) false) (.cond (.tmp 10) (.seq (.region 2 (rg Try.f106 2) false) .ret) .skip)) (.seq (.seq (.region 3 (rg Try.f106 3) false) (.block 0 (.loop (.seq (.seq (.region 4 (rg Try.f106 4) false) (.cond (.tmp 14) .skip (.exit 0))) (.seq (.block 1 (.seq (.region 6 (rg Try.f106 6) true) (.cond (.tmp 26) (.seq (.region 7 (rg Try.f106 7) false) .ret) .skip))) (.region 5 (rg Try.f106 5) false)))))) (.seq (.region 8 (rg Try.f106 8) false) .ret))))) (by kernel_rfl) (Nat.le_of_ble_eq_true (by kernel_rfl)) 0 (rs := [.tmp 4]) rfl [] .nil [(false, [.lit (.bool r)])] [] [] fun cx => ?_
  show Tr _ _ _ ⟨27, 0, [(0, .val false [.sl false 8 (CV.frzEs (x0.map Pt.row))]), (1, .val false [.sl false 8 (CV.frzEs (x1.map Pt.row))])], []⟩ _
  unfold laws_eqPtSF at H
  refine Tr.rs ?_
  refine LAt.runU tOk 1 (by kernel_rfl) ?_
  refine LAt.doneU [4, 0, 1] [] (by kernel_rfl) ?_
  refine Tr.seq ?_
  refine Tr.rs ?_
  refine LAt.runU tOk 1 (by kernel_rfl) ?_
  refine LAt.lenE tOk (t := 55) (ty := 3) (e := 114) (x := (.tmp 6)) (d := 7) (g := none) ⟨(.slot 6), [], 0, false, 8, (CV.frzEs (x0.map Pt.row))⟩ (x0).length _ (by kernel_rfl) (by kernel_rfl) (by kernel_rfl) (by kernel_rfl) (by kernel_rfl) (frz_len _ _) rfl ?_
  refine LAt.runU tOk 1 (by kernel_rfl) ?_
  refine LAt.lenE tOk (t := 55) (ty := 3) (e := 114) (x := (.tmp 8)) (d := 9) (g := none) ⟨(.slot 8), [], 0, false, 8, (CV.frzEs (x1.map Pt.row))⟩ (x1).length _ (by kernel_rfl) (by kernel_rfl) (by kernel_rfl) (by kernel_rfl) (by kernel_rfl) (frz_len _ _) rfl ?_
  refine LAt.runU tOk 1 (by kernel_rfl) ?_
  refine LAt.doneU [10, 4, 0, 1] [] (by kernel_rfl) ?_
  refine Tr.to ⟨27, 0, [(10, .val false [.lit (.bool ((x0.length : Int) != (x1.length : Int)))]), (4, .val false [.lit (.bool false)]), (0, .val false [.sl false 8 (CV.frzEs (x0.map Pt.row))]), (1, .val false [.sl false 8 (CV.frzEs (x1.map Pt.row))])], []⟩ (by kernel_rfl) ?_
  cases h1 : ((x0.length : Int) != (x1.length : Int))
  · have H := bifF h1 H
    refine Tr.cond (b := false) (by kernel_rfl) (fun h => nomatch h) (fun _ => ?_)
    refine Tr.skip ?_
    show Tr _ _ _ _ _
    refine Tr.seq ?_
    refine Tr.rs ?_
    refine LAt.runU tOk 1 (by kernel_rfl) ?_
    refine LAt.doneU [5, 4, 0, 1] [] (by kernel_rfl) ?_
    obtain ⟨o2, eo2, Ho2⟩ := bind_some H
    clear H
    refine Tr.mid (ι := Unit) (fun v => ⟨27, 0, [(4, .val false [.lit (.bool false)])], []⟩) (fun v => laws_eqPtS_J1 n = some r) ?_ ?_
    · refine Tr.block ?_
      refine Tr.loop (ι := Nat × (Int)) (fun v => ⟨27, 0, [(5, .val false [.lit (.int .i64 v.2)]), (4, .val false [.lit (.bool false)]), (0, .val false [.sl false 8 (CV.frzEs (x0.map Pt.row))]), (1, .val false [.sl false 8 (CV.frzEs (x1.map Pt.row))])], []⟩) (fun v => laws_eqPtS_L2 n v.1 x0 x1 v.2 = some o2) (fun v => v.1) (n, 0) eo2 (St.sub_of [5, 4, 0, 1] [] (by kernel_rfl)) ?_
      rintro ⟨mo2, y1⟩ H
      have H : laws_eqPtS_L2 n mo2 x0 x1 y1 = some o2 := H
      obtain _ | mo2 := mo2
      · cases (show (none : Option _) = some o2 from H)
      · rw [laws_eqPtS_L2] at H
        refine Tr.seq ?_
        refine Tr.rs ?_
        refine LAt.runU tOk 2 (by kernel_rfl) ?_
        refine LAt.lenE tOk (t := 55) (ty := 3) (e := 114) (x := (.tmp 12)) (d := 13) (g := none) ⟨(.slot 12), [], 0, false, 8, (CV.frzEs (x0.map Pt.row))⟩ (x0).length _ (by kernel_rfl) (by kernel_rfl) (by kernel_rfl) (by kernel_rfl) (by kernel_rfl) (frz_len _ _) rfl ?_
        refine LAt.runU tOk 1 (by kernel_rfl) ?_
        refine LAt.doneU [14, 13, 12, 11, 5, 4, 0, 1] [] (by kernel_rfl) ?_
        refine Tr.to ⟨27, 0, [(14, .val false [.lit (.bool (decide (y1 < (x0.length : Int))))]), (13, .val false [.lit (.int .i64 (x0.length : Int))]), (12, .val false [.sl false 8 (CV.frzEs (x0.map Pt.row))]), (11, .val false [.lit (.int .i64 y1)]), (5, .val false [.lit (.int .i64 y1)]), (4, .val false [.lit (.bool false)]), (0, .val false [.sl false 8 (CV.frzEs (x0.map Pt.row))]), (1, .val false [.sl false 8 (CV.frzEs (x1.map Pt.row))])], []⟩ (by kernel_rfl) ?_
        cases h2 : (decide (y1 < (x0.length : Int)))
        · have H := bifF h2 H
          refine Tr.cond (b := false) (by kernel_rfl) (fun h => nomatch h) (fun _ => ?_)
          refine Tr.exit ?_
          refine And.intro (fun _ => ?_) (fun h => absurd rfl h)
          have H := Option.some.inj H
          subst H
          have H := Ho2
          dsimp only at H
          exact Exists.intro () (And.intro H (St.sub_of [4] [] (by kernel_rfl)))
        · have H := bifT h2 H
          refine Tr.cond (b := true) (by kernel_rfl) (fun _ => ?_) (fun h => nomatch h)
          refine Tr.skip ?_
          show Tr _ _ _ _ _
          refine Tr.seq ?_
          refine Tr.block ?_
          obtain ⟨v3, ev3, H⟩ := bind_some H
          obtain ⟨v4, ev4, H⟩ := bind_some H
          obtain ⟨r5, er5, H⟩ := bind_some H
          refine Tr.draws mixed 10 (by kernel_rfl) ⟨27, 0, [(26, .val false [.lit (.bool (!r5))]), (25, .val false [.lit (.bool r5)]), (24, .val true (Pt.row v4)), (23, .fad ((Pt.row v4))), (22, .val false [.lit (.int .i64 y1)]), (21, .val false [.sl false 8 (CV.frzEs (x1.map Pt.row))]), (20, .val true (Pt.row v3)), (19, .fad ((Pt.row v3))), (18, .val false [.lit (.int .i64 y1)]), (17, .val false [.sl false 8 (CV.frzEs (x0.map Pt.row))]), (14, .val false [.lit (.bool true)]), (13, .val false [.lit (.int .i64 (x0.length : Int))]), (12, .val false [.sl false 8 (CV.frzEs (x0.map Pt.row))]), (11, .val false [.lit (.int .i64 y1)]), (5, .val false [.lit (.int .i64 y1)]), (4, .val false [.lit (.bool false)]), (0, .val false [.sl false 8 (CV.frzEs (x0.map Pt.row))]), (1, .val false [.sl false 8 (CV.frzEs (x1.map Pt.row))])], []⟩ (fun cx => ?_) ?_
          · refine AT.runU tOk [(0, []), (1, [])] 8 [] [1, 0] rfl (by kernel_rfl) (fun cx => ?_)
            refine AT.indexF tOk 2 (t := 55) (ty := 0) (x := (.tmp 17)) (y := (.tmp 18)) (d := 19) (g := none) ⟨(.slot 17), [], 0, false, 8, (CV.frzEs (x0.map Pt.row))⟩ y1 (Pt.row v3) _ (by kernel_rfl) (by kernel_rfl) (by kernel_rfl) (by kernel_rfl) (by kernel_rfl) (by kernel_rfl) rfl (idx_isF ev3) rfl (fun cx => ?_)
            refine AT.runU tOk [(3, []), (4, []), (5, [])] 4 [] [5, 4, 3, 2, 1, 0] rfl (by kernel_rfl) (fun cx => ?_)
            refine AT.indexF tOk 6 (t := 55) (ty := 0) (x := (.tmp 21)) (y := (.tmp 22)) (d := 23) (g := none) ⟨(.slot 21), [], 0, false, 8, (CV.frzEs (x1.map Pt.row))⟩ y1 (Pt.row v4) _ (by kernel_rfl) (by kernel_rfl) (by kernel_rfl) (by kernel_rfl) (by kernel_rfl) (by kernel_rfl) rfl (idx_isF ev4) rfl (fun cx => ?_)
            refine AT.runU tOk [(7, [])] 2 [] [7, 6, 5, 4, 3, 2, 1, 0] rfl (by kernel_rfl) (fun cx => ?_)
            refine AT.big1 tOk 8 (by kernel_rfl) (by kernel_rfl) ?_
            refine LAt.callU tOk [.rd, .rd] (f := 161) (av := #[.tmp 20, .tmp 24]) (ats := #[114, 114]) (d := (some 25)) (ty := 4) (g := none) (by kernel_rfl) (by kernel_rfl) (by kernel_rfl) [] (laws_eqPt n v3 v4 r5 er5) (by kernel_rfl) (.inl rfl) ?_
            refine LAt.fin (by kernel_rfl) (And.intro (And.intro (by kernel_rfl) (by kernel_rfl)) ?_)
            refine AT.runU tOk [(9, [])] 0 [] [9, 8, 7, 6, 5, 4, 3, 2, 1, 0] rfl (by kernel_rfl) (fun cx => ?_)
            exact AT.done [26, 25, 24, 23, 22, 21, 20, 19, 18, 17, 14, 13, 12, 11, 5, 4, 0, 1] [] _ (by kernel_rfl) (by kernel_rfl) rfl
          · refine Tr.to ⟨27, 0, [(26, .val false [.lit (.bool (!r5))]), (25, .val false [.lit (.bool r5)]), (24, .val true (Pt.row v4)), (23, .fad ((Pt.row v4))), (22, .val false [.lit (.int .i64 y1)]), (21, .val false [.sl false 8 (CV.frzEs (x1.map Pt.row))]), (20, .val true (Pt.row v3)), (19, .fad ((Pt.row v3))), (18, .val false [.lit (.int .i64 y1)]), (17, .val false [.sl false 8 (CV.frzEs (x0.map Pt.row))]), (14, .val false [.lit (.bool true)]), (13, .val false [.lit (.int .i64 (x0.length : Int))]), (12, .val false [.sl false 8 (CV.frzEs (x0.map Pt.row))]), (11, .val false [.lit (.int .i64 y1)]), (5, .val false [.lit (.int .i64 y1)]), (4, .val false [.lit (.bool false)]), (0, .val false [.sl false 8 (CV.frzEs (x0.map Pt.row))]), (1, .val false [.sl false 8 (CV.frzEs (x1.map Pt.row))])], []⟩ (by kernel_rfl) ?_
            cases h3 : (!r5)
            · have H := bifF h3 H
              refine Tr.cond (b := false) (by kernel_rfl) (fun h => nomatch h) (fun _ => ?_)
              refine Tr.skip ?_
              show Tr _ _ _ _ _
              refine Tr.at ?_
              refine LAt.runU tOk 3 (by kernel_rfl) ?_
              refine LAt.doneU [5, 16, 15, 26, 25, 24, 23, 22, 21, 20, 19, 18, 17, 14, 13, 12, 11, 4, 0, 1] [] (by kernel_rfl) ?_
              exact Exists.intro (mo2, (IntKind.wrap .i64 (y1 + 1))) (And.intro H (And.intro (Nat.lt_succ_self mo2) (St.sub_of [5, 4, 0, 1] [] (by kernel_rfl))))
            · have H := bifT h3 H
              refine Tr.cond (b := true) (by kernel_rfl) (fun _ => ?_) (fun h => nomatch h)
              refine Tr.rs ?_
              refine LAt.runU tOk 1 (by kernel_rfl) ?_
              refine LAt.doneU [4, 26, 25, 24, 23, 22, 21, 20, 19, 18, 17, 14, 13, 12, 11, 5, 0, 1] [] (by kernel_rfl) ?_
              refine Tr.ret ?_
              have H := Option.some.inj H
              subst H
              have H := Ho2
              dsimp only at H
              have H := Option.some.inj H
              subst H
              exact Fin.of _ [(false, [.lit (.bool false)])] (by kernel_rfl) rfl rfl
    · rintro _ H
      have H : (laws_eqPtS_J1 n) = some r := H
      unfold laws_eqPtS_J1 at H
      show Tr _ _ _ _ _
      refine Tr.rs ?_
      refine LAt.runU tOk 1 (by kernel_rfl) ?_
      refine LAt.doneU [4] [] (by kernel_rfl) ?_
      refine Tr.ret ?_
      have H := Option.some.inj H
      subst H
      exact Fin.of _ [(false, [.lit (.bool true)])] (by kernel_rfl) rfl rfl
  · have H := bifT h1 H
    refine Tr.cond (b := true) (by kernel_rfl) (fun _ => ?_) (fun h => nomatch h)
    refine Tr.rs ?_
    refine LAt.runU tOk 1 (by kernel_rfl) ?_
    refine LAt.doneU [4, 0, 1] [] (by kernel_rfl) ?_
    refine Tr.ret ?_
    have H := Option.some.inj H
    subst H
    exact Fin.of _ [(false, [.lit (.bool false)])] (by kernel_rfl) rfl rfl

def laws_eqFentF (n : Nat) (x0 : Fent) (x1 : Fent) : Option (Bool) :=
  (bif (x0.Tag != x1.Tag) then (some false) else (bif (x0.Mac != x1.Mac) then (some false) else (bif (x0.Port != x1.Port) then (some false) else (bif (x0.Age != x1.Age) then (some false) else (bif (!(x0.Static == x1.Static)) then (some false) else (some true))))))
/-- loop.example/g00326/laws.eqFent -/
theorem laws_eqFent (n : Nat) (x0 : Fent) (x1 : Fent) (r : Bool) (H : laws_eqFentF n x0 x1 = some r) : LCall Try.prog 162 [.val true (CV.frzRow (Fent.row x0)), .val true (CV.frzRow (Fent.row x1))] [.val false [.lit (.bool r)]] [] := by
  refine LCall.of_body tOk Try.func162 rfl (c := (.seq (.region 0 (rg Try.f162 0) false) (.seq (.seq (.region 1 (rg Try.f162 1) false) (.cond (.tmp 9) (.seq (.region 2 (rg Try.f162 2) false) .ret) .skip)) (.seq (.seq (.region 3 (rg Try.f162 3) false) (.cond (.tmp 14) (.seq (.region 4 (rg Try.f162 4) false) .ret) .skip)) (.seq (.seq (.region 5 (rg Try.f162 5) false) (.cond (.tmp 19) (.seq (.region 6 (rg Try.f162 6) false) .ret) .skip)) (.seq (.seq (.region 7 (rg Try.f162 7) false) (.cond (.tmp 24) (.seq (.region 8 (rg Try.f162 8) false) .ret) .skip)) (.seq (.seq (.region 9 (rg Try.f162 9) false) (.cond (.tmp 29) (.seq (.region 10 (rg Try.f162 10) false) .ret) .skip)) (.seq (.region 11 (rg Try.f162 11) false) .ret)))))))) (by kernel_rfl) (Nat.le_of_ble_eq_true (by kernel_rfl)) 0 (rs := [.tmp 4]) rfl [] .nil [(false, [.lit (.bool r)])] [] [] fun cx => ?_
  show Tr _ _ _ ⟨30, 0, [(0, .val true (Fent.row x0)), (1, .val true (Fent.row x1))], []⟩ _
  unfold laws_eqFentF at H
  refine Tr.rs ?_
  refine LAt.runU tOk 3 (by kernel_rfl) ?_
  refine LAt.doneU [4, 3, 2] [3, 2] (by kernel_rfl) ?_
  refine Tr.seq ?_
  refine Tr.rs ?_
  refine LAt.runU tOk 5 (by kernel_rfl) ?_
  refine LAt.doneU [9, 4, 3, 2] [3, 2] (by kernel_rfl) ?_
  refine Tr.to ⟨30, 0, [(9, .val false [.lit (.bool (x0.Tag != x1.Tag))]), (4, .val false [.lit (.bool false)]), (3, .adr (.box 3) [(0, 0)] 5 0), (2, .adr (.box 2) [(0, 0)] 5 0)], [(3, (Fent.row x1)), (2, (Fent.row x0))]⟩ (by kernel_rfl) ?_
  cases h1 : (x0.Tag != x1.Tag)
  · have H := bifF h1 H
    refine Tr.cond (b := false) (by kernel_rfl) (fun h => nomatch h) (fun _ => ?_)
    refine Tr.skip ?_
    show Tr _ _ _ _ _
    refine Tr.seq ?_
    refine Tr.rs ?_
    refine LAt.runU tOk 5 (by kernel_rfl) ?_
    refine LAt.doneU [14, 4, 3, 2] [3, 2] (by kernel_rfl) ?_
    refine Tr.to ⟨30, 0, [(14, .val false [.lit (.bool (x0.Mac != x1.Mac))]), (4, .val false [.lit (.bool false)]), (3, .adr (.box 3) [(0, 0)] 5 0), (2, .adr (.box 2) [(0, 0)] 5 0)], [(3, (Fent.row x1)), (2, (Fent.row x0))]⟩ (by kernel_rfl) ?_
    cases h2 : (x0.Mac != x1.Mac)
    · have H := bifF h2 H
      refine Tr.cond (b := false) (by kernel_rfl) (fun h => nomatch h) (fun _ => ?_)
      refine Tr.skip ?_
      show Tr _ _ _ _ _
      refine Tr.seq ?_
      refine Tr.rs ?_
      refine LAt.runU tOk 5 (by kernel_rfl) ?_
      refine LAt.doneU [19, 4, 3, 2] [3, 2] (by kernel_rfl) ?_
      refine Tr.to ⟨30, 0, [(19, .val false [.lit (.bool (x0.Port != x1.Port))]), (4, .val false [.lit (.bool false)]), (3, .adr (.box 3) [(0, 0)] 5 0), (2, .adr (.box 2) [(0, 0)] 5 0)], [(3, (Fent.row x1)), (2, (Fent.row x0))]⟩ (by kernel_rfl) ?_
      cases h3 : (x0.Port != x1.Port)
      · have H := bifF h3 H
        refine Tr.cond (b := false) (by kernel_rfl) (fun h => nomatch h) (fun _ => ?_)
        refine Tr.skip ?_
        show Tr _ _ _ _ _
        refine Tr.seq ?_
        refine Tr.rs ?_
        refine LAt.runU tOk 5 (by kernel_rfl) ?_
        refine LAt.doneU [24, 4, 3, 2] [3, 2] (by kernel_rfl) ?_
        refine Tr.to ⟨30, 0, [(24, .val false [.lit (.bool (x0.Age != x1.Age))]), (4, .val false [.lit (.bool false)]), (3, .adr (.box 3) [(0, 0)] 5 0), (2, .adr (.box 2) [(0, 0)] 5 0)], [(3, (Fent.row x1)), (2, (Fent.row x0))]⟩ (by kernel_rfl) ?_
        cases h4 : (x0.Age != x1.Age)
        · have H := bifF h4 H
          refine Tr.cond (b := false) (by kernel_rfl) (fun h => nomatch h) (fun _ => ?_)
          refine Tr.skip ?_
          show Tr _ _ _ _ _
          refine Tr.seq ?_
          refine Tr.rs ?_
          refine LAt.runU tOk 5 (by kernel_rfl) ?_
          refine LAt.doneU [29, 4] [] (by kernel_rfl) ?_
          refine Tr.to ⟨30, 0, [(29, .val false [.lit (.bool (!(x0.Static == x1.Static)))]), (4, .val false [.lit (.bool false)])], []⟩ (by kernel_rfl) ?_
          cases h5 : (!(x0.Static == x1.Static))
          · have H := bifF h5 H
            refine Tr.cond (b := false) (by kernel_rfl) (fun h => nomatch h) (fun _ => ?_)
            refine Tr.skip ?_
            show Tr _ _ _ _ _
            refine Tr.rs ?_
            refine LAt.runU tOk 1 (by kernel_rfl) ?_
            refine LAt.doneU [4] [] (by kernel_rfl) ?_
            refine Tr.ret ?_
            have H := Option.some.inj H
            subst H
            exact Fin.of _ [(false, [.lit (.bool true)])] (by kernel_rfl) rfl rfl
          · have H := bifT h5 H
            refine Tr.cond (b := true) (by kernel_rfl) (fun _ => ?_) (fun h => nomatch h)
            refine Tr.rs ?_
            refine LAt.runU tOk 1 (by kernel_rfl) ?_
            refine LAt.doneU [4] [] (by kernel_rfl) ?_
            refine Tr.ret ?_
            have H := Option.some.inj H
            subst H
            exact Fin.of _ [(false, [.lit (.bool false)])] (by kernel_rfl) rfl rfl
        · have H := bifT h4 H
          refine Tr.cond (b := true) (by kernel_rfl) (fun _ => ?_) (fun h => nomatch h)
          refine Tr.rs ?_
          refine LAt.runU tOk 1 (by kernel_rfl) ?_
          refine LAt.doneU [4, 3, 2] [3, 2] (by kernel_rfl) ?_
          refine Tr.ret ?_
          have H := Option.some.inj H
          subst H
          exact Fin.of _ [(false, [.lit (.bool false)])] (by kernel_rfl) rfl rfl
      · have H := bifT h3 H
        refine Tr.cond (b := true) (by kernel_rfl) (fun _ => ?_) (fun h => nomatch h)
        refine Tr.rs ?_
        refine LAt.runU tOk 1 (by kernel_rfl) ?_
        refine LAt.doneU [4, 3, 2] [3, 2] (by kernel_rfl) ?_
        refine Tr.ret ?_
        have H := Option.some.inj H
        subst H
        exact Fin.of _ [(false, [.lit (.bool false)])] (by kernel_rfl) rfl rfl
    · have H := bifT h2 H
      refine Tr.cond (b := true) (by kernel_rfl) (fun _ => ?_) (fun h => nomatch h)
      refine Tr.rs ?_
      refine LAt.runU tOk 1 (by kernel_rfl) ?_
      refine LAt.doneU [4, 3, 2] [3, 2] (by kernel_rfl) ?_
      refine Tr.ret ?_
      have H := Option.some.inj H
      subst H
      exact Fin.of _ [(false, [.lit (.bool false)])] (by kernel_rfl) rfl rfl
  · have H := bifT h1 H
    refine Tr.cond (b := true) (by kernel_rfl) (fun _ => ?_) (fun h => nomatch h)
    refine Tr.rs ?_
    refine LAt.runU tOk 1 (by kernel_rfl) ?_
    refine LAt.doneU [4, 3, 2] [3, 2] (by kernel_rfl) ?_
    refine Tr.ret ?_
    have H := Option.some.inj H
    subst H
    exact Fin.of _ [(false, [.lit (.bool false)])] (by kernel_rfl) rfl rfl

def laws_eqFentS_J1 (n : Nat) : Option (Bool) :=
  (some true)
def laws_eqFentS_L2 (n : Nat) : Nat → (List Fent) → (List Fent) → Int → Option ((Unit) ⊕ (Bool))
  | 0, _, _, _ => none
  | mo2 + 1, x0, x1, y1 => (bif (decide (y1 < (x0.length : Int))) then ((idx x0 y1).bind fun v3 => ((idx x1 y1).bind fun v4 => ((laws_eqFentF n v3 v4).bind fun r5 => (bif (!r5) then (some (Sum.inr false)) else (laws_eqFentS_L2 n mo2 x0 x1 (IntKind.wrap .i64 (y1 + 1))))))) else (some (Sum.inl ())))
def laws_eqFentSF (n : Nat) (x0 : (List Fent)) (x1 : (List Fent)) : Option (Bool) :=
  (bif ((x0.length : Int) != (x1.length : Int)) then (some false) else ((laws_eqFentS_L2 n n x0 x1 0).bind fun o => match o with | .inl _ => (laws_eqFentS_J1 n) | .inr r => some r))
/-- loop.example/g00326/laws.eqFentS -/
theorem laws_eqFentS (n : Nat) (x0 : (List Fent)) (x1 : (List Fent)) (r : Bool) (H : laws_eqFentSF n x0 x1 = some r) : LCall Try.prog 107 [.val false [.sl false 5 (CV.frzEs (x0.map Fent.row))], .val false [.sl false 5 (CV.frzEs (x1.map Fent.row))]] [.val false [.lit (.bool r)]] [] := by
  refine LCall.of_body tOk Try.func107 rfl (c := (.seq (.region 0 (rg Try.f107 0) false) (.seq (.seq (.region 1 (rg Try.f107 1) false) (.cond (.tmp 10) (.seq (.region 2 (rg Try.f107 2) false) .ret) .skip)) (.seq (.seq (.region 3 (rg Try.f107 3) false) (.block 0 (.loop (.seq (.seq (.region 4 (rg Try.f107 4) false) (.cond (.tmp 14) .skip (.exit 0))) (.seq (.block 1 (.seq (.region 6 (rg Try.f107 6) true) (.cond (.tmp 26) (.seq (.region 7 (rg Try.f107 7) false) .ret) .skip))) (.region 5 (rg Try.f107 5) false)))))) (.seq (.region 8 (rg Try.f107 8) false) .ret))))) (by kernel_rfl) (Nat.le_of_ble_eq_true (by kernel_rfl)) 0 (rs := [.tmp 4]) rfl [] .nil [(false, [.lit (.bool r)])] [] [] fun cx => ?_
  show Tr _ _ _ ⟨27, 0, [(0, .val false [.sl false 5 (CV.frzEs (x0.map Fent.row))]), (1, .val false [.sl false 5 (CV.frzEs (x1.map Fent.row))])], []⟩ _
  unfold laws_eqFentSF at H
  refine Tr.rs ?_
  refine LAt.runU tOk 1 (by kernel_rfl) ?_
  refine LAt.doneU [4, 0, 1] [] (by kernel_rfl) ?_
  refine Tr.seq ?_
  refine Tr.rs ?_
  refine LAt.runU tOk 1 (by kernel_rfl) ?_
  refine LAt.lenE tOk (t := 56) (ty := 3) (e := 141) (x := (.tmp 6)) (d := 7) (g := none) ⟨(.slot 6), [], 0, false, 5, (CV.frzEs (x0.map Fent.row))⟩ (x0).length _ (by kernel_rfl) (by kernel_rfl) (by kernel_rfl) (by kernel_rfl) (by kernel_rfl) (frz_len _ _) rfl ?_
  refine LAt.runU tOk 1 (by kernel_rfl) ?_
  refine LAt.lenE tOk (t := 56) (ty := 3) (e := 141) (x := (.tmp 8)) (d := 9) (g := none) ⟨(.slot 8), [], 0, false, 5, (CV.frzEs (x1.map Fent.row))⟩ (x1).length _ (by kernel_rfl) (by kernel_rfl) (by kernel_rfl) (by kernel_rfl) (by kernel_rfl) (frz_len _ _) rfl ?_
  refine LAt.runU tOk 1 (by kernel_rfl) ?_
  refine LAt.doneU [10, 4, 0, 1] [] (by kernel_rfl) ?_
  refine Tr.to ⟨27, 0, [(10, .val false [.lit (.bool ((x0.length : Int) != (x1.length : Int)))]), (4, .val false [.lit (.bool false)]), (0, .val false [.sl false 5 (CV.frzEs (x0.map Fent.row))]), (1, .val false [.sl false 5 (CV.frzEs (x1.map Fent.row))])], []⟩ (by kernel_rfl) ?_
  cases h1 : ((x0.length : Int) != (x1.length : Int))
  · have H := bifF h1 H
    refine Tr.cond (b := false) (by kernel_rfl) (fun h => nomatch h) (fun _ => ?_)
    refine Tr.skip ?_
    show Tr _ _ _ _ _
    refine Tr.seq ?_
    refine Tr.rs ?_
    refine LAt.runU tOk 1 (by kernel_rfl) ?_
    refine LAt.doneU [5, 4, 0, 1] [] (by kernel_rfl) ?_
    obtain ⟨o2, eo2, Ho2⟩ := bind_some H
    clear H
    refine Tr.mid (ι := Unit) (fun v => ⟨27, 0, [(4, .val false [.lit (.bool false)])], []⟩) (fun v => laws_eqFentS_J1 n = some r) ?_ ?_
    · refine Tr.block ?_
      refine Tr.loop (ι := Nat × (Int)) (fun v => ⟨27, 0, [(5, .val false [.lit (.int .i64 v.2)]), (4, .val false [.lit (.bool false)]), (0, .val false [.sl false 5 (CV.frzEs (x0.map Fent.row))]), (1, .val false [.sl false 5 (CV.frzEs (x1.map Fent.row))])], []⟩) (fun v => laws_eqFentS_L2 n v.1 x0 x1 v.2 = some o2) (fun v => v.1) (n, 0) eo2 (St.sub_of [5, 4, 0, 1] [] (by kernel_rfl)) ?_
      rintro ⟨mo2, y1⟩ H
      have H : laws_eqFentS_L2 n mo2 x0 x1 y1 = some o2 := H
      obtain _ | mo2 := mo2
      · cases (show (none : Option _) = some o2 from H)
      · rw [laws_eqFentS_L2] at H
        refine Tr.seq ?_
        refine Tr.rs ?_
        refine LAt.runU tOk 2 (by kernel_rfl) ?_
        refine LAt.lenE tOk (t := 56) (ty := 3) (e := 141) (x := (.tmp 12)) (d := 13) (g := none) ⟨(.slot 12), [], 0, false, 5, (CV.frzEs (x0.map Fent.row))⟩ (x0).length _ (by kernel_rfl) (by kernel_rfl) (by kernel_rfl) (by kernel_rfl) (by kernel_rfl) (frz_len _ _) rfl ?_
        refine LAt.runU tOk 1 (by kernel_rfl) ?_
        refine LAt.doneU [14, 13, 12, 11, 5, 4, 0, 1] [] (by kernel_rfl) ?_
        refine Tr.to ⟨27, 0, [(14, .val false [.lit (.bool (decide (y1 < (x0.length : Int))))]), (13, .val false [.lit (.int .i64 (x0.length : Int))]), (12, .val false [.sl false 5 (CV.frzEs (x0.map Fent.row))]), (11, .val false [.lit (.int .i64 y1)]), (5, .val false [.lit (.int .i64 y1)]), (4, .val false [.lit (.bool false)]), (0, .val false [.sl false 5 (CV.frzEs (x0.map Fent.row))]), (1, .val false [.sl false 5 (CV.frzEs (x1.map Fent.row))])], []⟩ (by kernel_rfl) ?_
        cases h2 : (decide (y1 < (x0.length : Int)))
        · have H := bifF h2 H
          refine Tr.cond (b := false) (by kernel_rfl) (fun h => nomatch h) (fun _ => ?_)
          refine Tr.exit ?_
          refine And.intro (fun _ => ?_) (fun h => absurd rfl h)
          have H := Option.some.inj H
          subst H
          have H := Ho2
          dsimp only at H
          exact Exists.intro () (And.intro H (St.sub_of [4] [] (by kernel_rfl)))
        · have H := bifT h2 H
          refine Tr.cond (b := true) (by kernel_rfl) (fun _ => ?_) (fun h => nomatch h)
          refine Tr.skip ?_
          show Tr _ _ _ _ _
          refine Tr.seq ?_
          refine Tr.block ?_
          obtain ⟨v3, ev3, H⟩ := bind_some H
          obtain ⟨v4, ev4, H⟩ := bind_some H
          obtain ⟨r5, er5, H⟩ := bind_some H
          refine Tr.draws mixed 10 (by kernel_rfl) ⟨27, 0, [(26, .val false [.lit (.bool (!r5))]), (25, .val false [.lit (.bool r5)]), (24, .val true (Fent.row v4)), (23, .fad ((Fent.row v4))), (22, .val false [.lit (.int .i64 y1)]), (21, .val false [.sl false 5 (CV.frzEs (x1.map Fent.row))]), (20, .val true (Fent.row v3)), (19, .fad ((Fent.row v3))), (18, .val false [.lit (.int .i64 y1)]), (17, .val false [.sl false 5 (CV.frzEs (x0.map Fent.row))]), (14, .val false [.lit (.bool true)]), (13, .val false [.lit (.int .i64 (x0.length : Int))]), (12, .val false [.sl false 5 (CV.frzEs (x0.map Fent.row))]), (11, .val false [.lit (.int .i64 y1)]), (5, .val false [.lit (.int .i64 y1)]), (4, .val false [.lit (.bool false)]), (0, .val false [.sl false 5 (CV.frzEs (x0.map Fent.row))]), (1, .val false [.sl false 5 (CV.frzEs (x1.map Fent.row))])], []⟩ (fun cx => ?_) ?_
          · refine AT.runU tOk [(0, []), (1, [])] 8 [] [1, 0] rfl (by kernel_rfl) (fun cx => ?_)
            refine AT.indexF tOk 2 (t := 56) (ty := 0) (x := (.tmp 17)) (y := (.tmp 18)) (d := 19) (g := none) ⟨(.slot 17), [], 0, false, 5, (CV.frzEs (x0.map Fent.row))⟩ y1 (Fent.row v3) _ (by kernel_rfl) (by kernel_rfl) (by kernel_rfl) (by kernel_rfl) (by kernel_rfl) (by kernel_rfl) rfl (idx_isF ev3) rfl (fun cx => ?_)
            refine AT.runU tOk [(3, []), (4, []), (5, [])] 4 [] [5, 4, 3, 2, 1, 0] rfl (by kernel_rfl) (fun cx => ?_)
            refine AT.indexF tOk 6 (t := 56) (ty := 0) (x := (.tmp 21)) (y := (.tmp 22)) (d := 23) (g := none) ⟨(.slot 21), [], 0, false, 5, (CV.frzEs (x1.map Fent.row))⟩ y1 (Fent.row v4) _ (by kernel_rfl) (by kernel_rfl) (by kernel_rfl) (by kernel_rfl) (by kernel_rfl) (by kernel_rfl) rfl (idx_isF ev4) rfl (fun cx => ?_)
            refine AT.runU tOk [(7, [])] 2 [] [7, 6, 5, 4, 3, 2, 1, 0] rfl (by kernel_rfl) (fun cx => ?_)
            refine AT.big1 tOk 8 (by kernel_rfl) (by kernel_rfl) ?_
            refine LAt.callU tOk [.rd, .rd] (f := 162) (av := #[.tmp 20, .tmp 24]) (ats := #[141, 141]) (d := (some 25)) (ty := 4) (g := none) (by kernel_rfl) (by kernel_rfl) (by kernel_rfl) [] (laws_eqFent n v3 v4 r5 er5) (by kernel_rfl) (.inl rfl) ?_
            refine LAt.fin (by kernel_rfl) (And.intro (And.intro (by kernel_rfl) (by kernel_rfl)) ?_)
            refine AT.runU tOk [(9, [])] 0 [] [9, 8, 7, 6, 5, 4, 3, 2, 1, 0] rfl (by kernel_rfl) (fun cx => ?_)
            exact AT.done [26, 25, 24, 23, 22, 21, 20, 19, 18, 17, 14, 13, 12, 11, 5, 4, 0, 1] [] _ (by kernel_rfl) (by kernel_rfl) rfl
          · refine Tr.to ⟨27, 0, [(26, .val false [.lit (.bool (!r5))]), (25, .val false [.lit (.bool r5)]), (24, .val true (Fent.row v4)), (23, .fad ((Fent.row v4))), (22, .val false [.lit (.int .i64 y1)]), (21, .val false [.sl false 5 (CV.frzEs (x1.map Fent.row))]), (20, .val true (Fent.row v3)), (19, .fad ((Fent.row v3))), (18, .val false [.lit (.int .i64 y1)]), (17, .val false [.sl false 5 (CV.frzEs (x0.map Fent.row))]), (14, .val false [.lit (.bool true)]), (13, .val false [.lit (.int .i64 (x0.length : Int))]), (12, .val false [.sl false 5 (CV.frzEs (x0.map Fent.row))]), (11, .val false [.lit (.int .i64 y1)]), (5, .val false [.lit (.int .i64 y1)]), (4, .val false [.lit (.bool false)]), (0, .val false [.sl false 5 (CV.frzEs (x0.map Fent.row))]), (1, .val false [.sl false 5 (CV.frzEs (x1.map Fent.row))])], []⟩ (by kernel_rfl) ?_
            cases h3 : (!r5)
            · have H := bifF h3 H
              refine Tr.cond (b := false) (by kernel_rfl) (fun h => nomatch h) (fun _ => ?_)
              refine Tr.skip ?_
              show Tr _ _ _ _ _
              refine Tr.at ?_
              refine LAt.runU tOk 3 (by kernel_rfl) ?_
              refine LAt.doneU [5, 16, 15, 26, 25, 24, 23, 22, 21, 20, 19, 18, 17, 14, 13, 12, 11, 4, 0, 1] [] (by kernel_rfl) ?_
              exact Exists.intro (mo2, (IntKind.wrap .i64 (y1 + 1))) (And.intro H (And.intro (Nat.lt_succ_self mo2) (St.sub_of [5, 4, 0, 1] [] (by kernel_rfl))))
            · have H := bifT h3 H
              refine Tr.cond (b := true) (by kernel_rfl) (fun _ => ?_) (fun h => nomatch h)
              refine Tr.rs ?_
              refine LAt.runU tOk 1 (by kernel_rfl) ?_
              refine LAt.doneU [4, 26, 25, 24, 23, 22, 21, 20, 19, 18, 17, 14, 13, 12, 11, 5, 0, 1] [] (by kernel_rfl) ?_
              refine Tr.ret ?_
              have H := Option.some.inj H
              subst H
              have H := Ho2
              dsimp only at H
              have H := Option.some.inj H
              subst H
              exact Fin.of _ [(false, [.lit (.bool false)])] (by kernel_rfl) rfl rfl
    · rintro _ H
      have H : (laws_eqFentS_J1 n) = some r := H
      unfold laws_eqFentS_J1 at H
      show Tr _ _ _ _ _
      refine Tr.rs ?_
      refine LAt.runU tOk 1 (by kernel_rfl) ?_
      refine LAt.doneU [4] [] (by kernel_rfl) ?_
      refine Tr.ret ?_
      have H := Option.some.inj H
      subst H
      exact Fin.of _ [(false, [.lit (.bool true)])] (by kernel_rfl) rfl rfl
  · have H := bifT h1 H
    refine Tr.cond (b := true) (by kernel_rfl) (fun _ => ?_) (fun h => nomatch h)
    refine Tr.rs ?_
    refine LAt.runU tOk 1 (by kernel_rfl) ?_
    refine LAt.doneU [4, 0, 1] [] (by kernel_rfl) ?_
    refine Tr.ret ?_
    have H := Option.some.inj H
    subst H
    exact Fin.of _ [(false, [.lit (.bool false)])] (by kernel_rfl) rfl rfl

def laws_eqVrowF (n : Nat) (x0 : Vrow) (x1 : Vrow) : Option (Bool) :=
  (bif (x0.Id != x1.Id) then (some false) else (bif (x0.Members != x1.Members) then (some false) else (bif (x0.Bare != x1.Bare) then (some false) else (some true))))
/-- loop.example/g00326/laws.eqVrow -/
theorem laws_eqVrow (n : Nat) (x0 : Vrow) (x1 : Vrow) (r : Bool) (H : laws_eqVrowF n x0 x1 = some r) : LCall Try.prog 181 [.val true (CV.frzRow (Vrow.row x0)), .val true (CV.frzRow (Vrow.row x1))] [.val false [.lit (.bool r)]] [] := by
  refine LCall.of_body tOk Try.func181 rfl (c := (.seq (.region 0 (rg Try.f181 0) false) (.seq (.seq (.region 1 (rg Try.f181 1) false) (.cond (.tmp 9) (.seq (.region 2 (rg Try.f181 2) false) .ret) .skip)) (.seq (.seq (.region 3 (rg Try.f181 3) false) (.cond (.tmp 14) (.seq (.region 4 (rg Try.f181 4) false) .ret) .skip)) (.seq (.seq (.region 5 (rg Try.f181 5) false) (.cond (.tmp 19) (.seq (.region 6 (rg Try.f181 6) false) .ret) .skip)) (.seq (.region 7 (rg Try.f181 7) false) .ret)))))) (by kernel_rfl) (Nat.le_of_ble_eq_true (by kernel_rfl)) 0 (rs := [.tmp 4]) rfl [] .nil [(false, [.lit (.bool r)])] [] [] fun cx => ?_
  show Tr _ _ _ ⟨20, 0, [(0, .val true (Vrow.row x0)), (1, .val true (Vrow.row x1))], []⟩ _
  unfold laws_eqVrowF at H
  refine Tr.rs ?_
  refine LAt.runU tOk 3 (by kernel_rfl) ?_
  refine LAt.doneU [4, 3, 2] [3, 2] (by kernel_rfl) ?_
  refine Tr.seq ?_
  refine Tr.rs ?_
  refine LAt.runU tOk 5 (by kernel_rfl) ?_
  refine LAt.doneU [9, 4, 3, 2] [3, 2] (by kernel_rfl) ?_
  refine Tr.to ⟨20, 0, [(9, .val false [.lit (.bool (x0.Id != x1.Id))]), (4, .val false [.lit (.bool false)]), (3, .adr (.box 3) [(0, 0)] 3 0), (2, .adr (.box 2) [(0, 0)] 3 0)], [(3, (Vrow.row x1)), (2, (Vrow.row x0))]⟩ (by kernel_rfl) ?_
  cases h1 : (x0.Id != x1.Id)
  · have H := bifF h1 H
    refine Tr.cond (b := false) (by kernel_rfl) (fun h => nomatch h) (fun _ => ?_)
    refine Tr.skip ?_
    show Tr _ _ _ _ _
    refine Tr.seq ?_
    refine Tr.rs ?_
    refine LAt.runU tOk 5 (by kernel_rfl) ?_
    refine LAt.doneU [14, 4, 3, 2] [3, 2] (by kernel_rfl) ?_
    refine Tr.to ⟨20, 0, [(14, .val false [.lit (.bool (x0.Members != x1.Members))]), (4, .val false [.lit (.bool false)]), (3, .adr (.box 3) [(0, 0)] 3 0), (2, .adr (.box 2) [(0, 0)] 3 0)], [(3, (Vrow.row x1)), (2, (Vrow.row x0))]⟩ (by kernel_rfl) ?_
    cases h2 : (x0.Members != x1.Members)
    · have H := bifF h2 H
      refine Tr.cond (b := false) (by kernel_rfl) (fun h => nomatch h) (fun _ => ?_)
      refine Tr.skip ?_
      show Tr _ _ _ _ _
      refine Tr.seq ?_
      refine Tr.rs ?_
      refine LAt.runU tOk 5 (by kernel_rfl) ?_
      refine LAt.doneU [19, 4] [] (by kernel_rfl) ?_
      refine Tr.to ⟨20, 0, [(19, .val false [.lit (.bool (x0.Bare != x1.Bare))]), (4, .val false [.lit (.bool false)])], []⟩ (by kernel_rfl) ?_
      cases h3 : (x0.Bare != x1.Bare)
      · have H := bifF h3 H
        refine Tr.cond (b := false) (by kernel_rfl) (fun h => nomatch h) (fun _ => ?_)
        refine Tr.skip ?_
        show Tr _ _ _ _ _
        refine Tr.rs ?_
        refine LAt.runU tOk 1 (by kernel_rfl) ?_
        refine LAt.doneU [4] [] (by kernel_rfl) ?_
        refine Tr.ret ?_
        have H := Option.some.inj H
        subst H
        exact Fin.of _ [(false, [.lit (.bool true)])] (by kernel_rfl) rfl rfl
      · have H := bifT h3 H
        refine Tr.cond (b := true) (by kernel_rfl) (fun _ => ?_) (fun h => nomatch h)
        refine Tr.rs ?_
        refine LAt.runU tOk 1 (by kernel_rfl) ?_
        refine LAt.doneU [4] [] (by kernel_rfl) ?_
        refine Tr.ret ?_
        have H := Option.some.inj H
        subst H
        exact Fin.of _ [(false, [.lit (.bool false)])] (by kernel_rfl) rfl rfl
    · have H := bifT h2 H
      refine Tr.cond (b := true) (by kernel_rfl) (fun _ => ?_) (fun h => nomatch h)
      refine Tr.rs ?_
      refine LAt.runU tOk 1 (by kernel_rfl) ?_
      refine LAt.doneU [4, 3, 2] [3, 2] (by kernel_rfl) ?_
      refine Tr.ret ?_
      have H := Option.some.inj H
      subst H
      exact Fin.of _ [(false, [.lit (.bool false)])] (by kernel_rfl) rfl rfl
  · have H := bifT h1 H
    refine Tr.cond (b := true) (by kernel_rfl) (fun _ => ?_) (fun h => nomatch h)
    refine Tr.rs ?_
    refine LAt.runU tOk 1 (by kernel_rfl) ?_
    refine LAt.doneU [4, 3, 2] [3, 2] (by kernel_rfl) ?_
    refine Tr.ret ?_
    have H := Option.some.inj H
    subst H
    exact Fin.of _ [(false, [.lit (.bool false)])] (by kernel_rfl) rfl rfl

def laws_eqVrowS_J1 (n : Nat) : Option (Bool) :=
  (some true)
def laws_eqVrowS_L2 (n : Nat) : Nat → (List Vrow) → (List Vrow) → Int → Option ((Unit) ⊕ (Bool))
  | 0, _, _, _ => none
  | mo2 + 1, x0, x1, y1 => (bif (decide (y1 < (x0.length : Int))) then ((idx x0 y1).bind fun v3 => ((idx x1 y1).bind fun v4 => ((laws_eqVrowF n v3 v4).bind fun r5 => (bif (!r5) then (some (Sum.inr false)) else (laws_eqVrowS_L2 n mo2 x0 x1 (IntKind.wrap .i64 (y1 + 1))))))) else (some (Sum.inl ())))
def laws_eqVrowSF (n : Nat) (x0 : (List Vrow)) (x1 : (List Vrow)) : Option (Bool) :=
  (bif ((x0.length : Int) != (x1.length : Int)) then (some false) else ((laws_eqVrowS_L2 n n x0 x1 0).bind fun o => match o with | .inl _ => (laws_eqVrowS_J1 n) | .inr r => some r))
/-- loop.example/g00326/laws.eqVrowS -/
theorem laws_eqVrowS (n : Nat) (x0 : (List Vrow)) (x1 : (List Vrow)) (r : Bool) (H : laws_eqVrowSF n x0 x1 = some r) : LCall Try.prog 163 [.val false [.sl false 3 (CV.frzEs (x0.map Vrow.row))], .val false [.sl false 3 (CV.frzEs (x1.map Vrow.row))]] [.val false [.lit (.bool r)]] [] := by
  refine LCall.of_body tOk Try.func163 rfl (c := (.seq (.region 0 (rg Try.f163 0) false) (.seq (.seq (.region 1 (rg Try.f163 1) false) (.cond (.tmp 10) (.seq (.region 2 (rg Try.f163 2) false) .ret) .skip)) (.seq (.seq (.region 3 (rg Try.f163 3) false) (.block 0 (.loop (.seq (.seq (.region 4 (rg Try.f163 4) false) (.cond (.tmp 14) .skip (.exit 0))) (.seq (.block 1 (.seq (.region 6 (rg Try.f163 6) true) (.cond (.tmp 26) (.seq (.region 7 (rg Try.f163 7) false) .ret) .skip))) (.region 5 (rg Try.f163 5) false)))))) (.seq (.region 8 (rg Try.f163 8) false) .ret))))) (by kernel_rfl) (Nat.le_of_ble_eq_true (by kernel_rfl)) 0 (rs := [.tmp 4]) rfl [] .nil [(false, [.lit (.bool r)])] [] [] fun cx => ?_
  show Tr _ _ _ ⟨27, 0, [(0, .val false [.sl false 3 (CV.frzEs (x0.map Vrow.row))]), (1, .val false [.sl false 3 (CV.frzEs (x1.map Vrow.row))])], []⟩ _
  unfold laws_eqVrowSF at H
  refine Tr.rs ?_
  refine LAt.runU tOk 1 (by kernel_rfl) ?_
  refine LAt.doneU [4, 0, 1] [] (by kernel_rfl) ?_
  refine Tr.seq ?_
  refine Tr.rs ?_
  refine LAt.runU tOk 1 (by kernel_rfl) ?_
  refine LAt.lenE tOk (t := 57) (ty := 3) (e := 138) (x := (.tmp 6)) (d := 7) (g := none) ⟨(.slot 6), [], 0, false, 3, (CV.frzEs (x0.map Vrow.row))⟩ (x0).length _ (by kernel_rfl) (by kernel_rfl) (by kernel_rfl) (by kernel_rfl) (by kernel_rfl) (frz_len _ _) rfl ?_
  refine LAt.runU tOk 1 (by kernel_rfl) ?_
  refine LAt.lenE tOk (t := 57) (ty := 3) (e := 138) (x := (.tmp 8)) (d := 9) (g := none) ⟨(.slot 8), [], 0, false, 3, (CV.frzEs (x1.map Vrow.row))⟩ (x1).length _ (by kernel_rfl) (by kernel_rfl) (by kernel_rfl) (by kernel_rfl) (by kernel_rfl) (frz_len _ _) rfl ?_
  refine LAt.runU tOk 1 (by kernel_rfl) ?_
  refine LAt.doneU [10, 4, 0, 1] [] (by kernel_rfl) ?_
  refine Tr.to ⟨27, 0, [(10, .val false [.lit (.bool ((x0.length : Int) != (x1.length : Int)))]), (4, .val false [.lit (.bool false)]), (0, .val false [.sl false 3 (CV.frzEs (x0.map Vrow.row))]), (1, .val false [.sl false 3 (CV.frzEs (x1.map Vrow.row))])], []⟩ (by kernel_rfl) ?_
  cases h1 : ((x0.length : Int) != (x1.length : Int))
  · have H := bifF h1 H
    refine Tr.cond (b := false) (by kernel_rfl) (fun h => nomatch h) (fun _ => ?_)
    refine Tr.skip ?_
    show Tr _ _ _ _ _
    refine Tr.seq ?_
    refine Tr.rs ?_
    refine LAt.runU tOk 1 (by kernel_rfl) ?_
    refine LAt.doneU [5, 4, 0, 1] [] (by kernel_rfl) ?_
    obtain ⟨o2, eo2, Ho2⟩ := bind_some H
    clear H
    refine Tr.mid (ι := Unit) (fun v => ⟨27, 0, [(4, .val false [.lit (.bool false)])], []⟩) (fun v => laws_eqVrowS_J1 n = some r) ?_ ?_
    · refine Tr.block ?_
      refine Tr.loop (ι := Nat × (Int)) (fun v => ⟨27, 0, [(5, .val false [.lit (.int .i64 v.2)]), (4, .val false [.lit (.bool false)]), (0, .val false [.sl false 3 (CV.frzEs (x0.map Vrow.row))]), (1, .val false [.sl false 3 (CV.frzEs (x1.map Vrow.row))])], []⟩) (fun v => laws_eqVrowS_L2 n v.1 x0 x1 v.2 = some o2) (fun v => v.1) (n, 0) eo2 (St.sub_of [5, 4, 0, 1] [] (by kernel_rfl)) ?_
      rintro ⟨mo2, y1⟩ H
      have H : laws_eqVrowS_L2 n mo2 x0 x1 y1 = some o2 := H
      obtain _ | mo2 := mo2
      · cases (show (none : Option _) = some o2 from H)
      · rw [laws_eqVrowS_L2] at H
        refine Tr.seq ?_
        refine Tr.rs ?_
        refine LAt.runU tOk 2 (by kernel_rfl) ?_
        refine LAt.lenE tOk (t := 57) (ty := 3) (e := 138) (x := (.tmp 12)) (d := 13) (g := none) ⟨(.slot 12), [], 0, false, 3, (CV.frzEs (x0.map Vrow.row))⟩ (x0).length _ (by kernel_rfl) (by kernel_rfl) (by kernel_rfl) (by kernel_rfl) (by kernel_rfl) (frz_len _ _) rfl ?_
        refine LAt.runU tOk 1 (by kernel_rfl) ?_
        refine LAt.doneU [14, 13, 12, 11, 5, 4, 0, 1] [] (by kernel_rfl) ?_
        refine Tr.to ⟨27, 0, [(14, .val false [.lit (.bool (decide (y1 < (x0.length : Int))))]), (13, .val false [.lit (.int .i64 (x0.length : Int))]), (12, .val false [.sl false 3 (CV.frzEs (x0.map Vrow.row))]), (11, .val false [.lit (.int .i64 y1)]), (5, .val false [.lit (.int .i64 y1)]), (4, .val false [.lit (.bool false)]), (0, .val false [.sl false 3 (CV.frzEs (x0.map Vrow.row))]), (1, .val false [.sl false 3 (CV.frzEs (x1.map Vrow.row))])], []⟩ (by kernel_rfl) ?_
        cases h2 : (decide (y1 < (x0.length : Int)))
        · have H := bifF h2 H
          refine Tr.cond (b := false) (by kernel_rfl) (fun h => nomatch h) (fun _ => ?_)
          refine Tr.exit ?_
          refine And.intro (fun _ => ?_) (fun h => absurd rfl h)
          have H := Option.some.inj H
          subst H
          have H := Ho2
          dsimp only at H
          exact Exists.intro () (And.intro H (St.sub_of [4] [] (by kernel_rfl)))
        · have H := bifT h2 H
          refine Tr.cond (b := true) (by kernel_rfl) (fun _ => ?_) (fun h => nomatch h)
          refine Tr.skip ?_
          show Tr _ _ _ _ _
          refine Tr.seq ?_
          refine Tr.block ?_
          obtain ⟨v3, ev3, H⟩ := bind_some H
          obtain ⟨v4, ev4, H⟩ := bind_some H
          obtain ⟨r5, er5, H⟩ := bind_some H
          refine Tr.draws mixed 10 (by kernel_rfl) ⟨27, 0, [(26, .val false [.lit (.bool (!r5))]), (25, .val false [.lit (.bool r5)]), (24, .val true (Vrow.row v4)), (23, .fad ((Vrow.row v4))), (22, .val false [.lit (.int .i64 y1)]), (21, .val false [.sl false 3 (CV.frzEs (x1.map Vrow.row))]), (20, .val true (Vrow.row v3)), (19, .fad ((Vrow.row v3))), (18, .val false [.lit (.int .i64 y1)]), (17, .val false [.sl false 3 (CV.frzEs (x0.map Vrow.row))]), (14, .val false [.lit (.bool true)]), (13, .val false [.lit (.int .i64 (x0.length : Int))]), (12, .val false [.sl false 3 (CV.frzEs (x0.map Vrow.row))]), (11, .val false [.lit (.int .i64 y1)]), (5, .val false [.lit (.int .i64 y1)]), (4, .val false [.lit (.bool false)]), (0, .val false [.sl false 3 (CV.frzEs (x0.map Vrow.row))]), (1, .val false [.sl false 3 (CV.frzEs (x1.map Vrow.row))])], []⟩ (fun cx => ?_) ?_
          · refine AT.runU tOk [(0, []), (1, [])] 8 [] [1, 0] rfl (by kernel_rfl) (fun cx => ?_)
            refine AT.indexF tOk 2 (t := 57) (ty := 0) (x := (.tmp 17)) (y := (.tmp 18)) (d := 19) (g := none) ⟨(.slot 17), [], 0, false, 3, (CV.frzEs (x0.map Vrow.row))⟩ y1 (Vrow.row v3) _ (by kernel_rfl) (by kernel_rfl) (by kernel_rfl) (by kernel_rfl) (by kernel_rfl) (by kernel_rfl) rfl (idx_isF ev3) rfl (fun cx => ?_)
            refine AT.runU tOk [(3, []), (4, []), (5, [])] 4 [] [5, 4, 3, 2, 1, 0] rfl (by kernel_rfl) (fun cx => ?_)
            refine AT.indexF tOk 6 (t := 57) (ty := 0) (x := (.tmp 21)) (y := (.tmp 22)) (d := 23) (g := none) ⟨(.slot 21), [], 0, false, 3, (CV.frzEs (x1.map Vrow.row))⟩ y1 (Vrow.row v4) _ (by kernel_rfl) (by kernel_rfl) (by kernel_rfl) (by kernel_rfl) (by kernel_rfl) (by kernel_rfl) rfl (idx_isF ev4) rfl (fun cx => ?_)
            refine AT.runU tOk [(7, [])] 2 [] [7, 6, 5, 4, 3, 2, 1, 0] rfl (by kernel_rfl) (fun cx => ?_)
            refine AT.big1 tOk 8 (by kernel_rfl) (by kernel_rfl) ?_
            refine LAt.callU tOk [.rd, .rd] (f := 181) (av := #[.tmp 20, .tmp 24]) (ats := #[138, 138]) (d := (some 25)) (ty := 4) (g := none) (by kernel_rfl) (by kernel_rfl) (by kernel_rfl) [] (laws_eqVrow n v3 v4 r5 er5) (by kernel_rfl) (.inl rfl) ?_
            refine LAt.fin (by kernel_rfl) (And.intro (And.intro (by kernel_rfl) (by kernel_rfl)) ?_)
            refine AT.runU tOk [(9, [])] 0 [] [9, 8, 7, 6, 5, 4, 3, 2, 1, 0] rfl (by kernel_rfl) (fun cx => ?_)
            exact AT.done [26, 25, 24, 23, 22, 21, 20, 19, 18, 17, 14, 13, 12, 11, 5, 4, 0, 1] [] _ (by kernel_rfl) (by kernel_rfl) rfl
          · refine Tr.to ⟨27, 0, [(26, .val false [.lit (.bool (!r5))]), (25, .val false [.lit (.bool r5)]), (24, .val true (Vrow.row v4)), (23, .fad ((Vrow.row v4))), (22, .val false [.lit (.int .i64 y1)]), (21, .val false [.sl false 3 (CV.frzEs (x1.map Vrow.row))]), (20, .val true (Vrow.row v3)), (19, .fad ((Vrow.row v3))), (18, .val false [.lit (.int .i64 y1)]), (17, .val false [.sl false 3 (CV.frzEs (x0.map Vrow.row))]), (14, .val false [.lit (.bool true)]), (13, .val false [.lit (.int .i64 (x0.length : Int))]), (12, .val false [.sl false 3 (CV.frzEs (x0.map Vrow.row))]), (11, .val false [.lit (.int .i64 y1)]), (5, .val false [.lit (.int .i64 y1)]), (4, .val false [.lit (.bool false)]), (0, .val false [.sl false 3 (CV.frzEs (x0.map Vrow.row))]), (1, .val false [.sl false 3 (CV.frzEs (x1.map Vrow.row))])], []⟩ (by kernel_rfl) ?_
            cases h3 : (!r5)
            · have H := bifF h3 H
              refine Tr.cond (b := false) (by kernel_rfl) (fun h => nomatch h) (fun _ => ?_)
              refine Tr.skip ?_
              show Tr _ _ _ _ _
              refine Tr.at ?_
              refine LAt.runU tOk 3 (by kernel_rfl) ?_
              refine LAt.doneU [5, 16, 15, 26, 25, 24, 23, 22, 21, 20, 19, 18, 17, 14, 13, 12, 11, 4, 0, 1] [] (by kernel_rfl) ?_
              exact Exists.intro (mo2, (IntKind.wrap .i64 (y1 + 1))) (And.intro H (And.intro (Nat.lt_succ_self mo2) (St.sub_of [5, 4, 0, 1] [] (by kernel_rfl))))
            · have H := bifT h3 H
              refine Tr.cond (b := true) (by kernel_rfl) (fun _ => ?_) (fun h => nomatch h)
              refine Tr.rs ?_
              refine LAt.runU tOk 1 (by kernel_rfl) ?_
              refine LAt.doneU [4, 26, 25, 24, 23, 22, 21, 20, 19, 18, 17, 14, 13, 12, 11, 5, 0, 1] [] (by kernel_rfl) ?_
              refine Tr.ret ?_
              have H := Option.some.inj H
              subst H
              have H := Ho2
              dsimp only at H
              have H := Option.some.inj H
              subst H
              exact Fin.of _ [(false, [.lit (.bool false)])] (by kernel_rfl) rfl rfl
    · rintro _ H
      have H : (laws_eqVrowS_J1 n) = some r := H
      unfold laws_eqVrowS_J1 at H
      show Tr _ _ _ _ _
      refine Tr.rs ?_
      refine LAt.runU tOk 1 (by kernel_rfl) ?_
      refine LAt.doneU [4] [] (by kernel_rfl) ?_
      refine Tr.ret ?_
      have H := Option.some.inj H
      subst H
      exact Fin.of _ [(false, [.lit (.bool true)])] (by kernel_rfl) rfl rfl
  · have H := bifT h1 H
    refine Tr.cond (b := true) (by kernel_rfl) (fun _ => ?_) (fun h => nomatch h)
    refine Tr.rs ?_
    refine LAt.runU tOk 1 (by kernel_rfl) ?_
    refine LAt.doneU [4, 0, 1] [] (by kernel_rfl) ?_
    refine Tr.ret ?_
    have H := Option.some.inj H
    subst H
    exact Fin.of _ [(false, [.lit (.bool false)])] (by kernel_rfl) rfl rfl
end Go.Proofs.Ytjdedhklbdkeoaa.Tw
