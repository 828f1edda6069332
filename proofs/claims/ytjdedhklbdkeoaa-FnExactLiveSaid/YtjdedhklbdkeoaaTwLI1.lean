/- Functions of the program, over trees. -/
import Derived.Test.YtjdedhklbdkeoaaProg
import Derived.Test.YtjdedhklbdkeoaaTlRule
import Derived.Test.YtjdedhklbdkeoaaTlU5
import Derived.Test.YtjdedhklbdkeoaaTwLI0
import Derived.WalkKit
set_option linter.unusedVariables false
set_option linter.unusedSimpArgs false
set_option maxRecDepth 100000
set_option maxHeartbeats 1000000
namespace Go.Proofs.Ytjdedhklbdkeoaa.Tw
open Go Go.TL Go.Proofs


def spec_RoleOfF (n : Nat) (x0 : Int) (x1 : (List Pt)) (x2 : Int) : Option (Int) :=
  ((spec_l1InF n x2 0 (IntKind.wrap .i64 ((x1.length : Int) - 1))).bind fun r1 => (bif (!r1) then (some 4) else ((idx x1 x2).bind fun v2 => (bif (!v2.Up) then (some 4) else ((spec_BestVecF n x0 x1).bind fun r3 => (bif (r3.2 == x2) then (some 1) else ((idx x1 x2).bind fun v4 => (bif (!v4.Has) then (some 2) else ((spec_SayVecF n x0 x1 x2).bind fun r5 => ((idx x1 x2).bind fun v6 => ((spec_LessVecF n r5 v6.Heard).bind fun r7 => (bif r7 then (some 2) else (some 3)))))))))))))
/-- loop.example/g00326/spec.RoleOf -/
theorem spec_RoleOf (n : Nat) (x0 : Int) (x1 : (List Pt)) (x2 : Int) (r : Int) (H : spec_RoleOfF n x0 x1 x2 = some r) : LCall Try.prog 170 [.val false [.lit (.int .i64 x0)], .val false [.sl false 8 (CV.frzEs (x1.map Pt.row))], .val false [.lit (.int .i64 x2)]] [.val false [.lit (.int .i64 r)]] [] := by
  refine LCall.of_body tOk Try.func170 rfl (c := (.seq (.region 0 (rg Try.f170 0) false) (.seq (.seq (.region 1 (rg Try.f170 1) false) (.cond (.tmp 22) (.seq (.region 2 (rg Try.f170 2) false) .ret) .skip)) (.seq (.region 3 (rg Try.f170 3) false) (.seq (.block 0 (.seq (.region 4 (rg Try.f170 4) false) (.cond (.tmp 29) (.seq (.region 5 (rg Try.f170 5) false) .ret) (.seq (.region 6 (rg Try.f170 6) true) (.cond (.tmp 33) (.seq (.region 7 (rg Try.f170 7) false) .ret) .skip))))) (.seq (.region 8 (rg Try.f170 8) false) .ret)))))) (by kernel_rfl) (Nat.le_of_ble_eq_true (by kernel_rfl)) 0 (rs := [.tmp 6]) rfl [] .nil [(false, [.lit (.int .i64 r)])] [] [] fun cx => ?_
  show Tr _ _ _ ⟨52, 0, [(0, .val false [.lit (.int .i64 x0)]), (1, .val false [.sl false 8 (CV.frzEs (x1.map Pt.row))]), (2, .val false [.lit (.int .i64 x2)])], []⟩ _
  unfold spec_RoleOfF at H
  refine Tr.rs ?_
  refine LAt.runU tOk 1 (by kernel_rfl) ?_
  refine LAt.doneU [6, 0, 1, 2] [] (by kernel_rfl) ?_
  refine Tr.seq ?_
  refine Tr.rs ?_
  refine LAt.runU tOk 2 (by kernel_rfl) ?_
  refine LAt.lenE tOk (t := 55) (ty := 3) (e := 114) (x := (.tmp 10)) (d := 11) (g := none) ⟨(.slot 10), [], 0, false, 8, (CV.frzEs (x1.map Pt.row))⟩ (x1).length _ (by kernel_rfl) (by kernel_rfl) (by kernel_rfl) (by kernel_rfl) (by kernel_rfl) (frz_len _ _) rfl ?_
  refine LAt.runU tOk 1 (by kernel_rfl) ?_
  obtain ⟨r1, er1, H⟩ := bind_some H
  refine LAt.callU tOk [.rd, .rd, .rd] (f := 65) (av := #[.tmp 9, .const (.int .i64 0), .tmp 12]) (ats := #[3, 3, 3]) (d := (some 13)) (ty := 4) (g := none) (by kernel_rfl) (by kernel_rfl) (by kernel_rfl) [] (spec_l1In n x2 0 (IntKind.wrap .i64 ((x1.length : Int) - 1)) r1 er1) (by kernel_rfl) (.inl rfl) ?_
  refine LAt.runU tOk 2 (by kernel_rfl) ?_
  refine LAt.to ⟨52, 0, [(15, .val false [.lit (.bool (!r1))]), (14, .val false [.lit (.bool (!r1))]), (13, .val false [.lit (.bool r1)]), (12, .val false [.lit (.int .i64 (IntKind.wrap .i64 ((x1.length : Int) - 1)))]), (11, .val false [.lit (.int .i64 (x1.length : Int))]), (10, .val false [.sl false 8 (CV.frzEs (x1.map Pt.row))]), (9, .val false [.lit (.int .i64 x2)]), (6, .val false [.lit (.int .i64 0)]), (0, .val false [.lit (.int .i64 x0)]), (1, .val false [.sl false 8 (CV.frzEs (x1.map Pt.row))]), (2, .val false [.lit (.int .i64 x2)])], []⟩ (by kernel_rfl) ?_
  cases h1 : (!r1)
  · have H := bifF h1 H
    refine LAt.runU tOk 2 (by kernel_rfl) ?_
    obtain ⟨v2, ev2, H⟩ := bind_some H
    refine LAt.indexF tOk (t := 55) (ty := 0) (x := (.tmp 16)) (y := (.tmp 17)) (d := 18) (g := (some (6, false))) ⟨(.slot 16), [], 0, false, 8, (CV.frzEs (x1.map Pt.row))⟩ x2 (Pt.row v2) _ (by kernel_rfl) (by kernel_rfl) (by kernel_rfl) (by kernel_rfl) rfl (idx_isF ev2) rfl ?_
    refine LAt.runU tOk 4 (by kernel_rfl) ?_
    refine LAt.doneU [22, 6, 0, 1, 2] [] (by kernel_rfl) ?_
    refine Tr.to ⟨52, 0, [(22, .val false [.lit (.bool (!v2.Up))]), (6, .val false [.lit (.int .i64 0)]), (0, .val false [.lit (.int .i64 x0)]), (1, .val false [.sl false 8 (CV.frzEs (x1.map Pt.row))]), (2, .val false [.lit (.int .i64 x2)])], []⟩ (by kernel_rfl) ?_
    cases h2 : (!v2.Up)
    · have H := bifF h2 H
      refine Tr.cond (b := false) (by kernel_rfl) (fun h => nomatch h) (fun _ => ?_)
      refine Tr.skip ?_
      show Tr _ _ _ _ _
      refine Tr.rs ?_
      refine LAt.runU tOk 2 (by kernel_rfl) ?_
      obtain ⟨r3, er3, H⟩ := bind_some H
      refine LAt.callU tOk [.rd, .rd] (f := 185) (av := #[.tmp 24, .tmp 25]) (ats := #[3, 55]) (d := (some 26)) (ty := 181) (g := none) (by kernel_rfl) (by kernel_rfl) (by kernel_rfl) [] (spec_BestVec n x0 x1 r3 er3) (by kernel_rfl) (.inl rfl) ?_
      refine LAt.movT tOk (ty := 181) (t := 26) (d := 23) (g := none) [(true, (Vec.row r3.1)), (false, [.lit (.int .i64 r3.2)])] _ (by kernel_rfl) (.inl rfl) (by kernel_rfl) (by kernel_rfl) (by kernel_rfl) (by kernel_rfl) rfl ?_
      refine LAt.runU tOk 5 (by kernel_rfl) ?_
      refine LAt.doneU [8, 6, 0, 1, 2] [] (by kernel_rfl) ?_
      refine Tr.seq ?_
      refine Tr.block ?_
      refine Tr.rs ?_
      refine LAt.runU tOk 4 (by kernel_rfl) ?_
      refine LAt.doneU [29, 6, 0, 1, 2] [] (by kernel_rfl) ?_
      refine Tr.to ⟨52, 0, [(29, .val false [.lit (.bool (r3.2 == x2))]), (6, .val false [.lit (.int .i64 0)]), (0, .val false [.lit (.int .i64 x0)]), (1, .val false [.sl false 8 (CV.frzEs (x1.map Pt.row))]), (2, .val false [.lit (.int .i64 x2)])], []⟩ (by kernel_rfl) ?_
      cases h3 : (r3.2 == x2)
      · have H := bifF h3 H
        refine Tr.cond (b := false) (by kernel_rfl) (fun h => nomatch h) (fun _ => ?_)
        obtain ⟨v4, ev4, H⟩ := bind_some H
        refine Tr.to ⟨52, 0, [(29, .val false [.lit (.bool false)]), (6, .val false [.lit (.int .i64 0)]), (0, .val false [.lit (.int .i64 x0)]), (1, .val false [.sl false 8 (CV.frzEs (x1.map Pt.row))]), (2, .val false [.lit (.int .i64 x2)])], []⟩ (by kernel_rfl) ?_
        cases h4 : (!v4.Has)
        · have H := bifF h4 H
          obtain ⟨r5, er5, H⟩ := bind_some H
          obtain ⟨v6, ev6, H⟩ := bind_some H
          obtain ⟨r7, er7, H⟩ := bind_some H
          refine Tr.draws mixed 19 (by kernel_rfl) ⟨52, 0, [(33, .val false [.lit (.bool r7)]), (6, .val false [.lit (.int .i64 0)])], []⟩ (fun cx => ?_) ?_
          · refine AT.runU tOk [(0, []), (1, [])] 17 [] [1, 0] rfl (by kernel_rfl) (fun cx => ?_)
            refine AT.indexF tOk 2 (t := 55) (ty := 0) (x := (.tmp 34)) (y := (.tmp 35)) (d := 36) (g := none) ⟨(.slot 34), [], 0, false, 8, (CV.frzEs (x1.map Pt.row))⟩ x2 (Pt.row v4) _ (by kernel_rfl) (by kernel_rfl) (by kernel_rfl) (by kernel_rfl) (by kernel_rfl) (by kernel_rfl) rfl (idx_isF ev4) rfl (fun cx => ?_)
            refine AT.runU tOk [(3, []), (4, []), (5, []), (6, [])] 12 [] [6, 5, 4, 3, 2, 1, 0] rfl (by kernel_rfl) (fun cx => ?_)
            refine AT.to ⟨52, 0, [(40, .val false [.lit (.bool (!v4.Has))]), (39, .val false [.lit (.bool (!v4.Has))]), (38, .val false [.lit (.bool v4.Has)]), (37, .fad (((Pt.row v4).drop 2))), (36, .fad ((Pt.row v4))), (35, .val false [.lit (.int .i64 x2)]), (34, .val false [.sl false 8 (CV.frzEs (x1.map Pt.row))]), (29, .val false [.lit (.bool false)]), (6, .val false [.lit (.int .i64 0)]), (0, .val false [.lit (.int .i64 x0)]), (1, .val false [.sl false 8 (CV.frzEs (x1.map Pt.row))]), (2, .val false [.lit (.int .i64 x2)])], []⟩ (by kernel_rfl) ?_
            rw [h4]
            refine AT.runU tOk [(7, []), (8, []), (9, []), (11, []), (12, [])] 7 [] [12, 11, 9, 8, 7, 6, 5, 4, 3, 2, 1, 0] rfl (by kernel_rfl) (fun cx => ?_)
            refine AT.indexF tOk 13 (t := 55) (ty := 0) (x := (.tmp 45)) (y := (.tmp 46)) (d := 47) (g := (some (6, false))) ⟨(.slot 45), [], 0, false, 8, (CV.frzEs (x1.map Pt.row))⟩ x2 (Pt.row v6) _ (by kernel_rfl) (by kernel_rfl) (by kernel_rfl) (by kernel_rfl) (by kernel_rfl) (by kernel_rfl) rfl (idx_isF ev6) rfl (fun cx => ?_)
            refine AT.runU tOk [(14, []), (15, [])] 4 [] [15, 14, 13, 12, 11, 9, 8, 7, 6, 5, 4, 3, 2, 1, 0] rfl (by kernel_rfl) (fun cx => ?_)
            refine AT.big1 tOk 10 (by kernel_rfl) (by kernel_rfl) ?_
            refine LAt.callU tOk [.rd, .rd, .rd] (f := 174) (av := #[.tmp 41, .tmp 42, .tmp 43]) (ats := #[3, 55, 3]) (d := (some 44)) (ty := 70) (g := (some (6, false))) (by kernel_rfl) (by kernel_rfl) (by kernel_rfl) [] (spec_SayVec n x0 x1 x2 r5 er5) (by kernel_rfl) (.inl rfl) ?_
            refine LAt.fin (by kernel_rfl) (And.intro (And.intro (by kernel_rfl) (by kernel_rfl)) ?_)
            refine AT.big1 tOk 16 (by kernel_rfl) (by kernel_rfl) ?_
            refine LAt.callU tOk [.rd, .rd] (f := 186) (av := #[.tmp 44, .tmp 49]) (ats := #[70, 70]) (d := (some 50)) (ty := 4) (g := (some (6, false))) (by kernel_rfl) (by kernel_rfl) (by kernel_rfl) [] (spec_LessVec n r5 v6.Heard r7 er7) (by kernel_rfl) (.inl rfl) ?_
            refine LAt.fin (by kernel_rfl) (And.intro (And.intro (by kernel_rfl) (by kernel_rfl)) ?_)
            refine AT.runU tOk [(17, []), (18, [])] 0 [] [18, 17, 16, 10, 15, 14, 13, 12, 11, 9, 8, 7, 6, 5, 4, 3, 2, 1, 0] rfl (by kernel_rfl) (fun cx => ?_)
            exact AT.done [33, 6] [] _ (by kernel_rfl) (by kernel_rfl) rfl
          · refine Tr.to ⟨52, 0, [(33, .val false [.lit (.bool r7)]), (6, .val false [.lit (.int .i64 0)])], []⟩ (by kernel_rfl) ?_
            cases h5 : r7
            · have H := bifF h5 H
              refine Tr.cond (b := false) (by kernel_rfl) (fun h => nomatch h) (fun _ => ?_)
              refine Tr.skip ?_
              show Tr _ _ _ _ _
              refine Tr.rs ?_
              refine LAt.runU tOk 1 (by kernel_rfl) ?_
              refine LAt.doneU [6] [] (by kernel_rfl) ?_
              refine Tr.ret ?_
              have H := Option.some.inj H
              subst H
              exact Fin.of _ [(false, [.lit (.int .i64 3)])] (by kernel_rfl) rfl rfl
            · have H := bifT h5 H
              refine Tr.cond (b := true) (by kernel_rfl) (fun _ => ?_) (fun h => nomatch h)
              refine Tr.rs ?_
              refine LAt.runU tOk 1 (by kernel_rfl) ?_
              refine LAt.doneU [6] [] (by kernel_rfl) ?_
              refine Tr.ret ?_
              have H := Option.some.inj H
              subst H
              exact Fin.of _ [(false, [.lit (.int .i64 2)])] (by kernel_rfl) rfl rfl
        · have H := bifT h4 H
          refine Tr.draws mixed 19 (by kernel_rfl) ⟨52, 0, [(33, .val false [.lit (.bool true)]), (6, .val false [.lit (.int .i64 0)])], []⟩ (fun cx => ?_) ?_
          · refine AT.runU tOk [(0, []), (1, [])] 17 [] [1, 0] rfl (by kernel_rfl) (fun cx => ?_)
            refine AT.indexF tOk 2 (t := 55) (ty := 0) (x := (.tmp 34)) (y := (.tmp 35)) (d := 36) (g := none) ⟨(.slot 34), [], 0, false, 8, (CV.frzEs (x1.map Pt.row))⟩ x2 (Pt.row v4) _ (by kernel_rfl) (by kernel_rfl) (by kernel_rfl) (by kernel_rfl) (by kernel_rfl) (by kernel_rfl) rfl (idx_isF ev4) rfl (fun cx => ?_)
            refine AT.runU tOk [(3, []), (4, []), (5, []), (6, [])] 12 [] [6, 5, 4, 3, 2, 1, 0] rfl (by kernel_rfl) (fun cx => ?_)
            refine AT.to ⟨52, 0, [(40, .val false [.lit (.bool (!v4.Has))]), (39, .val false [.lit (.bool (!v4.Has))]), (38, .val false [.lit (.bool v4.Has)]), (37, .fad (((Pt.row v4).drop 2))), (36, .fad ((Pt.row v4))), (35, .val false [.lit (.int .i64 x2)]), (34, .val false [.sl false 8 (CV.frzEs (x1.map Pt.row))]), (29, .val false [.lit (.bool false)]), (6, .val false [.lit (.int .i64 0)]), (0, .val false [.lit (.int .i64 x0)]), (1, .val false [.sl false 8 (CV.frzEs (x1.map Pt.row))]), (2, .val false [.lit (.int .i64 x2)])], []⟩ (by kernel_rfl) ?_
            rw [h4]
            refine AT.runU tOk [(7, []), (8, []), (9, []), (10, []), (11, []), (12, []), (13, []), (14, []), (15, []), (16, []), (17, []), (18, [])] 0 [] [18, 17, 16, 15, 14, 13, 12, 11, 10, 9, 8, 7, 6, 5, 4, 3, 2, 1, 0] rfl (by kernel_rfl) (fun cx => ?_)
            exact AT.done [33, 6] [] _ (by kernel_rfl) (by kernel_rfl) rfl
          · refine Tr.cond (b := true) (by kernel_rfl) (fun _ => ?_) (fun h => nomatch h)
            refine Tr.rs ?_
            refine LAt.runU tOk 1 (by kernel_rfl) ?_
            refine LAt.doneU [6] [] (by kernel_rfl) ?_
            refine Tr.ret ?_
            have H := Option.some.inj H
            subst H
            exact Fin.of _ [(false, [.lit (.int .i64 2)])] (by kernel_rfl) rfl rfl
      · have H := bifT h3 H
        refine Tr.cond (b := true) (by kernel_rfl) (fun _ => ?_) (fun h => nomatch h)
        refine Tr.rs ?_
        refine LAt.runU tOk 1 (by kernel_rfl) ?_
        refine LAt.doneU [6] [] (by kernel_rfl) ?_
        refine Tr.ret ?_
        have H := Option.some.inj H
        subst H
        exact Fin.of _ [(false, [.lit (.int .i64 1)])] (by kernel_rfl) rfl rfl
    · have H := bifT h2 H
      refine Tr.cond (b := true) (by kernel_rfl) (fun _ => ?_) (fun h => nomatch h)
      refine Tr.rs ?_
      refine LAt.runU tOk 1 (by kernel_rfl) ?_
      refine LAt.doneU [6, 0, 1, 2] [] (by kernel_rfl) ?_
      refine Tr.ret ?_
      have H := Option.some.inj H
      subst H
      exact Fin.of _ [(false, [.lit (.int .i64 4)])] (by kernel_rfl) rfl rfl
  · have H := bifT h1 H
    refine LAt.runU tOk 7 (by kernel_rfl) ?_
    refine LAt.doneU [22, 6, 0, 1, 2] [] (by kernel_rfl) ?_
    refine Tr.cond (b := true) (by kernel_rfl) (fun _ => ?_) (fun h => nomatch h)
    refine Tr.rs ?_
    refine LAt.runU tOk 1 (by kernel_rfl) ?_
    refine LAt.doneU [6, 0, 1, 2] [] (by kernel_rfl) ?_
    refine Tr.ret ?_
    have H := Option.some.inj H
    subst H
    exact Fin.of _ [(false, [.lit (.int .i64 4)])] (by kernel_rfl) rfl rfl

def spec_Sends_J1 (n : Nat) (y3 : Int) : Option (Int) :=
  (some y3)
def spec_Sends_L2 (n : Nat) : Nat → Int → (List Pt) → Int → Int → Option ((Int) ⊕ (Int))
  | 0, _, _, _, _ => none
  | mo4 + 1, x0, x1, y1, y2 => (bif (decide (y1 < (x1.length : Int))) then (bif (decide (y1 < 6)) then ((spec_RoleOfF n x0 x1 y1).bind fun r5 => (bif (decide (r5 ≤ 2)) then (bif (decide ((0 : Int) ≤ (IntKind.wrap .u64 y1))) then (spec_Sends_L2 n mo4 x0 x1 (IntKind.wrap .i64 (y1 + 1)) (IntKind.wrap .i64 (BitVec.ofInt (IntKind.bits .i64) y2 ||| BitVec.ofInt (IntKind.bits .i64) (IntKind.wrap .i64 (1 * 2 ^ min (((IntKind.wrap .u64 y1) : Int)).toNat (IntKind.bits .i64)))).toNat)) else none) else (spec_Sends_L2 n mo4 x0 x1 (IntKind.wrap .i64 (y1 + 1)) y2))) else (some (Sum.inl y2))) else (some (Sum.inl y2)))
def spec_SendsF (n : Nat) (x0 : Int) (x1 : (List Pt)) : Option (Int) :=
  ((spec_Sends_L2 n n x0 x1 0 0).bind fun o => match o with | .inl y3 => (spec_Sends_J1 n y3) | .inr r => some r)
/-- loop.example/g00326/spec.Sends -/
theorem spec_Sends (n : Nat) (x0 : Int) (x1 : (List Pt)) (r : Int) (H : spec_SendsF n x0 x1 = some r) : LCall Try.prog 147 [.val false [.lit (.int .i64 x0)], .val false [.sl false 8 (CV.frzEs (x1.map Pt.row))]] [.val false [.lit (.int .i64 r)]] [] := by
  refine LCall.of_body tOk Try.func147 rfl (c := (.seq (.region 0 (rg Try.f147 0) false) (.seq (.region 1 (rg Try.f147 1) false) (.seq (.seq (.region 2 (rg Try.f147 2) false) (.block 0 (.loop (.seq (.seq (.region 3 (rg Try.f147 3) false) (.cond (.tmp 14) .skip (.exit 0))) (.seq (.block 1 (.seq (.region 5 (rg Try.f147 5) false) (.cond (.tmp 21) (.region 6 (rg Try.f147 6) false) .skip))) (.region 4 (rg Try.f147 4) false)))))) (.seq (.region 7 (rg Try.f147 7) false) .ret))))) (by kernel_rfl) (Nat.le_of_ble_eq_true (by kernel_rfl)) 0 (rs := [.tmp 4]) rfl [] .nil [(false, [.lit (.int .i64 r)])] [] [] fun cx => ?_
  show Tr _ _ _ ⟨28, 0, [(0, .val false [.lit (.int .i64 x0)]), (1, .val false [.sl false 8 (CV.frzEs (x1.map Pt.row))])], []⟩ _
  unfold spec_SendsF at H
  refine Tr.rs ?_
  refine LAt.runU tOk 1 (by kernel_rfl) ?_
  refine LAt.doneU [4, 0, 1] [] (by kernel_rfl) ?_
  refine Tr.rs ?_
  refine LAt.runU tOk 1 (by kernel_rfl) ?_
  refine LAt.doneU [5, 4, 0, 1] [] (by kernel_rfl) ?_
  refine Tr.seq ?_
  refine Tr.rs ?_
  refine LAt.runU tOk 1 (by kernel_rfl) ?_
  refine LAt.doneU [6, 5, 4, 0, 1] [] (by kernel_rfl) ?_
  obtain ⟨o4, eo4, Ho4⟩ := bind_some H
  clear H
  refine Tr.mid (ι := Int) (fun v => ⟨28, 0, [(5, .val false [.lit (.int .i64 v)]), (4, .val false [.lit (.int .i64 0)])], []⟩) (fun v => spec_Sends_J1 n v = some r) ?_ ?_
  · refine Tr.block ?_
    refine Tr.loop (ι := Nat × (Int × Int)) (fun v => ⟨28, 0, [(6, .val false [.lit (.int .i64 v.2.1)]), (5, .val false [.lit (.int .i64 v.2.2)]), (4, .val false [.lit (.int .i64 0)]), (0, .val false [.lit (.int .i64 x0)]), (1, .val false [.sl false 8 (CV.frzEs (x1.map Pt.row))])], []⟩) (fun v => spec_Sends_L2 n v.1 x0 x1 v.2.1 v.2.2 = some o4) (fun v => v.1) (n, (0, 0)) eo4 (St.sub_of [6, 5, 4, 0, 1] [] (by kernel_rfl)) ?_
    rintro ⟨mo4, y1, y2⟩ H
    have H : spec_Sends_L2 n mo4 x0 x1 y1 y2 = some o4 := H
    obtain _ | mo4 := mo4
    · cases (show (none : Option _) = some o4 from H)
    · rw [spec_Sends_L2] at H
      refine Tr.seq ?_
      refine Tr.rs ?_
      refine LAt.runU tOk 2 (by kernel_rfl) ?_
      refine LAt.lenE tOk (t := 55) (ty := 3) (e := 114) (x := (.tmp 8)) (d := 9) (g := none) ⟨(.slot 8), [], 0, false, 8, (CV.frzEs (x1.map Pt.row))⟩ (x1).length _ (by kernel_rfl) (by kernel_rfl) (by kernel_rfl) (by kernel_rfl) (by kernel_rfl) (frz_len _ _) rfl ?_
      refine LAt.runU tOk 2 (by kernel_rfl) ?_
      refine LAt.to ⟨28, 0, [(11, .val false [.lit (.bool (decide (y1 < (x1.length : Int))))]), (10, .val false [.lit (.bool (decide (y1 < (x1.length : Int))))]), (9, .val false [.lit (.int .i64 (x1.length : Int))]), (8, .val false [.sl false 8 (CV.frzEs (x1.map Pt.row))]), (7, .val false [.lit (.int .i64 y1)]), (6, .val false [.lit (.int .i64 y1)]), (5, .val false [.lit (.int .i64 y2)]), (4, .val false [.lit (.int .i64 0)]), (0, .val false [.lit (.int .i64 x0)]), (1, .val false [.sl false 8 (CV.frzEs (x1.map Pt.row))])], []⟩ (by kernel_rfl) ?_
      cases h1 : (decide (y1 < (x1.length : Int)))
      · have H := bifF h1 H
        refine LAt.runU tOk 3 (by kernel_rfl) ?_
        refine LAt.doneU [14, 13, 12, 11, 10, 9, 8, 7, 6, 5, 4, 0, 1] [] (by kernel_rfl) ?_
        refine Tr.cond (b := false) (by kernel_rfl) (fun h => nomatch h) (fun _ => ?_)
        refine Tr.exit ?_
        refine And.intro (fun _ => ?_) (fun h => absurd rfl h)
        have H := Option.some.inj H
        subst H
        have H := Ho4
        dsimp only at H
        exact Exists.intro y2 (And.intro H (St.sub_of [5, 4] [] (by kernel_rfl)))
      · have H := bifT h1 H
        refine LAt.runU tOk 3 (by kernel_rfl) ?_
        refine LAt.doneU [14, 13, 12, 11, 10, 9, 8, 7, 6, 5, 4, 0, 1] [] (by kernel_rfl) ?_
        refine Tr.to ⟨28, 0, [(14, .val false [.lit (.bool (decide (y1 < 6)))]), (13, .val false [.lit (.bool (decide (y1 < 6)))]), (12, .val false [.lit (.int .i64 y1)]), (11, .val false [.lit (.bool true)]), (10, .val false [.lit (.bool true)]), (9, .val false [.lit (.int .i64 (x1.length : Int))]), (8, .val false [.sl false 8 (CV.frzEs (x1.map Pt.row))]), (7, .val false [.lit (.int .i64 y1)]), (6, .val false [.lit (.int .i64 y1)]), (5, .val false [.lit (.int .i64 y2)]), (4, .val false [.lit (.int .i64 0)]), (0, .val false [.lit (.int .i64 x0)]), (1, .val false [.sl false 8 (CV.frzEs (x1.map Pt.row))])], []⟩ (by kernel_rfl) ?_
        cases h2 : (decide (y1 < 6))
        · have H := bifF h2 H
          refine Tr.cond (b := false) (by kernel_rfl) (fun h => nomatch h) (fun _ => ?_)
          refine Tr.exit ?_
          refine And.intro (fun _ => ?_) (fun h => absurd rfl h)
          have H := Option.some.inj H
          subst H
          have H := Ho4
          dsimp only at H
          exact Exists.intro y2 (And.intro H (St.sub_of [5, 4] [] (by kernel_rfl)))
        · have H := bifT h2 H
          refine Tr.cond (b := true) (by kernel_rfl) (fun _ => ?_) (fun h => nomatch h)
          refine Tr.skip ?_
          show Tr _ _ _ _ _
          refine Tr.seq ?_
          refine Tr.block ?_
          refine Tr.rs ?_
          refine LAt.runU tOk 3 (by kernel_rfl) ?_
          obtain ⟨r5, er5, H⟩ := bind_some H
          refine LAt.callU tOk [.rd, .rd, .rd] (f := 170) (av := #[.tmp 17, .tmp 18, .tmp 19]) (ats := #[3, 55, 3]) (d := (some 20)) (ty := 3) (g := none) (by kernel_rfl) (by kernel_rfl) (by kernel_rfl) [] (spec_RoleOf n x0 x1 y1 r5 er5) (by kernel_rfl) (.inl rfl) ?_
          refine LAt.runU tOk 1 (by kernel_rfl) ?_
          refine LAt.doneU [21, 20, 19, 18, 17, 14, 13, 12, 11, 10, 9, 8, 7, 6, 5, 4, 0, 1] [] (by kernel_rfl) ?_
          refine Tr.to ⟨28, 0, [(21, .val false [.lit (.bool (decide (r5 ≤ 2)))]), (20, .val false [.lit (.int .i64 r5)]), (19, .val false [.lit (.int .i64 y1)]), (18, .val false [.sl false 8 (CV.frzEs (x1.map Pt.row))]), (17, .val false [.lit (.int .i64 x0)]), (14, .val false [.lit (.bool true)]), (13, .val false [.lit (.bool true)]), (12, .val false [.lit (.int .i64 y1)]), (11, .val false [.lit (.bool true)]), (10, .val false [.lit (.bool true)]), (9, .val false [.lit (.int .i64 (x1.length : Int))]), (8, .val false [.sl false 8 (CV.frzEs (x1.map Pt.row))]), (7, .val false [.lit (.int .i64 y1)]), (6, .val false [.lit (.int .i64 y1)]), (5, .val false [.lit (.int .i64 y2)]), (4, .val false [.lit (.int .i64 0)]), (0, .val false [.lit (.int .i64 x0)]), (1, .val false [.sl false 8 (CV.frzEs (x1.map Pt.row))])], []⟩ (by kernel_rfl) ?_
          cases h3 : (decide (r5 ≤ 2))
          · have H := bifF h3 H
            refine Tr.cond (b := false) (by kernel_rfl) (fun h => nomatch h) (fun _ => ?_)
            refine Tr.skip ?_
            show Tr _ _ _ _ _
            refine Tr.at ?_
            refine LAt.runU tOk 3 (by kernel_rfl) ?_
            refine LAt.doneU [6, 16, 15, 21, 20, 19, 18, 17, 14, 13, 12, 11, 10, 9, 8, 7, 5, 4, 0, 1] [] (by kernel_rfl) ?_
            exact Exists.intro (mo4, ((IntKind.wrap .i64 (y1 + 1)), y2)) (And.intro H (And.intro (Nat.lt_succ_self mo4) (St.sub_of [6, 5, 4, 0, 1] [] (by kernel_rfl))))
          · have H := bifT h3 H
            refine Tr.cond (b := true) (by kernel_rfl) (fun _ => ?_) (fun h => nomatch h)
            refine Tr.at ?_
            refine LAt.runU tOk 3 (by kernel_rfl) ?_
            obtain ⟨hg6, H⟩ := guard_some H
            refine LAt.binC tOk (op := .shl) (t := 3) (ty := 185) (ty' := 3) (x := (.const (.int .i64 1))) (y := (.tmp 24)) (d := 25) (g := none) (.int .i64 1) (.int .u64 (IntKind.wrap .u64 y1)) (.int .i64 (IntKind.wrap .i64 (1 * 2 ^ min (((IntKind.wrap .u64 y1) : Int)).toNat (IntKind.bits .i64)))) _ (by kernel_rfl) (by kernel_rfl) (by kernel_rfl) (by kernel_rfl) (by kernel_rfl) (φ := (0 : Int) ≤ (IntKind.wrap .u64 y1)) (by kernel_rfl) (of_decide_eq_true hg6) rfl ?_
            refine LAt.runU tOk 2 (by kernel_rfl) ?_
            refine LAt.doneU [5, 26, 25, 24, 23, 22, 21, 20, 19, 18, 17, 14, 13, 12, 11, 10, 9, 8, 7, 6, 4, 0, 1] [] (by kernel_rfl) ?_
            show Tr _ _ _ _ _
            refine Tr.at ?_
            refine LAt.runU tOk 3 (by kernel_rfl) ?_
            refine LAt.doneU [6, 16, 15, 5, 26, 25, 24, 23, 22, 21, 20, 19, 18, 17, 14, 13, 12, 11, 10, 9, 8, 7, 4, 0, 1] [] (by kernel_rfl) ?_
            exact Exists.intro (mo4, ((IntKind.wrap .i64 (y1 + 1)), (IntKind.wrap .i64 (BitVec.ofInt (IntKind.bits .i64) y2 ||| BitVec.ofInt (IntKind.bits .i64) (IntKind.wrap .i64 (1 * 2 ^ min (((IntKind.wrap .u64 y1) : Int)).toNat (IntKind.bits .i64)))).toNat))) (And.intro H (And.intro (Nat.lt_succ_self mo4) (St.sub_of [6, 5, 4, 0, 1] [] (by kernel_rfl))))
  · rintro y3 H
    have H : (spec_Sends_J1 n y3) = some r := H
    unfold spec_Sends_J1 at H
    show Tr _ _ _ _ _
    refine Tr.rs ?_
    refine LAt.runU tOk 2 (by kernel_rfl) ?_
    refine LAt.doneU [4] [] (by kernel_rfl) ?_
    refine Tr.ret ?_
    have H := Option.some.inj H
    subst H
    exact Fin.of _ [(false, [.lit (.int .i64 y3)])] (by kernel_rfl) rfl rfl

def spec_l9BitF (n : Nat) (x0 : Int) (x1 : Int) : Option (Bool) :=
  ((spec_l1InF n x1 0 7).bind fun r1 => (bif r1 then (bif (decide ((0 : Int) ≤ (IntKind.wrap .u64 x1))) then (some ((IntKind.wrap .i64 (BitVec.ofInt (IntKind.bits .i64) (Int.fdiv x0 (2 ^ min (((IntKind.wrap .u64 x1) : Int)).toNat (IntKind.bits .i64))) &&& BitVec.ofInt (IntKind.bits .i64) 1).toNat) == 1)) else none) else (some false)))
/-- loop.example/g00326/spec.l9Bit -/
theorem spec_l9Bit (n : Nat) (x0 : Int) (x1 : Int) (r : Bool) (H : spec_l9BitF n x0 x1 = some r) : LCall Try.prog 146 [.val false [.lit (.int .i64 x0)], .val false [.lit (.int .i64 x1)]] [.val false [.lit (.bool r)]] [] := by
  refine LCall.of_body tOk Try.func146 rfl (c := (.seq (.region 0 (rg Try.f146 0) false) (.seq (.region 1 (rg Try.f146 1) false) .ret))) (by kernel_rfl) (Nat.le_of_ble_eq_true (by kernel_rfl)) 0 (rs := [.tmp 4]) rfl [] .nil [(false, [.lit (.bool r)])] [] [] fun cx => ?_
  show Tr _ _ _ ⟨15, 0, [(0, .val false [.lit (.int .i64 x0)]), (1, .val false [.lit (.int .i64 x1)])], []⟩ _
  unfold spec_l9BitF at H
  refine Tr.rs ?_
  refine LAt.runU tOk 1 (by kernel_rfl) ?_
  refine LAt.doneU [4, 0, 1] [] (by kernel_rfl) ?_
  refine Tr.rs ?_
  refine LAt.runU tOk 1 (by kernel_rfl) ?_
  obtain ⟨r1, er1, H⟩ := bind_some H
  refine LAt.callU tOk [.rd, .rd, .rd] (f := 65) (av := #[.tmp 5, .const (.int .i64 0), .const (.int .i64 7)]) (ats := #[3, 3, 3]) (d := (some 6)) (ty := 4) (g := none) (by kernel_rfl) (by kernel_rfl) (by kernel_rfl) [] (spec_l1In n x1 0 7 r1 er1) (by kernel_rfl) (.inl rfl) ?_
  refine LAt.runU tOk 1 (by kernel_rfl) ?_
  refine LAt.to ⟨15, 0, [(7, .val false [.lit (.bool r1)]), (6, .val false [.lit (.bool r1)]), (5, .val false [.lit (.int .i64 x1)]), (4, .val false [.lit (.bool false)]), (0, .val false [.lit (.int .i64 x0)]), (1, .val false [.lit (.int .i64 x1)])], []⟩ (by kernel_rfl) ?_
  cases h1 : r1
  · have H := bifF h1 H
    refine LAt.runU tOk 8 (by kernel_rfl) ?_
    refine LAt.doneU [4] [] (by kernel_rfl) ?_
    refine Tr.ret ?_
    have H := Option.some.inj H
    subst H
    exact Fin.of _ [(false, [.lit (.bool false)])] (by kernel_rfl) rfl rfl
  · have H := bifT h1 H
    refine LAt.runU tOk 3 (by kernel_rfl) ?_
    obtain ⟨hg2, H⟩ := guard_some H
    refine LAt.binC tOk (op := .shr) (t := 3) (ty := 185) (ty' := 3) (x := (.tmp 8)) (y := (.tmp 10)) (d := 11) (g := (some (2, true))) (.int .i64 x0) (.int .u64 (IntKind.wrap .u64 x1)) (.int .i64 (Int.fdiv x0 (2 ^ min (((IntKind.wrap .u64 x1) : Int)).toNat (IntKind.bits .i64)))) _ (by kernel_rfl) (by kernel_rfl) (by kernel_rfl) (by kernel_rfl) (by kernel_rfl) (φ := (0 : Int) ≤ (IntKind.wrap .u64 x1)) (by kernel_rfl) (of_decide_eq_true hg2) rfl ?_
    refine LAt.runU tOk 4 (by kernel_rfl) ?_
    refine LAt.doneU [4] [] (by kernel_rfl) ?_
    refine Tr.ret ?_
    have H := Option.some.inj H
    subst H
    exact Fin.of _ [(false, [.lit (.bool ((IntKind.wrap .i64 (BitVec.ofInt (IntKind.bits .i64) (Int.fdiv x0 (2 ^ min (((IntKind.wrap .u64 x1) : Int)).toNat (IntKind.bits .i64))) &&& BitVec.ofInt (IntKind.bits .i64) 1).toNat) == 1))])] (by kernel_rfl) rfl rfl

def spec_l15SendsF (n : Nat) (x0 : Net) (x1 : Int) (x2 : Int) : Option (Bool) :=
  ((idx x0.Bridges x1).bind fun v1 => ((idx x0.Bridges x1).bind fun v2 => ((spec_SendsF n v1.Id v2.Ports).bind fun r3 => ((spec_l9BitF n r3 x2).bind fun r4 => (some r4)))))
/-- loop.example/g00326/spec.l15Sends -/
theorem spec_l15Sends (n : Nat) (x0 : Net) (x1 : Int) (x2 : Int) (r : Bool) (H : spec_l15SendsF n x0 x1 x2 = some r) : LCall Try.prog 92 [.val true (CV.frzRow (Net.row x0)), .val false [.lit (.int .i64 x1)], .val false [.lit (.int .i64 x2)]] [.val false [.lit (.bool r)]] [] := by
  refine LCall.of_body tOk Try.func92 rfl (c := (.seq (.region 0 (rg Try.f92 0) false) (.seq (.region 1 (rg Try.f92 1) true) .ret))) (by kernel_rfl) (Nat.le_of_ble_eq_true (by kernel_rfl)) 0 (rs := [.tmp 6]) rfl [] .nil [(false, [.lit (.bool r)])] [] [] fun cx => ?_
  show Tr _ _ _ ⟨22, 0, [(0, .val true (CV.frzRow (Net.row x0))), (1, .val false [.lit (.int .i64 x1)]), (2, .val false [.lit (.int .i64 x2)])], []⟩ _
  unfold spec_l15SendsF at H
  refine Tr.rs ?_
  refine LAt.runU tOk 2 (by kernel_rfl) ?_
  refine LAt.doneU [6, 3, 1, 2] [3] (by kernel_rfl) ?_
  obtain ⟨v1, ev1, H⟩ := bind_some H
  obtain ⟨v2, ev2, H⟩ := bind_some H
  obtain ⟨r3, er3, H⟩ := bind_some H
  obtain ⟨r4, er4, H⟩ := bind_some H
  refine Tr.draws mixed 16 (by kernel_rfl) ⟨22, 0, [(6, .val false [.lit (.bool r4)])], []⟩ (fun cx => ?_) ?_
  · refine AT.runU tOk [(0, []), (1, [12, 14]), (2, [])] 13 [⟨[12, 14], 30, 7, 8⟩] [2, 1, 0] rfl (by kernel_rfl) (fun cx => ?_)
    refine AT.indexF tOk 3 (t := 30) (ty := 0) (x := (.tmp 8)) (y := (.tmp 9)) (d := 10) (g := none) ⟨(.box 3), [(0, 0)], 0, false, 11, (CV.frzEs (x0.Bridges.map Bridge.row))⟩ x1 (CV.frzRow (Bridge.row v1)) _ (by kernel_rfl) (by kernel_rfl) (by kernel_rfl) (by kernel_rfl) (by kernel_rfl) (by kernel_rfl) rfl (idx_isF ev1) rfl (fun cx => ?_)
    refine AT.runU tOk [(4, []), (5, []), (6, []), (7, [12, 14]), (8, [])] 7 [⟨[12, 14], 30, 13, 14⟩, ⟨[12, 14], 30, 7, 8⟩] [8, 7, 6, 5, 4, 3, 2, 1, 0] rfl (by kernel_rfl) (fun cx => ?_)
    refine AT.indexF tOk 9 (t := 30) (ty := 0) (x := (.tmp 14)) (y := (.tmp 15)) (d := 16) (g := none) ⟨(.box 3), [(0, 0)], 0, false, 11, (CV.frzEs (x0.Bridges.map Bridge.row))⟩ x1 (CV.frzRow (Bridge.row v2)) _ (by kernel_rfl) (by kernel_rfl) (by kernel_rfl) (by kernel_rfl) (by kernel_rfl) (by kernel_rfl) rfl (idx_isF ev2) rfl (fun cx => ?_)
    refine AT.runU tOk [(10, []), (11, []), (13, [])] 3 [⟨[12, 14], 30, 13, 14⟩, ⟨[12, 14], 30, 7, 8⟩] [13, 11, 10, 9, 8, 7, 6, 5, 4, 3, 2, 1, 0] rfl (by kernel_rfl) (fun cx => ?_)
    refine AT.big1 tOk 12 (by kernel_rfl) (by kernel_rfl) ?_
    refine LAt.callU tOk [.rd, .rd] (f := 147) (av := #[.tmp 12, .tmp 18]) (ats := #[3, 55]) (d := (some 19)) (ty := 3) (g := none) (by kernel_rfl) (by kernel_rfl) (by kernel_rfl) [] (spec_Sends n v1.Id v2.Ports r3 er3) (by kernel_rfl) (.inl rfl) ?_
    refine LAt.fin (by kernel_rfl) (And.intro (And.intro (by kernel_rfl) (by kernel_rfl)) ?_)
    refine AT.big1 tOk 14 (by kernel_rfl) (by kernel_rfl) ?_
    refine LAt.callU tOk [.rd, .rd] (f := 146) (av := #[.tmp 19, .tmp 20]) (ats := #[3, 3]) (d := (some 21)) (ty := 4) (g := none) (by kernel_rfl) (by kernel_rfl) (by kernel_rfl) [] (spec_l9Bit n r3 x2 r4 er4) (by kernel_rfl) (.inl rfl) ?_
    refine LAt.fin (by kernel_rfl) (And.intro (And.intro (by kernel_rfl) (by kernel_rfl)) ?_)
    refine AT.runU tOk [(15, [])] 0 [⟨[12, 14], 30, 13, 14⟩, ⟨[12, 14], 30, 7, 8⟩] [15, 14, 12, 13, 11, 10, 9, 8, 7, 6, 5, 4, 3, 2, 1, 0] rfl (by kernel_rfl) (fun cx => ?_)
    exact AT.done [6] [] _ (by kernel_rfl) (by kernel_rfl) rfl
  · refine Tr.ret ?_
    have H := Option.some.inj H
    subst H
    exact Fin.of _ [(false, [.lit (.bool r4)])] (by kernel_rfl) rfl rfl

def spec_Live_J1 (n : Nat) (y3 : (List Int)) : Option ((List Int)) :=
  (some y3)
def spec_Live_J3 (n : Nat) (k : (Int × (List Int) → Option (((List Int)) ⊕ ((List Int))))) (y1 : Int) (y2 : (List Int)) (y6 : Bool) (y7 : Bool) (y8 : Bool) (y9 : Bool) (y10 : Bool) : Option (((List Int)) ⊕ ((List Int))) :=
  (bif y6 then (bif (decide (y2.length + [y1].length ≤ 268435456)) then (k ((IntKind.wrap .i64 (y1 + 1)), (y2 ++ [y1]))) else none) else (k ((IntKind.wrap .i64 (y1 + 1)), y2)))
def spec_Live_L2 (n : Nat) : Nat → Net → Int → (List Int) → Option (((List Int)) ⊕ ((List Int)))
  | 0, _, _, _ => none
  | mo4 + 1, x0, y1, y2 => (bif (decide (y1 < (x0.Links.length : Int))) then ((idx x0.Links y1).bind fun v5 => ((spec_LinkUpF n x0 y1).bind fun r12 => (bif r12 then ((spec_l15SendsF n x0 v5.A v5.P).bind fun r13 => (bif r13 then ((spec_l15SendsF n x0 v5.B v5.Q).bind fun r14 => (spec_Live_J3 n (fun v => spec_Live_L2 n mo4 x0 v.1 v.2) y1 y2 r14 true true true true)) else (spec_Live_J3 n (fun v => spec_Live_L2 n mo4 x0 v.1 v.2) y1 y2 false false false true true))) else (spec_Live_J3 n (fun v => spec_Live_L2 n mo4 x0 v.1 v.2) y1 y2 false false false false false)))) else (some (Sum.inl y2)))
def spec_LiveF (n : Nat) (x0 : Net) : Option ((List Int)) :=
  ((spec_Live_L2 n n x0 0 ([] : List Int)).bind fun o => match o with | .inl y3 => (spec_Live_J1 n y3) | .inr r => some r)
/-- loop.example/g00326/spec.Live -/
theorem spec_Live (n : Nat) (x0 : Net) (r : (List Int)) (H : spec_LiveF n x0 = some r) : LCall Try.prog 33 [.val true (CV.frzRow (Net.row x0))] [.val false [.sl true 1 (r.map intRow)]] [] := by
  refine LCall.of_body tOk Try.func33 rfl (c := (.seq (.region 0 (rg Try.f33 0) false) (.seq (.region 1 (rg Try.f33 1) false) (.seq (.seq (.region 2 (rg Try.f33 2) false) (.block 0 (.loop (.seq (.seq (.region 3 (rg Try.f33 3) false) (.cond (.tmp 11) .skip (.exit 0))) (.seq (.block 1 (.seq (.region 5 (rg Try.f33 5) false) (.seq (.region 6 (rg Try.f33 6) false) (.cond (.tmp 37) (.region 7 (rg Try.f33 7) false) .skip)))) (.region 4 (rg Try.f33 4) false)))))) (.seq (.region 8 (rg Try.f33 8) false) .ret))))) (by kernel_rfl) (Nat.le_of_ble_eq_true (by kernel_rfl)) 0 (rs := [.tmp 2]) rfl [] .nil [(false, [.sl true 1 (r.map intRow)])] [] [] fun cx => ?_
  show Tr _ _ _ ⟨43, 0, [(0, .val true (CV.frzRow (Net.row x0)))], []⟩ _
  unfold spec_LiveF at H
  refine Tr.rs ?_
  refine LAt.runU tOk 2 (by kernel_rfl) ?_
  refine LAt.doneU [2, 1] [1] (by kernel_rfl) ?_
  refine Tr.rs ?_
  refine LAt.runU tOk 1 (by kernel_rfl) ?_
  refine LAt.moveU (T := lk tab) (ty := 27) (x := (.tmp 6)) (d := 3) (g := none) false [.sl true 1 (([] : List Int).map intRow)] (by kernel_rfl) (by kernel_rfl) (by kernel_rfl) (by kernel_rfl) (by kernel_rfl) ?_
  refine LAt.doneU [3, 2, 1] [1] (by kernel_rfl) ?_
  refine Tr.seq ?_
  refine Tr.rs ?_
  refine LAt.runU tOk 1 (by kernel_rfl) ?_
  refine LAt.doneU [4, 3, 2, 1] [1] (by kernel_rfl) ?_
  obtain ⟨o4, eo4, Ho4⟩ := bind_some H
  clear H
  refine Tr.mid (ι := (List Int)) (fun v => ⟨43, 0, [(3, .val false [.sl true 1 (v.map intRow)]), (2, .val false [.sl true 1 (([] : List Int).map intRow)])], []⟩) (fun v => spec_Live_J1 n v = some r) ?_ ?_
  · refine Tr.block ?_
    refine Tr.loop (ι := Nat × (Int × (List Int))) (fun v => ⟨43, 0, [(4, .val false [.lit (.int .i64 v.2.1)]), (3, .val false [.sl true 1 (v.2.2.map intRow)]), (2, .val false [.sl true 1 (([] : List Int).map intRow)]), (1, .adr (.box 1) [(0, 0)] 3 0)], [(1, (CV.frzRow (Net.row x0)))]⟩) (fun v => spec_Live_L2 n v.1 x0 v.2.1 v.2.2 = some o4) (fun v => v.1) (n, (0, ([] : List Int))) eo4 (St.sub_of [4, 3, 2, 1] [1] (by kernel_rfl)) ?_
    rintro ⟨mo4, y1, y2⟩ H
    have H : spec_Live_L2 n mo4 x0 y1 y2 = some o4 := H
    obtain _ | mo4 := mo4
    · cases (show (none : Option _) = some o4 from H)
    · rw [spec_Live_L2] at H
      refine Tr.seq ?_
      refine Tr.rs ?_
      refine LAt.runU tOk 3 (by kernel_rfl) ?_
      refine LAt.lenE tOk (t := 31) (ty := 3) (e := 96) (x := (.tmp 9)) (d := 10) (g := none) ⟨(.slot 9), [], 0, false, 4, (CV.frzEs (x0.Links.map Link.row))⟩ (x0.Links).length _ (by kernel_rfl) (by kernel_rfl) (by kernel_rfl) (by kernel_rfl) (by kernel_rfl) (frz_len _ _) rfl ?_
      refine LAt.runU tOk 1 (by kernel_rfl) ?_
      refine LAt.doneU [11, 10, 9, 8, 7, 4, 3, 2, 1] [1] (by kernel_rfl) ?_
      refine Tr.to ⟨43, 0, [(11, .val false [.lit (.bool (decide (y1 < (x0.Links.length : Int))))]), (10, .val false [.lit (.int .i64 (x0.Links.length : Int))]), (9, .val false [.sl false 4 (CV.frzEs (x0.Links.map Link.row))]), (8, .adr (.box 1) [(0, 0)] 3 1), (7, .val false [.lit (.int .i64 y1)]), (4, .val false [.lit (.int .i64 y1)]), (3, .val false [.sl true 1 (y2.map intRow)]), (2, .val false [.sl true 1 (([] : List Int).map intRow)]), (1, .adr (.box 1) [(0, 0)] 3 0)], [(1, (CV.frzRow (Net.row x0)))]⟩ (by kernel_rfl) ?_
      cases h1 : (decide (y1 < (x0.Links.length : Int)))
      · have H := bifF h1 H
        refine Tr.cond (b := false) (by kernel_rfl) (fun h => nomatch h) (fun _ => ?_)
        refine Tr.exit ?_
        refine And.intro (fun _ => ?_) (fun h => absurd rfl h)
        have H := Option.some.inj H
        subst H
        have H := Ho4
        dsimp only at H
        exact Exists.intro y2 (And.intro H (St.sub_of [3, 2] [] (by kernel_rfl)))
      · have H := bifT h1 H
        refine Tr.cond (b := true) (by kernel_rfl) (fun _ => ?_) (fun h => nomatch h)
        refine Tr.skip ?_
        show Tr _ _ _ _ _
        refine Tr.seq ?_
        refine Tr.block ?_
        refine Tr.rs ?_
        refine LAt.runU tOk 3 (by kernel_rfl) ?_
        obtain ⟨v5, ev5, H⟩ := bind_some H
        refine LAt.indexF tOk (t := 31) (ty := 0) (x := (.tmp 15)) (y := (.tmp 16)) (d := 17) (g := none) ⟨(.slot 15), [], 0, false, 4, (CV.frzEs (x0.Links.map Link.row))⟩ y1 (Link.row v5) _ (by kernel_rfl) (by kernel_rfl) (by kernel_rfl) (by kernel_rfl) rfl (idx_isF ev5) rfl ?_
        refine LAt.runU tOk 3 (by kernel_rfl) ?_
        refine LAt.doneU [5, 18, 17, 16, 15, 14, 11, 10, 9, 8, 7, 4, 3, 2, 1] [5, 1] (by kernel_rfl) ?_
        refine Tr.seq ?_
        refine Tr.mid (ι := Bool × Bool × Bool × Bool × Bool) (fun v => ⟨43, 0, [(37, .val false [.lit (.bool v.1)]), (30, .val false [.lit (.bool v.2.1)]), (29, .val false [.lit (.bool v.2.2.1)]), (22, .val false [.lit (.bool v.2.2.2.1)]), (21, .val false [.lit (.bool v.2.2.2.2)]), (20, .val false [.lit (.int .i64 y1)]), (19, .val true (CV.frzRow (Net.row x0))), (5, .adr (.box 5) [(0, 0)] 4 0), (18, .val true (Link.row v5)), (17, .fad ((Link.row v5))), (16, .val false [.lit (.int .i64 y1)]), (15, .val false [.sl false 4 (CV.frzEs (x0.Links.map Link.row))]), (14, .adr (.box 1) [(0, 0)] 3 1), (11, .val false [.lit (.bool true)]), (10, .val false [.lit (.int .i64 (x0.Links.length : Int))]), (9, .val false [.sl false 4 (CV.frzEs (x0.Links.map Link.row))]), (8, .adr (.box 1) [(0, 0)] 3 1), (7, .val false [.lit (.int .i64 y1)]), (4, .val false [.lit (.int .i64 y1)]), (3, .val false [.sl true 1 (y2.map intRow)]), (2, .val false [.sl true 1 (([] : List Int).map intRow)]), (1, .adr (.box 1) [(0, 0)] 3 0)], [(5, (Link.row v5)), (1, (CV.frzRow (Net.row x0)))]⟩) (fun v => spec_Live_J3 n (fun v => spec_Live_L2 n mo4 x0 v.1 v.2) y1 y2 v.1 v.2.1 v.2.2.1 v.2.2.2.1 v.2.2.2.2 = some o4) ?_ ?_
        · refine Tr.at ?_
          refine LAt.runU tOk 2 (by kernel_rfl) ?_
          obtain ⟨r12, er12, H⟩ := bind_some H
          refine LAt.callU tOk [.rd, .rd] (f := 76) (av := #[.tmp 19, .tmp 20]) (ats := #[34, 3]) (d := (some 21)) (ty := 4) (g := none) (by kernel_rfl) (by kernel_rfl) (by kernel_rfl) [] (spec_LinkUp n x0 y1 r12 er12) (by kernel_rfl) (.inl rfl) ?_
          refine LAt.runU tOk 1 (by kernel_rfl) ?_
          refine LAt.to ⟨43, 0, [(22, .val false [.lit (.bool r12)]), (21, .val false [.lit (.bool r12)]), (20, .val false [.lit (.int .i64 y1)]), (19, .val true (CV.frzRow (Net.row x0))), (5, .adr (.box 5) [(0, 0)] 4 0), (18, .val true (Link.row v5)), (17, .fad ((Link.row v5))), (16, .val false [.lit (.int .i64 y1)]), (15, .val false [.sl false 4 (CV.frzEs (x0.Links.map Link.row))]), (14, .adr (.box 1) [(0, 0)] 3 1), (11, .val false [.lit (.bool true)]), (10, .val false [.lit (.int .i64 (x0.Links.length : Int))]), (9, .val false [.sl false 4 (CV.frzEs (x0.Links.map Link.row))]), (8, .adr (.box 1) [(0, 0)] 3 1), (7, .val false [.lit (.int .i64 y1)]), (4, .val false [.lit (.int .i64 y1)]), (3, .val false [.sl true 1 (y2.map intRow)]), (2, .val false [.sl true 1 (([] : List Int).map intRow)]), (1, .adr (.box 1) [(0, 0)] 3 0)], [(5, (Link.row v5)), (1, (CV.frzRow (Net.row x0)))]⟩ (by kernel_rfl) ?_
          cases h3 : r12
          · have H := bifF h3 H
            refine LAt.runU tOk 15 (by kernel_rfl) ?_
            refine LAt.doneU [37, 36, 35, 34, 33, 32, 31, 30, 29, 28, 27, 26, 25, 24, 23, 22, 21, 20, 19, 5, 18, 17, 16, 15, 14, 11, 10, 9, 8, 7, 4, 3, 2, 1] [5, 1] (by kernel_rfl) ?_
            exact Exists.intro (false, false, false, false, false) (And.intro H (St.sub_of [37, 30, 29, 22, 21, 20, 19, 5, 18, 17, 16, 15, 14, 11, 10, 9, 8, 7, 4, 3, 2, 1] [5, 1] (by kernel_rfl)))
          · have H := bifT h3 H
            refine LAt.runU tOk 5 (by kernel_rfl) ?_
            obtain ⟨r13, er13, H⟩ := bind_some H
            refine LAt.callU tOk [.rd, .rd, .rd] (f := 92) (av := #[.tmp 23, .tmp 25, .tmp 27]) (ats := #[34, 3, 3]) (d := (some 28)) (ty := 4) (g := (some (3, true))) (by kernel_rfl) (by kernel_rfl) (by kernel_rfl) [] (spec_l15Sends n x0 v5.A v5.P r13 er13) (by kernel_rfl) (.inl rfl) ?_
            refine LAt.runU tOk 2 (by kernel_rfl) ?_
            refine LAt.to ⟨43, 0, [(30, .val false [.lit (.bool r13)]), (29, .val false [.lit (.bool r13)]), (28, .val false [.lit (.bool r13)]), (27, .val false [.lit (.int .i64 v5.P)]), (26, .adr (.box 5) [(0, 0)] 4 1), (25, .val false [.lit (.int .i64 v5.A)]), (24, .adr (.box 5) [(0, 0)] 4 0), (23, .val true (CV.frzRow (Net.row x0))), (22, .val false [.lit (.bool true)]), (21, .val false [.lit (.bool true)]), (20, .val false [.lit (.int .i64 y1)]), (19, .val true (CV.frzRow (Net.row x0))), (5, .adr (.box 5) [(0, 0)] 4 0), (18, .val true (Link.row v5)), (17, .fad ((Link.row v5))), (16, .val false [.lit (.int .i64 y1)]), (15, .val false [.sl false 4 (CV.frzEs (x0.Links.map Link.row))]), (14, .adr (.box 1) [(0, 0)] 3 1), (11, .val false [.lit (.bool true)]), (10, .val false [.lit (.int .i64 (x0.Links.length : Int))]), (9, .val false [.sl false 4 (CV.frzEs (x0.Links.map Link.row))]), (8, .adr (.box 1) [(0, 0)] 3 1), (7, .val false [.lit (.int .i64 y1)]), (4, .val false [.lit (.int .i64 y1)]), (3, .val false [.sl true 1 (y2.map intRow)]), (2, .val false [.sl true 1 (([] : List Int).map intRow)]), (1, .adr (.box 1) [(0, 0)] 3 0)], [(5, (Link.row v5)), (1, (CV.frzRow (Net.row x0)))]⟩ (by kernel_rfl) ?_
            cases h4 : r13
            · have H := bifF h4 H
              refine LAt.runU tOk 7 (by kernel_rfl) ?_
              refine LAt.doneU [37, 36, 35, 34, 33, 32, 31, 30, 29, 28, 27, 26, 25, 24, 23, 22, 21, 20, 19, 5, 18, 17, 16, 15, 14, 11, 10, 9, 8, 7, 4, 3, 2, 1] [5, 1] (by kernel_rfl) ?_
              exact Exists.intro (false, false, false, true, true) (And.intro H (St.sub_of [37, 30, 29, 22, 21, 20, 19, 5, 18, 17, 16, 15, 14, 11, 10, 9, 8, 7, 4, 3, 2, 1] [5, 1] (by kernel_rfl)))
            · have H := bifT h4 H
              refine LAt.runU tOk 5 (by kernel_rfl) ?_
              obtain ⟨r14, er14, H⟩ := bind_some H
              refine LAt.callU tOk [.rd, .rd, .rd] (f := 92) (av := #[.tmp 31, .tmp 33, .tmp 35]) (ats := #[34, 3, 3]) (d := (some 36)) (ty := 4) (g := (some (11, true))) (by kernel_rfl) (by kernel_rfl) (by kernel_rfl) [] (spec_l15Sends n x0 v5.B v5.Q r14 er14) (by kernel_rfl) (.inl rfl) ?_
              refine LAt.runU tOk 1 (by kernel_rfl) ?_
              refine LAt.doneU [37, 36, 35, 34, 33, 32, 31, 30, 29, 28, 27, 26, 25, 24, 23, 22, 21, 20, 19, 5, 18, 17, 16, 15, 14, 11, 10, 9, 8, 7, 4, 3, 2, 1] [5, 1] (by kernel_rfl) ?_
              exact Exists.intro (r14, true, true, true, true) (And.intro H (St.sub_of [37, 30, 29, 22, 21, 20, 19, 5, 18, 17, 16, 15, 14, 11, 10, 9, 8, 7, 4, 3, 2, 1] [5, 1] (by kernel_rfl)))
        · rintro ⟨y6, y7, y8, y9, y10⟩ H
          have H : (spec_Live_J3 n (fun v => spec_Live_L2 n mo4 x0 v.1 v.2) y1 y2 y6 y7 y8 y9 y10) = some o4 := H
          unfold spec_Live_J3 at H
          show Tr _ _ _ _ _
          refine Tr.to ⟨43, 0, [(37, .val false [.lit (.bool y6)]), (30, .val false [.lit (.bool y7)]), (29, .val false [.lit (.bool y8)]), (22, .val false [.lit (.bool y9)]), (21, .val false [.lit (.bool y10)]), (20, .val false [.lit (.int .i64 y1)]), (19, .val true (CV.frzRow (Net.row x0))), (5, .adr (.box 5) [(0, 0)] 4 0), (18, .val true (Link.row v5)), (17, .fad ((Link.row v5))), (16, .val false [.lit (.int .i64 y1)]), (15, .val false [.sl false 4 (CV.frzEs (x0.Links.map Link.row))]), (14, .adr (.box 1) [(0, 0)] 3 1), (11, .val false [.lit (.bool true)]), (10, .val false [.lit (.int .i64 (x0.Links.length : Int))]), (9, .val false [.sl false 4 (CV.frzEs (x0.Links.map Link.row))]), (8, .adr (.box 1) [(0, 0)] 3 1), (7, .val false [.lit (.int .i64 y1)]), (4, .val false [.lit (.int .i64 y1)]), (3, .val false [.sl true 1 (y2.map intRow)]), (2, .val false [.sl true 1 (([] : List Int).map intRow)]), (1, .adr (.box 1) [(0, 0)] 3 0)], [(5, (Link.row v5)), (1, (CV.frzRow (Net.row x0)))]⟩ (by kernel_rfl) ?_
          cases h2 : y6
          · have H := bifF h2 H
            refine Tr.cond (b := false) (by kernel_rfl) (fun h => nomatch h) (fun _ => ?_)
            refine Tr.skip ?_
            show Tr _ _ _ _ _
            refine Tr.at ?_
            refine LAt.runU tOk 3 (by kernel_rfl) ?_
            refine LAt.doneU [4, 13, 12, 37, 30, 29, 22, 21, 20, 19, 5, 18, 17, 16, 15, 14, 11, 10, 9, 8, 7, 3, 2, 1] [5, 1] (by kernel_rfl) ?_
            exact Exists.intro (mo4, ((IntKind.wrap .i64 (y1 + 1)), y2)) (And.intro H (And.intro (Nat.lt_succ_self mo4) (St.sub_of [4, 3, 2, 1] [1] (by kernel_rfl))))
          · have H := bifT h2 H
            refine Tr.cond (b := true) (by kernel_rfl) (fun _ => ?_) (fun h => nomatch h)
            refine Tr.at ?_
            refine LAt.runU tOk 3 (by kernel_rfl) ?_
            obtain ⟨hg11, H⟩ := guard_some H
            refine LAt.appMU tOk (t := 27) (ty := 27) (e := 3) (x := (.tmp 38)) (y := (.tmp 40)) (d := 41) (g := none) ⟨.int .i64, 1, 8, [.lit (.int .i64 0)]⟩ intRow y2 [y1] (by kernel_rfl) (by kernel_rfl) (by kernel_rfl) (by kernel_rfl) (by kernel_rfl) (by kernel_rfl) (by kernel_rfl) (by kernel_rfl) (by kernel_rfl) (by kernel_rfl) hg11 ?_
            refine LAt.moveU (T := lk tab) (ty := 27) (x := (.tmp 41)) (d := 3) (g := none) false [.sl true 1 ((y2 ++ [y1]).map intRow)] (by kernel_rfl) (by kernel_rfl) (by kernel_rfl) (by kernel_rfl) (by kernel_rfl) ?_
            refine LAt.doneU [3, 39, 37, 30, 29, 22, 21, 20, 19, 5, 18, 17, 16, 15, 14, 11, 10, 9, 8, 7, 4, 2, 1] [5, 1] (by kernel_rfl) ?_
            show Tr _ _ _ _ _
            refine Tr.at ?_
            refine LAt.runU tOk 3 (by kernel_rfl) ?_
            refine LAt.doneU [4, 13, 12, 3, 39, 37, 30, 29, 22, 21, 20, 19, 5, 18, 17, 16, 15, 14, 11, 10, 9, 8, 7, 2, 1] [5, 1] (by kernel_rfl) ?_
            exact Exists.intro (mo4, ((IntKind.wrap .i64 (y1 + 1)), (y2 ++ [y1]))) (And.intro H (And.intro (Nat.lt_succ_self mo4) (St.sub_of [4, 3, 2, 1] [1] (by kernel_rfl))))
  · rintro y3 H
    have H : (spec_Live_J1 n y3) = some r := H
    unfold spec_Live_J1 at H
    show Tr _ _ _ _ _
    refine Tr.rs ?_
    refine LAt.runU tOk 2 (by kernel_rfl) ?_
    refine LAt.doneU [2, 3] [] (by kernel_rfl) ?_
    refine Tr.ret ?_
    have H := Option.some.inj H
    subst H
    exact Fin.of _ [(false, [.sl true 1 (y3.map intRow)])] (by kernel_rfl) rfl rfl

def impl_inF (n : Nat) (x0 : Int) (x1 : Int) (x2 : Int) : Option (Bool) :=
  (bif (decide (x0 ≥ x1)) then (some (decide (x0 ≤ x2))) else (some false))
/-- loop.example/g00326/impl.in -/
theorem impl_in (n : Nat) (x0 : Int) (x1 : Int) (x2 : Int) (r : Bool) (H : impl_inF n x0 x1 x2 = some r) : LCall Try.prog 70 [.val false [.lit (.int .i64 x0)], .val false [.lit (.int .i64 x1)], .val false [.lit (.int .i64 x2)]] [.val false [.lit (.bool r)]] [] := by
  refine LCall.of_body tOk Try.func70 rfl (c := (.seq (.region 0 (rg Try.f70 0) false) (.seq (.region 1 (rg Try.f70 1) false) .ret))) (by kernel_rfl) (Nat.le_of_ble_eq_true (by kernel_rfl)) 0 (rs := [.tmp 6]) rfl [] .nil [(false, [.lit (.bool r)])] [] [] fun cx => ?_
  show Tr _ _ _ ⟨15, 0, [(0, .val false [.lit (.int .i64 x0)]), (1, .val false [.lit (.int .i64 x1)]), (2, .val false [.lit (.int .i64 x2)])], []⟩ _
  unfold impl_inF at H
  refine Tr.rs ?_
  refine LAt.runU tOk 1 (by kernel_rfl) ?_
  refine LAt.doneU [6, 0, 1, 2] [] (by kernel_rfl) ?_
  refine Tr.rs ?_
  refine LAt.runU tOk 4 (by kernel_rfl) ?_
  refine LAt.to ⟨15, 0, [(10, .val false [.lit (.bool (decide (x0 ≥ x1)))]), (9, .val false [.lit (.bool (decide (x0 ≥ x1)))]), (8, .val false [.lit (.int .i64 x1)]), (7, .val false [.lit (.int .i64 x0)]), (6, .val false [.lit (.bool false)]), (0, .val false [.lit (.int .i64 x0)]), (1, .val false [.lit (.int .i64 x1)]), (2, .val false [.lit (.int .i64 x2)])], []⟩ (by kernel_rfl) ?_
  cases h1 : (decide (x0 ≥ x1))
  · have H := bifF h1 H
    refine LAt.runU tOk 5 (by kernel_rfl) ?_
    refine LAt.doneU [6] [] (by kernel_rfl) ?_
    refine Tr.ret ?_
    have H := Option.some.inj H
    subst H
    exact Fin.of _ [(false, [.lit (.bool false)])] (by kernel_rfl) rfl rfl
  · have H := bifT h1 H
    refine LAt.runU tOk 5 (by kernel_rfl) ?_
    refine LAt.doneU [6] [] (by kernel_rfl) ?_
    refine Tr.ret ?_
    have H := Option.some.inj H
    subst H
    exact Fin.of _ [(false, [.lit (.bool (decide (x0 ≤ x2)))])] (by kernel_rfl) rfl rfl

def impl_portAtF (n : Nat) (x0 : Net) (x1 : Int) (x2 : Int) : Option (Pt × Bool) :=
  ((impl_inF n x1 0 (IntKind.wrap .i64 ((x0.Bridges.length : Int) - 1))).bind fun r1 => (bif (!r1) then (some ((⟨false, 0, false, (⟨0, 0, 0, 0, 0⟩ : Vec)⟩ : Pt), false)) else ((idx x0.Bridges x1).bind fun v2 => ((impl_inF n x2 0 (IntKind.wrap .i64 ((v2.Ports.length : Int) - 1))).bind fun r3 => (bif (!r3) then (some ((⟨false, 0, false, (⟨0, 0, 0, 0, 0⟩ : Vec)⟩ : Pt), false)) else ((idx x0.Bridges x1).bind fun v4 => ((idx v4.Ports x2).bind fun v5 => (some (v5, true)))))))))
/-- loop.example/g00326/impl.portAt -/
theorem impl_portAt (n : Nat) (x0 : Net) (x1 : Int) (x2 : Int) (r : Pt × Bool) (H : impl_portAtF n x0 x1 x2 = some r) : LCall Try.prog 138 [.val true (CV.frzRow (Net.row x0)), .val false [.lit (.int .i64 x1)], .val false [.lit (.int .i64 x2)]] [.val true (Pt.row r.1), .val false [.lit (.bool r.2)]] [] := by
  refine LCall.of_body tOk Try.func138 rfl (c := (.seq (.region 0 (rg Try.f138 0) false) (.seq (.seq (.region 1 (rg Try.f138 1) false) (.cond (.tmp 27) (.seq (.region 2 (rg Try.f138 2) false) .ret) .skip)) (.seq (.region 3 (rg Try.f138 3) false) .ret)))) (by kernel_rfl) (Nat.le_of_ble_eq_true (by kernel_rfl)) 0 (rs := [.cell 6 114, .tmp 7]) rfl [] .nil [(true, (Pt.row r.1)), (false, [.lit (.bool r.2)])] [] [] fun cx => ?_
  show Tr _ _ _ ⟨38, 0, [(0, .val true (CV.frzRow (Net.row x0))), (1, .val false [.lit (.int .i64 x1)]), (2, .val false [.lit (.int .i64 x2)])], []⟩ _
  unfold impl_portAtF at H
  refine Tr.rs ?_
  refine LAt.runU tOk 3 (by kernel_rfl) ?_
  refine LAt.doneU [7, 6, 3, 1, 2] [6, 3] (by kernel_rfl) ?_
  refine Tr.seq ?_
  refine Tr.rs ?_
  refine LAt.runU tOk 3 (by kernel_rfl) ?_
  refine LAt.lenE tOk (t := 30) (ty := 3) (e := 61) (x := (.tmp 10)) (d := 11) (g := none) ⟨(.slot 10), [], 0, false, 11, (CV.frzEs (x0.Bridges.map Bridge.row))⟩ (x0.Bridges).length _ (by kernel_rfl) (by kernel_rfl) (by kernel_rfl) (by kernel_rfl) (by kernel_rfl) (frz_len _ _) rfl ?_
  refine LAt.runU tOk 1 (by kernel_rfl) ?_
  obtain ⟨r1, er1, H⟩ := bind_some H
  refine LAt.callU tOk [.rd, .rd, .rd] (f := 70) (av := #[.tmp 8, .const (.int .i64 0), .tmp 12]) (ats := #[3, 3, 3]) (d := (some 13)) (ty := 4) (g := none) (by kernel_rfl) (by kernel_rfl) (by kernel_rfl) [] (impl_in n x1 0 (IntKind.wrap .i64 ((x0.Bridges.length : Int) - 1)) r1 er1) (by kernel_rfl) (.inl rfl) ?_
  refine LAt.runU tOk 2 (by kernel_rfl) ?_
  refine LAt.to ⟨38, 0, [(15, .val false [.lit (.bool (!r1))]), (14, .val false [.lit (.bool (!r1))]), (13, .val false [.lit (.bool r1)]), (12, .val false [.lit (.int .i64 (IntKind.wrap .i64 ((x0.Bridges.length : Int) - 1)))]), (11, .val false [.lit (.int .i64 (x0.Bridges.length : Int))]), (10, .val false [.sl false 11 (CV.frzEs (x0.Bridges.map Bridge.row))]), (9, .adr (.box 3) [(0, 0)] 3 0), (8, .val false [.lit (.int .i64 x1)]), (7, .val false [.lit (.bool false)]), (6, .adr (.box 6) [(0, 0)] 8 0), (3, .adr (.box 3) [(0, 0)] 3 0), (1, .val false [.lit (.int .i64 x1)]), (2, .val false [.lit (.int .i64 x2)])], [(6, [.lit (.bool false), .lit (.int .i64 0), .lit (.bool false), .lit (.int .i64 0), .lit (.int .i64 0), .lit (.int .i64 0), .lit (.int .i64 0), .lit (.int .i64 0)]), (3, (CV.frzRow (Net.row x0)))]⟩ (by kernel_rfl) ?_
  cases h1 : (!r1)
  · have H := bifF h1 H
    refine LAt.runU tOk 4 (by kernel_rfl) ?_
    obtain ⟨v2, ev2, H⟩ := bind_some H
    refine LAt.indexF tOk (t := 30) (ty := 0) (x := (.tmp 18)) (y := (.tmp 19)) (d := 20) (g := (some (7, false))) ⟨(.slot 18), [], 0, false, 11, (CV.frzEs (x0.Bridges.map Bridge.row))⟩ x1 (CV.frzRow (Bridge.row v2)) _ (by kernel_rfl) (by kernel_rfl) (by kernel_rfl) (by kernel_rfl) rfl (idx_isF ev2) rfl ?_
    refine LAt.runU tOk 2 (by kernel_rfl) ?_
    refine LAt.lenE tOk (t := 55) (ty := 3) (e := 114) (x := (.tmp 22)) (d := 23) (g := (some (7, false))) ⟨(.slot 22), [], 0, false, 8, (CV.frzEs (v2.Ports.map Pt.row))⟩ (v2.Ports).length _ (by kernel_rfl) (by kernel_rfl) (by kernel_rfl) (by kernel_rfl) (by kernel_rfl) (frz_len _ _) rfl ?_
    refine LAt.runU tOk 1 (by kernel_rfl) ?_
    obtain ⟨r3, er3, H⟩ := bind_some H
    refine LAt.callU tOk [.rd, .rd, .rd] (f := 70) (av := #[.tmp 16, .const (.int .i64 0), .tmp 24]) (ats := #[3, 3, 3]) (d := (some 25)) (ty := 4) (g := (some (7, false))) (by kernel_rfl) (by kernel_rfl) (by kernel_rfl) [] (impl_in n x2 0 (IntKind.wrap .i64 ((v2.Ports.length : Int) - 1)) r3 er3) (by kernel_rfl) (.inl rfl) ?_
    refine LAt.runU tOk 2 (by kernel_rfl) ?_
    refine LAt.doneU [27, 7, 6, 3, 1, 2] [6, 3] (by kernel_rfl) ?_
    refine Tr.to ⟨38, 0, [(27, .val false [.lit (.bool (!r3))]), (7, .val false [.lit (.bool false)]), (6, .adr (.box 6) [(0, 0)] 8 0), (3, .adr (.box 3) [(0, 0)] 3 0), (1, .val false [.lit (.int .i64 x1)]), (2, .val false [.lit (.int .i64 x2)])], [(6, [.lit (.bool false), .lit (.int .i64 0), .lit (.bool false), .lit (.int .i64 0), .lit (.int .i64 0), .lit (.int .i64 0), .lit (.int .i64 0), .lit (.int .i64 0)]), (3, (CV.frzRow (Net.row x0)))]⟩ (by kernel_rfl) ?_
    cases h2 : (!r3)
    · have H := bifF h2 H
      refine Tr.cond (b := false) (by kernel_rfl) (fun h => nomatch h) (fun _ => ?_)
      refine Tr.skip ?_
      show Tr _ _ _ _ _
      refine Tr.rs ?_
      refine LAt.runU tOk 3 (by kernel_rfl) ?_
      obtain ⟨v4, ev4, H⟩ := bind_some H
      refine LAt.indexF tOk (t := 30) (ty := 0) (x := (.tmp 30)) (y := (.tmp 31)) (d := 32) (g := none) ⟨(.slot 30), [], 0, false, 11, (CV.frzEs (x0.Bridges.map Bridge.row))⟩ x1 (CV.frzRow (Bridge.row v4)) _ (by kernel_rfl) (by kernel_rfl) (by kernel_rfl) (by kernel_rfl) rfl (idx_isF ev4) rfl ?_
      refine LAt.runU tOk 3 (by kernel_rfl) ?_
      obtain ⟨v5, ev5, H⟩ := bind_some H
      refine LAt.indexF tOk (t := 55) (ty := 0) (x := (.tmp 34)) (y := (.tmp 35)) (d := 36) (g := none) ⟨(.slot 34), [], 0, false, 8, (CV.frzEs (v4.Ports.map Pt.row))⟩ x2 (Pt.row v5) _ (by kernel_rfl) (by kernel_rfl) (by kernel_rfl) (by kernel_rfl) rfl (idx_isF ev5) rfl ?_
      refine LAt.runU tOk 3 (by kernel_rfl) ?_
      refine LAt.doneU [7, 6] [6] (by kernel_rfl) ?_
      refine Tr.ret ?_
      have H := Option.some.inj H
      subst H
      exact Fin.of _ [(true, (Pt.row v5)), (false, [.lit (.bool true)])] (by kernel_rfl) rfl rfl
    · have H := bifT h2 H
      refine Tr.cond (b := true) (by kernel_rfl) (fun _ => ?_) (fun h => nomatch h)
      refine Tr.rs ?_
      refine LAt.runU tOk 3 (by kernel_rfl) ?_
      refine LAt.doneU [7, 6, 3, 1, 2] [6, 3] (by kernel_rfl) ?_
      refine Tr.ret ?_
      have H := Option.some.inj H
      subst H
      exact Fin.of _ [(true, [.lit (.bool false), .lit (.int .i64 0), .lit (.bool false), .lit (.int .i64 0), .lit (.int .i64 0), .lit (.int .i64 0), .lit (.int .i64 0), .lit (.int .i64 0)]), (false, [.lit (.bool false)])] (by kernel_rfl) rfl rfl
  · have H := bifT h1 H
    refine LAt.runU tOk 12 (by kernel_rfl) ?_
    refine LAt.doneU [27, 7, 6, 3, 1, 2] [6, 3] (by kernel_rfl) ?_
    refine Tr.cond (b := true) (by kernel_rfl) (fun _ => ?_) (fun h => nomatch h)
    refine Tr.rs ?_
    refine LAt.runU tOk 3 (by kernel_rfl) ?_
    refine LAt.doneU [7, 6, 3, 1, 2] [6, 3] (by kernel_rfl) ?_
    refine Tr.ret ?_
    have H := Option.some.inj H
    subst H
    exact Fin.of _ [(true, [.lit (.bool false), .lit (.int .i64 0), .lit (.bool false), .lit (.int .i64 0), .lit (.int .i64 0), .lit (.int .i64 0), .lit (.int .i64 0), .lit (.int .i64 0)]), (false, [.lit (.bool false)])] (by kernel_rfl) rfl rfl

def impl_LinkUpF (n : Nat) (x0 : Net) (x1 : Int) : Option (Bool) :=
  ((impl_inF n x1 0 (IntKind.wrap .i64 ((x0.Links.length : Int) - 1))).bind fun r1 => (bif (!r1) then (some false) else ((idx x0.Links x1).bind fun v2 => ((idx x0.Links x1).bind fun v3 => ((impl_portAtF n x0 v2.A v3.P).bind fun r4 => ((idx x0.Links x1).bind fun v5 => ((idx x0.Links x1).bind fun v6 => ((impl_portAtF n x0 v5.B v6.Q).bind fun r7 => (bif r4.2 then (bif r7.2 then (bif r4.1.Up then (some r7.1.Up) else (some false)) else (some false)) else (some false))))))))))
/-- loop.example/g00326/impl.LinkUp -/
theorem impl_LinkUp (n : Nat) (x0 : Net) (x1 : Int) (r : Bool) (H : impl_LinkUpF n x0 x1 = some r) : LCall Try.prog 78 [.val true (CV.frzRow (Net.row x0)), .val false [.lit (.int .i64 x1)]] [.val false [.lit (.bool r)]] [] := by
  refine LCall.of_body tOk Try.func78 rfl (c := (.seq (.region 0 (rg Try.f78 0) false) (.seq (.seq (.region 1 (rg Try.f78 1) false) (.cond (.tmp 15) (.seq (.region 2 (rg Try.f78 2) false) .ret) .skip)) (.seq (.region 3 (rg Try.f78 3) true) (.seq (.region 4 (rg Try.f78 4) true) (.seq (.region 5 (rg Try.f78 5) false) .ret)))))) (by kernel_rfl) (Nat.le_of_ble_eq_true (by kernel_rfl)) 0 (rs := [.tmp 4]) rfl [] .nil [(false, [.lit (.bool r)])] [] [] fun cx => ?_
  show Tr _ _ _ ⟨62, 0, [(0, .val true (CV.frzRow (Net.row x0))), (1, .val false [.lit (.int .i64 x1)])], []⟩ _
  unfold impl_LinkUpF at H
  refine Tr.rs ?_
  refine LAt.runU tOk 2 (by kernel_rfl) ?_
  refine LAt.doneU [4, 2, 1] [2] (by kernel_rfl) ?_
  refine Tr.seq ?_
  refine Tr.rs ?_
  refine LAt.runU tOk 3 (by kernel_rfl) ?_
  refine LAt.lenE tOk (t := 31) (ty := 3) (e := 96) (x := (.tmp 11)) (d := 12) (g := none) ⟨(.slot 11), [], 0, false, 4, (CV.frzEs (x0.Links.map Link.row))⟩ (x0.Links).length _ (by kernel_rfl) (by kernel_rfl) (by kernel_rfl) (by kernel_rfl) (by kernel_rfl) (frz_len _ _) rfl ?_
  refine LAt.runU tOk 1 (by kernel_rfl) ?_
  obtain ⟨r1, er1, H⟩ := bind_some H
  refine LAt.callU tOk [.rd, .rd, .rd] (f := 70) (av := #[.tmp 9, .const (.int .i64 0), .tmp 13]) (ats := #[3, 3, 3]) (d := (some 14)) (ty := 4) (g := none) (by kernel_rfl) (by kernel_rfl) (by kernel_rfl) [] (impl_in n x1 0 (IntKind.wrap .i64 ((x0.Links.length : Int) - 1)) r1 er1) (by kernel_rfl) (.inl rfl) ?_
  refine LAt.runU tOk 1 (by kernel_rfl) ?_
  refine LAt.doneU [15, 4, 2, 1] [2] (by kernel_rfl) ?_
  refine Tr.to ⟨62, 0, [(15, .val false [.lit (.bool (!r1))]), (4, .val false [.lit (.bool false)]), (2, .adr (.box 2) [(0, 0)] 3 0), (1, .val false [.lit (.int .i64 x1)])], [(2, (CV.frzRow (Net.row x0)))]⟩ (by kernel_rfl) ?_
  cases h1 : (!r1)
  · have H := bifF h1 H
    refine Tr.cond (b := false) (by kernel_rfl) (fun h => nomatch h) (fun _ => ?_)
    refine Tr.skip ?_
    show Tr _ _ _ _ _
    obtain ⟨v2, ev2, H⟩ := bind_some H
    obtain ⟨v3, ev3, H⟩ := bind_some H
    obtain ⟨r4, er4, H⟩ := bind_some H
    refine Tr.draws mixed 20 (by kernel_rfl) ⟨62, 0, [(6, .val false [.lit (.bool r4.2)]), (5, .adr (.box 5) [(0, 0)] 8 0), (4, .val false [.lit (.bool false)]), (2, .adr (.box 2) [(0, 0)] 3 0), (1, .val false [.lit (.int .i64 x1)])], [(5, (Pt.row r4.1)), (2, (CV.frzRow (Net.row x0)))]⟩ (fun cx => ?_) ?_
    · refine AT.runU tOk [(0, [13, 18]), (1, []), (2, [13, 18]), (3, [])] 16 [⟨[13, 18], 31, 18, 19⟩, ⟨[13, 18], 34, 2, 17⟩] [3, 2, 1, 0] rfl (by kernel_rfl) (fun cx => ?_)
      refine AT.indexF tOk 4 (t := 31) (ty := 0) (x := (.tmp 19)) (y := (.tmp 20)) (d := 21) (g := none) ⟨(.box 2), [(0, 0)], 1, false, 4, (CV.frzEs (x0.Links.map Link.row))⟩ x1 (Link.row v2) _ (by kernel_rfl) (by kernel_rfl) (by kernel_rfl) (by kernel_rfl) (by kernel_rfl) (by kernel_rfl) rfl (idx_isF ev2) rfl (fun cx => ?_)
      refine AT.runU tOk [(5, []), (6, []), (7, []), (8, [13, 18]), (9, [])] 10 [⟨[13, 18], 31, 24, 25⟩, ⟨[13, 18], 31, 18, 19⟩, ⟨[13, 18], 34, 2, 17⟩] [9, 8, 7, 6, 5, 4, 3, 2, 1, 0] rfl (by kernel_rfl) (fun cx => ?_)
      refine AT.indexF tOk 10 (t := 31) (ty := 0) (x := (.tmp 25)) (y := (.tmp 26)) (d := 27) (g := none) ⟨(.box 2), [(0, 0)], 1, false, 4, (CV.frzEs (x0.Links.map Link.row))⟩ x1 (Link.row v3) _ (by kernel_rfl) (by kernel_rfl) (by kernel_rfl) (by kernel_rfl) (by kernel_rfl) (by kernel_rfl) rfl (idx_isF ev3) rfl (fun cx => ?_)
      refine AT.runU tOk [(11, []), (12, [])] 7 [⟨[13, 18], 31, 24, 25⟩, ⟨[13, 18], 31, 18, 19⟩, ⟨[13, 18], 34, 2, 17⟩] [12, 11, 10, 9, 8, 7, 6, 5, 4, 3, 2, 1, 0] rfl (by kernel_rfl) (fun cx => ?_)
      refine AT.big2 tOk 13 17 (by kernel_rfl) (And.intro (by kernel_rfl) ?_) (And.intro (by kernel_rfl) ?_)
      · refine LAt.callU tOk [.rd, .rd, .rd] (f := 138) (av := #[.tmp 17, .tmp 23, .tmp 29]) (ats := #[34, 3, 3]) (d := (some 30)) (ty := 153) (g := none) (by kernel_rfl) (by kernel_rfl) (by kernel_rfl) [] (impl_portAt n x0 v2.A v3.P r4 er4) (by kernel_rfl) (.inl rfl) ?_
        refine LAt.fin (by kernel_rfl) (And.intro (And.intro (by kernel_rfl) (by kernel_rfl)) ?_)
        refine AT.movT tOk 14 (ty := 153) (t := 30) (d := 16) (g := none) [(true, (Pt.row r4.1)), (false, [.lit (.bool r4.2)])] _ (by kernel_rfl) (by kernel_rfl) (by kernel_rfl) (.inl rfl) (by kernel_rfl) (by kernel_rfl) (by kernel_rfl) (by kernel_rfl) rfl (fun cx => ?_)
        refine AT.runU tOk [(15, []), (16, [])] 3 [⟨[13, 18], 31, 24, 25⟩, ⟨[13, 18], 31, 18, 19⟩, ⟨[13, 18], 34, 2, 17⟩] [16, 15, 14, 13, 12, 11, 10, 9, 8, 7, 6, 5, 4, 3, 2, 1, 0] rfl (by kernel_rfl) (fun cx => ?_)
        refine AT.big1 tOk 17 (by kernel_rfl) (by kernel_rfl) ?_
        refine LAt.runU tOk 1 (by kernel_rfl) ?_
        refine LAt.fin (by kernel_rfl) (And.intro (And.intro (by kernel_rfl) (by kernel_rfl)) ?_)
        refine AT.big1 tOk 18 (by kernel_rfl) (by kernel_rfl) ?_
        refine LAt.runU tOk 1 (by kernel_rfl) ?_
        refine LAt.fin (by kernel_rfl) (And.intro (And.intro (by kernel_rfl) (by kernel_rfl)) ?_)
        refine AT.runU tOk [(19, [])] 0 [⟨[13, 18], 31, 24, 25⟩, ⟨[13, 18], 31, 18, 19⟩, ⟨[13, 18], 34, 2, 17⟩] [19, 18, 17, 16, 15, 14, 13, 12, 11, 10, 9, 8, 7, 6, 5, 4, 3, 2, 1, 0] rfl (by kernel_rfl) (fun cx => ?_)
        exact AT.done [6, 5, 4, 2, 1] [5, 2] _ (by kernel_rfl) (by kernel_rfl) rfl
      · refine LAt.runU tOk 1 (by kernel_rfl) ?_
        refine LAt.fin (by kernel_rfl) (And.intro (And.intro (by kernel_rfl) (by kernel_rfl)) ?_)
        refine AT.big1 tOk 13 (by kernel_rfl) (by kernel_rfl) ?_
        refine LAt.callU tOk [.rd, .rd, .rd] (f := 138) (av := #[.tmp 17, .tmp 23, .tmp 29]) (ats := #[34, 3, 3]) (d := (some 30)) (ty := 153) (g := none) (by kernel_rfl) (by kernel_rfl) (by kernel_rfl) [] (impl_portAt n x0 v2.A v3.P r4 er4) (by kernel_rfl) (.inl rfl) ?_
        refine LAt.fin (by kernel_rfl) (And.intro (And.intro (by kernel_rfl) (by kernel_rfl)) ?_)
        refine AT.movT tOk 14 (ty := 153) (t := 30) (d := 16) (g := none) [(true, (Pt.row r4.1)), (false, [.lit (.bool r4.2)])] _ (by kernel_rfl) (by kernel_rfl) (by kernel_rfl) (.inl rfl) (by kernel_rfl) (by kernel_rfl) (by kernel_rfl) (by kernel_rfl) rfl (fun cx => ?_)
        refine AT.runU tOk [(15, []), (16, [])] 2 [⟨[13, 18], 31, 24, 25⟩, ⟨[13, 18], 31, 18, 19⟩, ⟨[13, 18], 34, 2, 17⟩] [16, 15, 14, 13, 17, 12, 11, 10, 9, 8, 7, 6, 5, 4, 3, 2, 1, 0] rfl (by kernel_rfl) (fun cx => ?_)
        refine AT.big1 tOk 18 (by kernel_rfl) (by kernel_rfl) ?_
        refine LAt.runU tOk 1 (by kernel_rfl) ?_
        refine LAt.fin (by kernel_rfl) (And.intro (And.intro (by kernel_rfl) (by kernel_rfl)) ?_)
        refine AT.runU tOk [(19, [])] 0 [⟨[13, 18], 31, 24, 25⟩, ⟨[13, 18], 31, 18, 19⟩, ⟨[13, 18], 34, 2, 17⟩] [19, 18, 16, 15, 14, 13, 17, 12, 11, 10, 9, 8, 7, 6, 5, 4, 3, 2, 1, 0] rfl (by kernel_rfl) (fun cx => ?_)
        exact AT.done [6, 5, 4, 2, 1] [5, 2] _ (by kernel_rfl) (by kernel_rfl) rfl
    · obtain ⟨v5, ev5, H⟩ := bind_some H
      obtain ⟨v6, ev6, H⟩ := bind_some H
      obtain ⟨r7, er7, H⟩ := bind_some H
      refine Tr.draws mixed 20 (by kernel_rfl) ⟨62, 0, [(8, .val false [.lit (.bool r7.2)]), (7, .adr (.box 7) [(0, 0)] 8 0), (6, .val false [.lit (.bool r4.2)]), (5, .adr (.box 5) [(0, 0)] 8 0), (4, .val false [.lit (.bool false)])], [(7, (Pt.row r7.1)), (5, (Pt.row r4.1))]⟩ (fun cx => ?_) ?_
      · refine AT.runU tOk [(0, [13, 18]), (1, []), (2, [13, 18]), (3, [])] 16 [⟨[13, 18], 31, 35, 36⟩, ⟨[13, 18], 34, 2, 34⟩] [3, 2, 1, 0] rfl (by kernel_rfl) (fun cx => ?_)
        refine AT.indexF tOk 4 (t := 31) (ty := 0) (x := (.tmp 36)) (y := (.tmp 37)) (d := 38) (g := none) ⟨(.box 2), [(0, 0)], 1, false, 4, (CV.frzEs (x0.Links.map Link.row))⟩ x1 (Link.row v5) _ (by kernel_rfl) (by kernel_rfl) (by kernel_rfl) (by kernel_rfl) (by kernel_rfl) (by kernel_rfl) rfl (idx_isF ev5) rfl (fun cx => ?_)
        refine AT.runU tOk [(5, []), (6, []), (7, []), (8, [13, 18]), (9, [])] 10 [⟨[13, 18], 31, 41, 42⟩, ⟨[13, 18], 31, 35, 36⟩, ⟨[13, 18], 34, 2, 34⟩] [9, 8, 7, 6, 5, 4, 3, 2, 1, 0] rfl (by kernel_rfl) (fun cx => ?_)
        refine AT.indexF tOk 10 (t := 31) (ty := 0) (x := (.tmp 42)) (y := (.tmp 43)) (d := 44) (g := none) ⟨(.box 2), [(0, 0)], 1, false, 4, (CV.frzEs (x0.Links.map Link.row))⟩ x1 (Link.row v6) _ (by kernel_rfl) (by kernel_rfl) (by kernel_rfl) (by kernel_rfl) (by kernel_rfl) (by kernel_rfl) rfl (idx_isF ev6) rfl (fun cx => ?_)
        refine AT.runU tOk [(11, []), (12, [])] 7 [⟨[13, 18], 31, 41, 42⟩, ⟨[13, 18], 31, 35, 36⟩, ⟨[13, 18], 34, 2, 34⟩] [12, 11, 10, 9, 8, 7, 6, 5, 4, 3, 2, 1, 0] rfl (by kernel_rfl) (fun cx => ?_)
        refine AT.big2 tOk 13 17 (by kernel_rfl) (And.intro (by kernel_rfl) ?_) (And.intro (by kernel_rfl) ?_)
        · refine LAt.callU tOk [.rd, .rd, .rd] (f := 138) (av := #[.tmp 34, .tmp 40, .tmp 46]) (ats := #[34, 3, 3]) (d := (some 47)) (ty := 153) (g := none) (by kernel_rfl) (by kernel_rfl) (by kernel_rfl) [] (impl_portAt n x0 v5.B v6.Q r7 er7) (by kernel_rfl) (.inl rfl) ?_
          refine LAt.fin (by kernel_rfl) (And.intro (And.intro (by kernel_rfl) (by kernel_rfl)) ?_)
          refine AT.movT tOk 14 (ty := 153) (t := 47) (d := 33) (g := none) [(true, (Pt.row r7.1)), (false, [.lit (.bool r7.2)])] _ (by kernel_rfl) (by kernel_rfl) (by kernel_rfl) (.inl rfl) (by kernel_rfl) (by kernel_rfl) (by kernel_rfl) (by kernel_rfl) rfl (fun cx => ?_)
          refine AT.runU tOk [(15, []), (16, [])] 3 [⟨[13, 18], 31, 41, 42⟩, ⟨[13, 18], 31, 35, 36⟩, ⟨[13, 18], 34, 2, 34⟩] [16, 15, 14, 13, 12, 11, 10, 9, 8, 7, 6, 5, 4, 3, 2, 1, 0] rfl (by kernel_rfl) (fun cx => ?_)
          refine AT.big1 tOk 17 (by kernel_rfl) (by kernel_rfl) ?_
          refine LAt.runU tOk 1 (by kernel_rfl) ?_
          refine LAt.fin (by kernel_rfl) (And.intro (And.intro (by kernel_rfl) (by kernel_rfl)) ?_)
          refine AT.big1 tOk 18 (by kernel_rfl) (by kernel_rfl) ?_
          refine LAt.runU tOk 1 (by kernel_rfl) ?_
          refine LAt.fin (by kernel_rfl) (And.intro (And.intro (by kernel_rfl) (by kernel_rfl)) ?_)
          refine AT.runU tOk [(19, [])] 0 [⟨[13, 18], 31, 41, 42⟩, ⟨[13, 18], 31, 35, 36⟩, ⟨[13, 18], 34, 2, 34⟩] [19, 18, 17, 16, 15, 14, 13, 12, 11, 10, 9, 8, 7, 6, 5, 4, 3, 2, 1, 0] rfl (by kernel_rfl) (fun cx => ?_)
          exact AT.done [8, 7, 6, 5, 4] [7, 5] _ (by kernel_rfl) (by kernel_rfl) rfl
        · refine LAt.runU tOk 1 (by kernel_rfl) ?_
          refine LAt.fin (by kernel_rfl) (And.intro (And.intro (by kernel_rfl) (by kernel_rfl)) ?_)
          refine AT.big1 tOk 13 (by kernel_rfl) (by kernel_rfl) ?_
          refine LAt.callU tOk [.rd, .rd, .rd] (f := 138) (av := #[.tmp 34, .tmp 40, .tmp 46]) (ats := #[34, 3, 3]) (d := (some 47)) (ty := 153) (g := none) (by kernel_rfl) (by kernel_rfl) (by kernel_rfl) [] (impl_portAt n x0 v5.B v6.Q r7 er7) (by kernel_rfl) (.inl rfl) ?_
          refine LAt.fin (by kernel_rfl) (And.intro (And.intro (by kernel_rfl) (by kernel_rfl)) ?_)
          refine AT.movT tOk 14 (ty := 153) (t := 47) (d := 33) (g := none) [(true, (Pt.row r7.1)), (false, [.lit (.bool r7.2)])] _ (by kernel_rfl) (by kernel_rfl) (by kernel_rfl) (.inl rfl) (by kernel_rfl) (by kernel_rfl) (by kernel_rfl) (by kernel_rfl) rfl (fun cx => ?_)
          refine AT.runU tOk [(15, []), (16, [])] 2 [⟨[13, 18], 31, 41, 42⟩, ⟨[13, 18], 31, 35, 36⟩, ⟨[13, 18], 34, 2, 34⟩] [16, 15, 14, 13, 17, 12, 11, 10, 9, 8, 7, 6, 5, 4, 3, 2, 1, 0] rfl (by kernel_rfl) (fun cx => ?_)
          refine AT.big1 tOk 18 (by kernel_rfl) (by kernel_rfl) ?_
          refine LAt.runU tOk 1 (by kernel_rfl) ?_
          refine LAt.fin (by kernel_rfl) (And.intro (And.intro (by kernel_rfl) (by kernel_rfl)) ?_)
          refine AT.runU tOk [(19, [])] 0 [⟨[13, 18], 31, 41, 42⟩, ⟨[13, 18], 31, 35, 36⟩, ⟨[13, 18], 34, 2, 34⟩] [19, 18, 16, 15, 14, 13, 17, 12, 11, 10, 9, 8, 7, 6, 5, 4, 3, 2, 1, 0] rfl (by kernel_rfl) (fun cx => ?_)
          exact AT.done [8, 7, 6, 5, 4] [7, 5] _ (by kernel_rfl) (by kernel_rfl) rfl
      · refine Tr.rs ?_
        refine LAt.runU tOk 2 (by kernel_rfl) ?_
        refine LAt.to ⟨62, 0, [(51, .val false [.lit (.bool r4.2)]), (50, .val false [.lit (.bool r4.2)]), (8, .val false [.lit (.bool r7.2)]), (7, .adr (.box 7) [(0, 0)] 8 0), (6, .val false [.lit (.bool r4.2)]), (5, .adr (.box 5) [(0, 0)] 8 0), (4, .val false [.lit (.bool false)])], [(7, (Pt.row r7.1)), (5, (Pt.row r4.1))]⟩ (by kernel_rfl) ?_
        cases h2 : r4.2
        · have H := bifF h2 H
          refine LAt.runU tOk 11 (by kernel_rfl) ?_
          refine LAt.doneU [4] [] (by kernel_rfl) ?_
          refine Tr.ret ?_
          have H := Option.some.inj H
          subst H
          exact Fin.of _ [(false, [.lit (.bool false)])] (by kernel_rfl) rfl rfl
        · have H := bifT h2 H
          refine LAt.runU tOk 3 (by kernel_rfl) ?_
          refine LAt.to ⟨62, 0, [(54, .val false [.lit (.bool r7.2)]), (53, .val false [.lit (.bool r7.2)]), (52, .val false [.lit (.bool r7.2)]), (51, .val false [.lit (.bool true)]), (50, .val false [.lit (.bool true)]), (8, .val false [.lit (.bool r7.2)]), (7, .adr (.box 7) [(0, 0)] 8 0), (6, .val false [.lit (.bool true)]), (5, .adr (.box 5) [(0, 0)] 8 0), (4, .val false [.lit (.bool false)])], [(7, (Pt.row r7.1)), (5, (Pt.row r4.1))]⟩ (by kernel_rfl) ?_
          cases h3 : r7.2
          · have H := bifF h3 H
            refine LAt.runU tOk 8 (by kernel_rfl) ?_
            refine LAt.doneU [4] [] (by kernel_rfl) ?_
            refine Tr.ret ?_
            have H := Option.some.inj H
            subst H
            exact Fin.of _ [(false, [.lit (.bool false)])] (by kernel_rfl) rfl rfl
          · have H := bifT h3 H
            refine LAt.runU tOk 4 (by kernel_rfl) ?_
            refine LAt.to ⟨62, 0, [(58, .val false [.lit (.bool r4.1.Up)]), (57, .val false [.lit (.bool r4.1.Up)]), (56, .val false [.lit (.bool r4.1.Up)]), (55, .adr (.box 5) [(0, 0)] 8 0), (54, .val false [.lit (.bool true)]), (53, .val false [.lit (.bool true)]), (52, .val false [.lit (.bool true)]), (51, .val false [.lit (.bool true)]), (50, .val false [.lit (.bool true)]), (8, .val false [.lit (.bool true)]), (7, .adr (.box 7) [(0, 0)] 8 0), (6, .val false [.lit (.bool true)]), (5, .adr (.box 5) [(0, 0)] 8 0), (4, .val false [.lit (.bool false)])], [(7, (Pt.row r7.1)), (5, (Pt.row r4.1))]⟩ (by kernel_rfl) ?_
            cases h4 : r4.1.Up
            · have H := bifF h4 H
              refine LAt.runU tOk 4 (by kernel_rfl) ?_
              refine LAt.doneU [4] [] (by kernel_rfl) ?_
              refine Tr.ret ?_
              have H := Option.some.inj H
              subst H
              exact Fin.of _ [(false, [.lit (.bool false)])] (by kernel_rfl) rfl rfl
            · have H := bifT h4 H
              refine LAt.runU tOk 4 (by kernel_rfl) ?_
              refine LAt.doneU [4] [] (by kernel_rfl) ?_
              refine Tr.ret ?_
              have H := Option.some.inj H
              subst H
              exact Fin.of _ [(false, [.lit (.bool r7.1.Up)])] (by kernel_rfl) rfl rfl
  · have H := bifT h1 H
    refine Tr.cond (b := true) (by kernel_rfl) (fun _ => ?_) (fun h => nomatch h)
    refine Tr.rs ?_
    refine LAt.runU tOk 1 (by kernel_rfl) ?_
    refine LAt.doneU [4, 2, 1] [2] (by kernel_rfl) ?_
    refine Tr.ret ?_
    have H := Option.some.inj H
    subst H
    exact Fin.of _ [(false, [.lit (.bool false)])] (by kernel_rfl) rfl rfl

def impl_VecOkF (n : Nat) (x0 : Vec) : Option (Bool) :=
  ((impl_inF n x0.Root 1 99).bind fun r1 => (bif r1 then ((impl_inF n x0.Cost 0 100000).bind fun r2 => (bif r2 then ((impl_inF n x0.Hops 0 10).bind fun r3 => (bif r3 then ((impl_inF n x0.Bridge 1 99).bind fun r4 => (bif r4 then ((impl_inF n x0.Port 0 7).bind fun r5 => (some r5)) else (some false))) else (some false))) else (some false))) else (some false)))
/-- loop.example/g00326/impl.VecOk -/
theorem impl_VecOk (n : Nat) (x0 : Vec) (r : Bool) (H : impl_VecOkF n x0 = some r) : LCall Try.prog 90 [.val true (CV.frzRow (Vec.row x0))] [.val false [.lit (.bool r)]] [] := by
  refine LCall.of_body tOk Try.func90 rfl (c := (.seq (.region 0 (rg Try.f90 0) false) (.seq (.region 1 (rg Try.f90 1) false) .ret))) (by kernel_rfl) (Nat.le_of_ble_eq_true (by kernel_rfl)) 0 (rs := [.tmp 2]) rfl [] .nil [(false, [.lit (.bool r)])] [] [] fun cx => ?_
  show Tr _ _ _ ⟨26, 0, [(0, .val true (Vec.row x0))], []⟩ _
  unfold impl_VecOkF at H
  refine Tr.rs ?_
  refine LAt.runU tOk 2 (by kernel_rfl) ?_
  refine LAt.doneU [2, 1] [1] (by kernel_rfl) ?_
  refine Tr.rs ?_
  refine LAt.runU tOk 2 (by kernel_rfl) ?_
  obtain ⟨r1, er1, H⟩ := bind_some H
  refine LAt.callU tOk [.rd, .rd, .rd] (f := 70) (av := #[.tmp 4, .const (.int .i64 1), .const (.int .i64 99)]) (ats := #[3, 3, 3]) (d := (some 5)) (ty := 4) (g := none) (by kernel_rfl) (by kernel_rfl) (by kernel_rfl) [] (impl_in n x0.Root 1 99 r1 er1) (by kernel_rfl) (.inl rfl) ?_
  refine LAt.runU tOk 1 (by kernel_rfl) ?_
  refine LAt.to ⟨26, 0, [(6, .val false [.lit (.bool r1)]), (5, .val false [.lit (.bool r1)]), (4, .val false [.lit (.int .i64 x0.Root)]), (3, .adr (.box 1) [(0, 0)] 5 0), (2, .val false [.lit (.bool false)]), (1, .adr (.box 1) [(0, 0)] 5 0)], [(1, (Vec.row x0))]⟩ (by kernel_rfl) ?_
  cases h1 : r1
  · have H := bifF h1 H
    refine LAt.runU tOk 20 (by kernel_rfl) ?_
    refine LAt.doneU [2] [] (by kernel_rfl) ?_
    refine Tr.ret ?_
    have H := Option.some.inj H
    subst H
    exact Fin.of _ [(false, [.lit (.bool false)])] (by kernel_rfl) rfl rfl
  · have H := bifT h1 H
    refine LAt.runU tOk 2 (by kernel_rfl) ?_
    obtain ⟨r2, er2, H⟩ := bind_some H
    refine LAt.callU tOk [.rd, .rd, .rd] (f := 70) (av := #[.tmp 8, .const (.int .i64 0), .const (.int .i64 100000)]) (ats := #[3, 3, 3]) (d := (some 9)) (ty := 4) (g := (some (3, true))) (by kernel_rfl) (by kernel_rfl) (by kernel_rfl) [] (impl_in n x0.Cost 0 100000 r2 er2) (by kernel_rfl) (.inl rfl) ?_
    refine LAt.runU tOk 2 (by kernel_rfl) ?_
    refine LAt.to ⟨26, 0, [(11, .val false [.lit (.bool r2)]), (10, .val false [.lit (.bool r2)]), (9, .val false [.lit (.bool r2)]), (8, .val false [.lit (.int .i64 x0.Cost)]), (7, .adr (.box 1) [(0, 0)] 5 1), (6, .val false [.lit (.bool true)]), (5, .val false [.lit (.bool true)]), (4, .val false [.lit (.int .i64 x0.Root)]), (3, .adr (.box 1) [(0, 0)] 5 0), (2, .val false [.lit (.bool false)]), (1, .adr (.box 1) [(0, 0)] 5 0)], [(1, (Vec.row x0))]⟩ (by kernel_rfl) ?_
    cases h2 : r2
    · have H := bifF h2 H
      refine LAt.runU tOk 15 (by kernel_rfl) ?_
      refine LAt.doneU [2] [] (by kernel_rfl) ?_
      refine Tr.ret ?_
      have H := Option.some.inj H
      subst H
      exact Fin.of _ [(false, [.lit (.bool false)])] (by kernel_rfl) rfl rfl
    · have H := bifT h2 H
      refine LAt.runU tOk 2 (by kernel_rfl) ?_
      obtain ⟨r3, er3, H⟩ := bind_some H
      refine LAt.callU tOk [.rd, .rd, .rd] (f := 70) (av := #[.tmp 13, .const (.int .i64 0), .const (.int .i64 10)]) (ats := #[3, 3, 3]) (d := (some 14)) (ty := 4) (g := (some (8, true))) (by kernel_rfl) (by kernel_rfl) (by kernel_rfl) [] (impl_in n x0.Hops 0 10 r3 er3) (by kernel_rfl) (.inl rfl) ?_
      refine LAt.runU tOk 2 (by kernel_rfl) ?_
      refine LAt.to ⟨26, 0, [(16, .val false [.lit (.bool r3)]), (15, .val false [.lit (.bool r3)]), (14, .val false [.lit (.bool r3)]), (13, .val false [.lit (.int .i64 x0.Hops)]), (12, .adr (.box 1) [(0, 0)] 5 2), (11, .val false [.lit (.bool true)]), (10, .val false [.lit (.bool true)]), (9, .val false [.lit (.bool true)]), (8, .val false [.lit (.int .i64 x0.Cost)]), (7, .adr (.box 1) [(0, 0)] 5 1), (6, .val false [.lit (.bool true)]), (5, .val false [.lit (.bool true)]), (4, .val false [.lit (.int .i64 x0.Root)]), (3, .adr (.box 1) [(0, 0)] 5 0), (2, .val false [.lit (.bool false)]), (1, .adr (.box 1) [(0, 0)] 5 0)], [(1, (Vec.row x0))]⟩ (by kernel_rfl) ?_
      cases h3 : r3
      · have H := bifF h3 H
        refine LAt.runU tOk 10 (by kernel_rfl) ?_
        refine LAt.doneU [2] [] (by kernel_rfl) ?_
        refine Tr.ret ?_
        have H := Option.some.inj H
        subst H
        exact Fin.of _ [(false, [.lit (.bool false)])] (by kernel_rfl) rfl rfl
      · have H := bifT h3 H
        refine LAt.runU tOk 2 (by kernel_rfl) ?_
        obtain ⟨r4, er4, H⟩ := bind_some H
        refine LAt.callU tOk [.rd, .rd, .rd] (f := 70) (av := #[.tmp 18, .const (.int .i64 1), .const (.int .i64 99)]) (ats := #[3, 3, 3]) (d := (some 19)) (ty := 4) (g := (some (13, true))) (by kernel_rfl) (by kernel_rfl) (by kernel_rfl) [] (impl_in n x0.Bridge 1 99 r4 er4) (by kernel_rfl) (.inl rfl) ?_
        refine LAt.runU tOk 2 (by kernel_rfl) ?_
        refine LAt.to ⟨26, 0, [(21, .val false [.lit (.bool r4)]), (20, .val false [.lit (.bool r4)]), (19, .val false [.lit (.bool r4)]), (18, .val false [.lit (.int .i64 x0.Bridge)]), (17, .adr (.box 1) [(0, 0)] 5 3), (16, .val false [.lit (.bool true)]), (15, .val false [.lit (.bool true)]), (14, .val false [.lit (.bool true)]), (13, .val false [.lit (.int .i64 x0.Hops)]), (12, .adr (.box 1) [(0, 0)] 5 2), (11, .val false [.lit (.bool true)]), (10, .val false [.lit (.bool true)]), (9, .val false [.lit (.bool true)]), (8, .val false [.lit (.int .i64 x0.Cost)]), (7, .adr (.box 1) [(0, 0)] 5 1), (6, .val false [.lit (.bool true)]), (5, .val false [.lit (.bool true)]), (4, .val false [.lit (.int .i64 x0.Root)]), (3, .adr (.box 1) [(0, 0)] 5 0), (2, .val false [.lit (.bool false)]), (1, .adr (.box 1) [(0, 0)] 5 0)], [(1, (Vec.row x0))]⟩ (by kernel_rfl) ?_
        cases h4 : r4
        · have H := bifF h4 H
          refine LAt.runU tOk 5 (by kernel_rfl) ?_
          refine LAt.doneU [2] [] (by kernel_rfl) ?_
          refine Tr.ret ?_
          have H := Option.some.inj H
          subst H
          exact Fin.of _ [(false, [.lit (.bool false)])] (by kernel_rfl) rfl rfl
        · have H := bifT h4 H
          refine LAt.runU tOk 2 (by kernel_rfl) ?_
          obtain ⟨r5, er5, H⟩ := bind_some H
          refine LAt.callU tOk [.rd, .rd, .rd] (f := 70) (av := #[.tmp 23, .const (.int .i64 0), .const (.int .i64 7)]) (ats := #[3, 3, 3]) (d := (some 24)) (ty := 4) (g := (some (18, true))) (by kernel_rfl) (by kernel_rfl) (by kernel_rfl) [] (impl_in n x0.Port 0 7 r5 er5) (by kernel_rfl) (.inl rfl) ?_
          refine LAt.runU tOk 2 (by kernel_rfl) ?_
          refine LAt.doneU [2] [] (by kernel_rfl) ?_
          refine Tr.ret ?_
          have H := Option.some.inj H
          subst H
          exact Fin.of _ [(false, [.lit (.bool r5)])] (by kernel_rfl) rfl rfl

def impl_StepVecF (n : Nat) (x0 : Vec) (x1 : Int) : Option (Vec × Bool) :=
  ((impl_VecOkF n x0).bind fun r1 => (bif (!r1) then (some (x0, false)) else ((impl_inF n x1 1 1000).bind fun r2 => (bif (!r2) then (some (x0, false)) else ((impl_VecOkF n (⟨x0.Root, (IntKind.wrap .i64 (x0.Cost + x1)), (IntKind.wrap .i64 (x0.Hops + 1)), x0.Bridge, x0.Port⟩ : Vec)).bind fun r3 => (bif (!r3) then (some (x0, false)) else (some ((⟨x0.Root, (IntKind.wrap .i64 (x0.Cost + x1)), (IntKind.wrap .i64 (x0.Hops + 1)), x0.Bridge, x0.Port⟩ : Vec), true))))))))
/-- loop.example/g00326/impl.StepVec -/
theorem impl_StepVec (n : Nat) (x0 : Vec) (x1 : Int) (r : Vec × Bool) (H : impl_StepVecF n x0 x1 = some r) : LCall Try.prog 188 [.val true (CV.frzRow (Vec.row x0)), .val false [.lit (.int .i64 x1)]] [.val true (Vec.row r.1), .val false [.lit (.bool r.2)]] [] := by
  refine LCall.of_body tOk Try.func188 rfl (c := (.seq (.region 0 (rg Try.f188 0) false) (.seq (.seq (.region 1 (rg Try.f188 1) false) (.cond (.tmp 14) (.seq (.region 2 (rg Try.f188 2) false) .ret) .skip)) (.seq (.region 3 (rg Try.f188 3) false) (.seq (.region 4 (rg Try.f188 4) false) (.seq (.region 5 (rg Try.f188 5) false) (.seq (.seq (.region 6 (rg Try.f188 6) false) (.cond (.tmp 28) (.seq (.region 7 (rg Try.f188 7) false) .ret) .skip)) (.seq (.region 8 (rg Try.f188 8) false) .ret)))))))) (by kernel_rfl) (Nat.le_of_ble_eq_true (by kernel_rfl)) 0 (rs := [.cell 4 70, .tmp 5]) rfl [] .nil [(true, (Vec.row r.1)), (false, [.lit (.bool r.2)])] [] [] fun cx => ?_
  show Tr _ _ _ ⟨31, 0, [(0, .val true (Vec.row x0)), (1, .val false [.lit (.int .i64 x1)])], []⟩ _
  unfold impl_StepVecF at H
  refine Tr.rs ?_
  refine LAt.runU tOk 3 (by kernel_rfl) ?_
  refine LAt.doneU [5, 4, 2, 1] [4, 2] (by kernel_rfl) ?_
  refine Tr.seq ?_
  refine Tr.rs ?_
  refine LAt.runU tOk 1 (by kernel_rfl) ?_
  obtain ⟨r1, er1, H⟩ := bind_some H
  refine LAt.callU tOk [.rd] (f := 90) (av := #[.tmp 7]) (ats := #[70]) (d := (some 8)) (ty := 4) (g := none) (by kernel_rfl) (by kernel_rfl) (by kernel_rfl) [] (impl_VecOk n x0 r1 er1) (by kernel_rfl) (.inl rfl) ?_
  refine LAt.runU tOk 2 (by kernel_rfl) ?_
  refine LAt.to ⟨31, 0, [(10, .val false [.lit (.bool (!r1))]), (9, .val false [.lit (.bool (!r1))]), (8, .val false [.lit (.bool r1)]), (7, .val true (Vec.row x0)), (5, .val false [.lit (.bool false)]), (4, .adr (.box 4) [(0, 0)] 5 0), (2, .adr (.box 2) [(0, 0)] 5 0), (1, .val false [.lit (.int .i64 x1)])], [(4, [.lit (.int .i64 0), .lit (.int .i64 0), .lit (.int .i64 0), .lit (.int .i64 0), .lit (.int .i64 0)]), (2, (Vec.row x0))]⟩ (by kernel_rfl) ?_
  cases h1 : (!r1)
  · have H := bifF h1 H
    refine LAt.runU tOk 1 (by kernel_rfl) ?_
    obtain ⟨r2, er2, H⟩ := bind_some H
    refine LAt.callU tOk [.rd, .rd, .rd] (f := 70) (av := #[.tmp 11, .const (.int .i64 1), .const (.int .i64 1000)]) (ats := #[3, 3, 3]) (d := (some 12)) (ty := 4) (g := (some (3, false))) (by kernel_rfl) (by kernel_rfl) (by kernel_rfl) [] (impl_in n x1 1 1000 r2 er2) (by kernel_rfl) (.inl rfl) ?_
    refine LAt.runU tOk 2 (by kernel_rfl) ?_
    refine LAt.doneU [14, 5, 4, 2, 1] [4, 2] (by kernel_rfl) ?_
    refine Tr.to ⟨31, 0, [(14, .val false [.lit (.bool (!r2))]), (5, .val false [.lit (.bool false)]), (4, .adr (.box 4) [(0, 0)] 5 0), (2, .adr (.box 2) [(0, 0)] 5 0), (1, .val false [.lit (.int .i64 x1)])], [(4, [.lit (.int .i64 0), .lit (.int .i64 0), .lit (.int .i64 0), .lit (.int .i64 0), .lit (.int .i64 0)]), (2, (Vec.row x0))]⟩ (by kernel_rfl) ?_
    cases h2 : (!r2)
    · have H := bifF h2 H
      refine Tr.cond (b := false) (by kernel_rfl) (fun h => nomatch h) (fun _ => ?_)
      refine Tr.skip ?_
      show Tr _ _ _ _ _
      refine Tr.rs ?_
      refine LAt.runU tOk 3 (by kernel_rfl) ?_
      refine LAt.doneU [6, 5, 4, 2, 1] [6, 4, 2] (by kernel_rfl) ?_
      refine Tr.rs ?_
      refine LAt.runU tOk 6 (by kernel_rfl) ?_
      refine LAt.doneU [6, 5, 4, 2] [6, 4, 2] (by kernel_rfl) ?_
      refine Tr.rs ?_
      refine LAt.runU tOk 5 (by kernel_rfl) ?_
      refine LAt.doneU [6, 5, 4, 2] [6, 4, 2] (by kernel_rfl) ?_
      refine Tr.seq ?_
      refine Tr.rs ?_
      refine LAt.runU tOk 1 (by kernel_rfl) ?_
      obtain ⟨r3, er3, H⟩ := bind_some H
      refine LAt.callU tOk [.rd] (f := 90) (av := #[.tmp 26]) (ats := #[70]) (d := (some 27)) (ty := 4) (g := none) (by kernel_rfl) (by kernel_rfl) (by kernel_rfl) [] (impl_VecOk n (⟨x0.Root, (IntKind.wrap .i64 (x0.Cost + x1)), (IntKind.wrap .i64 (x0.Hops + 1)), x0.Bridge, x0.Port⟩ : Vec) r3 er3) (by kernel_rfl) (.inl rfl) ?_
      refine LAt.runU tOk 1 (by kernel_rfl) ?_
      refine LAt.doneU [28, 6, 5, 4, 2] [6, 4, 2] (by kernel_rfl) ?_
      refine Tr.to ⟨31, 0, [(28, .val false [.lit (.bool (!r3))]), (6, .adr (.box 6) [(0, 0)] 5 0), (5, .val false [.lit (.bool false)]), (4, .adr (.box 4) [(0, 0)] 5 0), (2, .adr (.box 2) [(0, 0)] 5 0)], [(6, [.lit (.int .i64 x0.Root), .lit (.int .i64 (IntKind.wrap .i64 (x0.Cost + x1))), .lit (.int .i64 (IntKind.wrap .i64 (x0.Hops + 1))), .lit (.int .i64 x0.Bridge), .lit (.int .i64 x0.Port)]), (4, [.lit (.int .i64 0), .lit (.int .i64 0), .lit (.int .i64 0), .lit (.int .i64 0), .lit (.int .i64 0)]), (2, (Vec.row x0))]⟩ (by kernel_rfl) ?_
      cases h3 : (!r3)
      · have H := bifF h3 H
        refine Tr.cond (b := false) (by kernel_rfl) (fun h => nomatch h) (fun _ => ?_)
        refine Tr.skip ?_
        show Tr _ _ _ _ _
        refine Tr.rs ?_
        refine LAt.runU tOk 3 (by kernel_rfl) ?_
        refine LAt.doneU [5, 4] [4] (by kernel_rfl) ?_
        refine Tr.ret ?_
        have H := Option.some.inj H
        subst H
        exact Fin.of _ [(true, [.lit (.int .i64 x0.Root), .lit (.int .i64 (IntKind.wrap .i64 (x0.Cost + x1))), .lit (.int .i64 (IntKind.wrap .i64 (x0.Hops + 1))), .lit (.int .i64 x0.Bridge), .lit (.int .i64 x0.Port)]), (false, [.lit (.bool true)])] (by kernel_rfl) rfl rfl
      · have H := bifT h3 H
        refine Tr.cond (b := true) (by kernel_rfl) (fun _ => ?_) (fun h => nomatch h)
        refine Tr.rs ?_
        refine LAt.runU tOk 3 (by kernel_rfl) ?_
        refine LAt.doneU [5, 6, 4] [4, 6] (by kernel_rfl) ?_
        refine Tr.ret ?_
        have H := Option.some.inj H
        subst H
        exact Fin.of _ [(true, (Vec.row x0)), (false, [.lit (.bool false)])] (by kernel_rfl) rfl rfl
    · have H := bifT h2 H
      refine Tr.cond (b := true) (by kernel_rfl) (fun _ => ?_) (fun h => nomatch h)
      refine Tr.rs ?_
      refine LAt.runU tOk 3 (by kernel_rfl) ?_
      refine LAt.doneU [5, 4, 2, 1] [4, 2] (by kernel_rfl) ?_
      refine Tr.ret ?_
      have H := Option.some.inj H
      subst H
      exact Fin.of _ [(true, (Vec.row x0)), (false, [.lit (.bool false)])] (by kernel_rfl) rfl rfl
  · have H := bifT h1 H
    refine LAt.runU tOk 4 (by kernel_rfl) ?_
    refine LAt.doneU [14, 5, 4, 2, 1] [4, 2] (by kernel_rfl) ?_
    refine Tr.cond (b := true) (by kernel_rfl) (fun _ => ?_) (fun h => nomatch h)
    refine Tr.rs ?_
    refine LAt.runU tOk 3 (by kernel_rfl) ?_
    refine LAt.doneU [5, 4, 2, 1] [4, 2] (by kernel_rfl) ?_
    refine Tr.ret ?_
    have H := Option.some.inj H
    subst H
    exact Fin.of _ [(true, (Vec.row x0)), (false, [.lit (.bool false)])] (by kernel_rfl) rfl rfl

def impl_LessVecF (n : Nat) (x0 : Vec) (x1 : Vec) : Option (Bool) :=
  (bif (x0.Root != x1.Root) then (some (decide (x0.Root < x1.Root))) else (bif (x0.Cost != x1.Cost) then (some (decide (x0.Cost < x1.Cost))) else (bif (x0.Bridge != x1.Bridge) then (some (decide (x0.Bridge < x1.Bridge))) else (some (decide (x0.Port < x1.Port))))))
/-- loop.example/g00326/impl.LessVec -/
theorem impl_LessVec (n : Nat) (x0 : Vec) (x1 : Vec) (r : Bool) (H : impl_LessVecF n x0 x1 = some r) : LCall Try.prog 187 [.val true (CV.frzRow (Vec.row x0)), .val true (CV.frzRow (Vec.row x1))] [.val false [.lit (.bool r)]] [] := by
  refine LCall.of_body tOk Try.func187 rfl (c := (.seq (.region 0 (rg Try.f187 0) false) (.seq (.block 0 (.seq (.region 1 (rg Try.f187 1) false) (.cond (.tmp 5) (.seq (.region 2 (rg Try.f187 2) false) .ret) (.seq (.region 3 (rg Try.f187 3) false) (.cond (.tmp 16) (.seq (.region 4 (rg Try.f187 4) false) .ret) (.seq (.region 5 (rg Try.f187 5) false) (.cond (.tmp 27) (.seq (.region 6 (rg Try.f187 6) false) .ret) .skip))))))) (.seq (.region 7 (rg Try.f187 7) false) .ret)))) (by kernel_rfl) (Nat.le_of_ble_eq_true (by kernel_rfl)) 0 (rs := [.tmp 4]) rfl [] .nil [(false, [.lit (.bool r)])] [] [] fun cx => ?_
  show Tr _ _ _ ⟨43, 0, [(0, .val true (Vec.row x0)), (1, .val true (Vec.row x1))], []⟩ _
  unfold impl_LessVecF at H
  refine Tr.rs ?_
  refine LAt.runU tOk 3 (by kernel_rfl) ?_
  refine LAt.doneU [4, 3, 2] [3, 2] (by kernel_rfl) ?_
  refine Tr.seq ?_
  refine Tr.block ?_
  refine Tr.rs ?_
  refine LAt.runU tOk 6 (by kernel_rfl) ?_
  refine LAt.doneU [5, 4, 3, 2] [3, 2] (by kernel_rfl) ?_
  refine Tr.to ⟨43, 0, [(5, .val false [.lit (.bool (x0.Root != x1.Root))]), (4, .val false [.lit (.bool false)]), (3, .adr (.box 3) [(0, 0)] 5 0), (2, .adr (.box 2) [(0, 0)] 5 0)], [(3, (Vec.row x1)), (2, (Vec.row x0))]⟩ (by kernel_rfl) ?_
  cases h1 : (x0.Root != x1.Root)
  · have H := bifF h1 H
    refine Tr.cond (b := false) (by kernel_rfl) (fun h => nomatch h) (fun _ => ?_)
    refine Tr.rs ?_
    refine LAt.runU tOk 6 (by kernel_rfl) ?_
    refine LAt.doneU [16, 4, 3, 2] [3, 2] (by kernel_rfl) ?_
    refine Tr.to ⟨43, 0, [(16, .val false [.lit (.bool (x0.Cost != x1.Cost))]), (4, .val false [.lit (.bool false)]), (3, .adr (.box 3) [(0, 0)] 5 0), (2, .adr (.box 2) [(0, 0)] 5 0)], [(3, (Vec.row x1)), (2, (Vec.row x0))]⟩ (by kernel_rfl) ?_
    cases h2 : (x0.Cost != x1.Cost)
    · have H := bifF h2 H
      refine Tr.cond (b := false) (by kernel_rfl) (fun h => nomatch h) (fun _ => ?_)
      refine Tr.rs ?_
      refine LAt.runU tOk 6 (by kernel_rfl) ?_
      refine LAt.doneU [27, 4, 3, 2] [3, 2] (by kernel_rfl) ?_
      refine Tr.to ⟨43, 0, [(27, .val false [.lit (.bool (x0.Bridge != x1.Bridge))]), (4, .val false [.lit (.bool false)]), (3, .adr (.box 3) [(0, 0)] 5 0), (2, .adr (.box 2) [(0, 0)] 5 0)], [(3, (Vec.row x1)), (2, (Vec.row x0))]⟩ (by kernel_rfl) ?_
      cases h3 : (x0.Bridge != x1.Bridge)
      · have H := bifF h3 H
        refine Tr.cond (b := false) (by kernel_rfl) (fun h => nomatch h) (fun _ => ?_)
        refine Tr.skip ?_
        show Tr _ _ _ _ _
        refine Tr.rs ?_
        refine LAt.runU tOk 6 (by kernel_rfl) ?_
        refine LAt.doneU [4] [] (by kernel_rfl) ?_
        refine Tr.ret ?_
        have H := Option.some.inj H
        subst H
        exact Fin.of _ [(false, [.lit (.bool (decide (x0.Port < x1.Port)))])] (by kernel_rfl) rfl rfl
      · have H := bifT h3 H
        refine Tr.cond (b := true) (by kernel_rfl) (fun _ => ?_) (fun h => nomatch h)
        refine Tr.rs ?_
        refine LAt.runU tOk 6 (by kernel_rfl) ?_
        refine LAt.doneU [4, 3, 2] [3, 2] (by kernel_rfl) ?_
        refine Tr.ret ?_
        have H := Option.some.inj H
        subst H
        exact Fin.of _ [(false, [.lit (.bool (decide (x0.Bridge < x1.Bridge)))])] (by kernel_rfl) rfl rfl
    · have H := bifT h2 H
      refine Tr.cond (b := true) (by kernel_rfl) (fun _ => ?_) (fun h => nomatch h)
      refine Tr.rs ?_
      refine LAt.runU tOk 6 (by kernel_rfl) ?_
      refine LAt.doneU [4, 3, 2] [3, 2] (by kernel_rfl) ?_
      refine Tr.ret ?_
      have H := Option.some.inj H
      subst H
      exact Fin.of _ [(false, [.lit (.bool (decide (x0.Cost < x1.Cost)))])] (by kernel_rfl) rfl rfl
  · have H := bifT h1 H
    refine Tr.cond (b := true) (by kernel_rfl) (fun _ => ?_) (fun h => nomatch h)
    refine Tr.rs ?_
    refine LAt.runU tOk 6 (by kernel_rfl) ?_
    refine LAt.doneU [4, 3, 2] [3, 2] (by kernel_rfl) ?_
    refine Tr.ret ?_
    have H := Option.some.inj H
    subst H
    exact Fin.of _ [(false, [.lit (.bool (decide (x0.Root < x1.Root)))])] (by kernel_rfl) rfl rfl

def impl_BestVec_J1 (n : Nat) (x0 : Int) (y11 : Int) (y12 : Int) (y13 : Int) (y14 : Int) : Option (Vec × Int) :=
  (some ((⟨y12, y13, y14, x0, 0⟩ : Vec), y11))
def impl_BestVec_J3 (n : Nat) (k : (Int × Int × Int × Int × Int × Int × Int × Int × Int × Int → Option ((Int × Int × Int × Int) ⊕ (Vec × Int)))) (r17 : Vec × Bool) (y1 : Int) (y10 : Int) (y2 : Int) (y3 : Int) (y4 : Int) (y5 : Int) (y6 : Int) (y7 : Int) (y8 : Int) (y9 : Int) (y18 : Bool) (y19 : Bool) (y20 : Bool) (y21 : Bool) (y22 : Bool) (y23 : Bool) (y24 : Bool) : Option ((Int × Int × Int × Int) ⊕ (Vec × Int)) :=
  (bif y18 then (k ((IntKind.wrap .i64 (y1 + 1)), y1, r17.1.Root, r17.1.Cost, r17.1.Hops, r17.1.Bridge, r17.1.Port, r17.1.Root, r17.1.Cost, r17.1.Hops)) else (k ((IntKind.wrap .i64 (y1 + 1)), y2, y3, y4, y5, y6, y7, y8, y9, y10)))
def impl_BestVec_L2 (n : Nat) : Nat → Int → (List Pt) → Int → Int → Int → Int → Int → Int → Int → Int → Int → Int → Option ((Int × Int × Int × Int) ⊕ (Vec × Int))
  | 0, _, _, _, _, _, _, _, _, _, _, _, _ => none
  | mo15 + 1, x0, x1, y1, y2, y3, y4, y5, y6, y7, y8, y9, y10 => (bif (decide (y1 < (x1.length : Int))) then ((idx x1 y1).bind fun v16 => (bif (!v16.Up) then (impl_BestVec_L2 n mo15 x0 x1 (IntKind.wrap .i64 (y1 + 1)) y2 y3 y4 y5 y6 y7 y8 y9 y10) else (bif (!v16.Has) then (impl_BestVec_L2 n mo15 x0 x1 (IntKind.wrap .i64 (y1 + 1)) y2 y3 y4 y5 y6 y7 y8 y9 y10) else ((impl_StepVecF n v16.Heard v16.Cost).bind fun r17 => (bif r17.2 then (bif (decide (r17.1.Root < x0)) then (bif (decide (y2 < 0)) then (impl_BestVec_J3 n (fun v => impl_BestVec_L2 n mo15 x0 x1 v.1 v.2.1 v.2.2.1 v.2.2.2.1 v.2.2.2.2.1 v.2.2.2.2.2.1 v.2.2.2.2.2.2.1 v.2.2.2.2.2.2.2.1 v.2.2.2.2.2.2.2.2.1 v.2.2.2.2.2.2.2.2.2) r17 y1 y10 y2 y3 y4 y5 y6 y7 y8 y9 true true true true true true true) else ((impl_LessVecF n r17.1 (⟨y3, y4, y5, y6, y7⟩ : Vec)).bind fun r25 => (impl_BestVec_J3 n (fun v => impl_BestVec_L2 n mo15 x0 x1 v.1 v.2.1 v.2.2.1 v.2.2.2.1 v.2.2.2.2.1 v.2.2.2.2.2.1 v.2.2.2.2.2.2.1 v.2.2.2.2.2.2.2.1 v.2.2.2.2.2.2.2.2.1 v.2.2.2.2.2.2.2.2.2) r17 y1 y10 y2 y3 y4 y5 y6 y7 y8 y9 r25 true true true true true true))) else (impl_BestVec_J3 n (fun v => impl_BestVec_L2 n mo15 x0 x1 v.1 v.2.1 v.2.2.1 v.2.2.2.1 v.2.2.2.2.1 v.2.2.2.2.2.1 v.2.2.2.2.2.2.1 v.2.2.2.2.2.2.2.1 v.2.2.2.2.2.2.2.2.1 v.2.2.2.2.2.2.2.2.2) r17 y1 y10 y2 y3 y4 y5 y6 y7 y8 y9 false false false true true true true)) else (impl_BestVec_J3 n (fun v => impl_BestVec_L2 n mo15 x0 x1 v.1 v.2.1 v.2.2.1 v.2.2.2.1 v.2.2.2.2.1 v.2.2.2.2.2.1 v.2.2.2.2.2.2.1 v.2.2.2.2.2.2.2.1 v.2.2.2.2.2.2.2.2.1 v.2.2.2.2.2.2.2.2.2) r17 y1 y10 y2 y3 y4 y5 y6 y7 y8 y9 false false false false false false false)))))) else (some (Sum.inl (y2, y8, y9, y10))))
def impl_BestVecF (n : Nat) (x0 : Int) (x1 : (List Pt)) : Option (Vec × Int) :=
  ((impl_BestVec_L2 n n x0 x1 0 (-1) 0 0 0 0 0 x0 0 0).bind fun o => match o with | .inl (y11, y12, y13, y14) => (impl_BestVec_J1 n x0 y11 y12 y13 y14) | .inr r => some r)
/-- loop.example/g00326/impl.BestVec -/
theorem impl_BestVec (n : Nat) (x0 : Int) (x1 : (List Pt)) (r : Vec × Int) (H : impl_BestVecF n x0 x1 = some r) : LCall Try.prog 175 [.val false [.lit (.int .i64 x0)], .val false [.sl false 8 (CV.frzEs (x1.map Pt.row))]] [.val true (Vec.row r.1), .val false [.lit (.int .i64 r.2)]] [] := by
  refine LCall.of_body tOk Try.func175 rfl (c := (.seq (.region 0 (rg Try.f175 0) false) (.seq (.region 1 (rg Try.f175 1) false) (.seq (.region 2 (rg Try.f175 2) false) (.seq (.seq (.region 3 (rg Try.f175 3) false) (.block 0 (.loop (.seq (.region 4 (rg Try.f175 4) false) (.seq (.cond (.tmp 19) .skip (.exit 0)) (.seq (.block 1 (.seq (.region 5 (rg Try.f175 5) false) (.seq (.seq (.region 6 (rg Try.f175 6) false) (.cond (.tmp 30) (.exit 1) .skip)) (.seq (.region 7 (rg Try.f175 7) false) (.seq (.region 8 (rg Try.f175 8) false) (.cond (.tmp 54) (.seq (.region 9 (rg Try.f175 9) false) (.region 10 (rg Try.f175 10) false)) .skip)))))) (.region 11 (rg Try.f175 11) false))))))) (.seq (.region 12 (rg Try.f175 12) false) .ret)))))) (by kernel_rfl) (Nat.le_of_ble_eq_true (by kernel_rfl)) 0 (rs := [.cell 4 70, .tmp 5]) rfl [] .nil [(true, (Vec.row r.1)), (false, [.lit (.int .i64 r.2)])] [] [] fun cx => ?_
  show Tr _ _ _ ⟨68, 0, [(0, .val false [.lit (.int .i64 x0)]), (1, .val false [.sl false 8 (CV.frzEs (x1.map Pt.row))])], []⟩ _
  unfold impl_BestVecF at H
  refine Tr.rs ?_
  refine LAt.runU tOk 2 (by kernel_rfl) ?_
  refine LAt.doneU [5, 4, 0, 1] [4] (by kernel_rfl) ?_
  refine Tr.rs ?_
  refine LAt.runU tOk 6 (by kernel_rfl) ?_
  refine LAt.doneU [7, 6, 5, 4, 0, 1] [6, 4] (by kernel_rfl) ?_
  refine Tr.rs ?_
  refine LAt.runU tOk 1 (by kernel_rfl) ?_
  refine LAt.doneU [8, 7, 6, 5, 4, 0, 1] [8, 6, 4] (by kernel_rfl) ?_
  refine Tr.seq ?_
  refine Tr.rs ?_
  refine LAt.runU tOk 1 (by kernel_rfl) ?_
  refine LAt.lenE tOk (t := 55) (ty := 3) (e := 114) (x := (.tmp 16)) (d := 17) (g := none) ⟨(.slot 16), [], 0, false, 8, (CV.frzEs (x1.map Pt.row))⟩ (x1).length _ (by kernel_rfl) (by kernel_rfl) (by kernel_rfl) (by kernel_rfl) (by kernel_rfl) (frz_len _ _) rfl ?_
  refine LAt.runU tOk 1 (by kernel_rfl) ?_
  refine LAt.doneU [18, 17, 16, 8, 7, 6, 5, 4, 0] [8, 6, 4] (by kernel_rfl) ?_
  obtain ⟨o15, eo15, Ho15⟩ := bind_some H
  clear H
  refine Tr.mid (ι := Int × Int × Int × Int) (fun v => ⟨68, 0, [(7, .val false [.lit (.int .i64 v.1)]), (6, .adr (.box 6) [(0, 0)] 5 0), (5, .val false [.lit (.int .i64 0)]), (4, .adr (.box 4) [(0, 0)] 5 0)], [(6, [.lit (.int .i64 v.2.1), .lit (.int .i64 v.2.2.1), .lit (.int .i64 v.2.2.2), .lit (.int .i64 x0), .lit (.int .i64 0)]), (4, [.lit (.int .i64 0), .lit (.int .i64 0), .lit (.int .i64 0), .lit (.int .i64 0), .lit (.int .i64 0)])]⟩) (fun v => impl_BestVec_J1 n x0 v.1 v.2.1 v.2.2.1 v.2.2.2 = some r) ?_ ?_
  · refine Tr.block ?_
    refine Tr.loop (ι := Nat × (Int × Int × Int × Int × Int × Int × Int × Int × Int × Int)) (fun v => ⟨68, 0, [(18, .val false [.lit (.int .i64 v.2.1)]), (17, .val false [.lit (.int .i64 (x1.length : Int))]), (16, .val false [.sl false 8 (CV.frzEs (x1.map Pt.row))]), (8, .adr (.box 8) [(0, 0)] 5 0), (7, .val false [.lit (.int .i64 v.2.2.1)]), (6, .adr (.box 6) [(0, 0)] 5 0), (5, .val false [.lit (.int .i64 0)]), (4, .adr (.box 4) [(0, 0)] 5 0), (0, .val false [.lit (.int .i64 x0)])], [(8, [.lit (.int .i64 v.2.2.2.1), .lit (.int .i64 v.2.2.2.2.1), .lit (.int .i64 v.2.2.2.2.2.1), .lit (.int .i64 v.2.2.2.2.2.2.1), .lit (.int .i64 v.2.2.2.2.2.2.2.1)]), (6, [.lit (.int .i64 v.2.2.2.2.2.2.2.2.1), .lit (.int .i64 v.2.2.2.2.2.2.2.2.2.1), .lit (.int .i64 v.2.2.2.2.2.2.2.2.2.2), .lit (.int .i64 x0), .lit (.int .i64 0)]), (4, [.lit (.int .i64 0), .lit (.int .i64 0), .lit (.int .i64 0), .lit (.int .i64 0), .lit (.int .i64 0)])]⟩) (fun v => impl_BestVec_L2 n v.1 x0 x1 v.2.1 v.2.2.1 v.2.2.2.1 v.2.2.2.2.1 v.2.2.2.2.2.1 v.2.2.2.2.2.2.1 v.2.2.2.2.2.2.2.1 v.2.2.2.2.2.2.2.2.1 v.2.2.2.2.2.2.2.2.2.1 v.2.2.2.2.2.2.2.2.2.2 = some o15) (fun v => v.1) (n, (0, (-1), 0, 0, 0, 0, 0, x0, 0, 0)) eo15 (St.sub_of [18, 17, 16, 8, 7, 6, 5, 4, 0] [8, 6, 4] (by kernel_rfl)) ?_
    rintro ⟨mo15, y1, y2, y3, y4, y5, y6, y7, y8, y9, y10⟩ H
    have H : impl_BestVec_L2 n mo15 x0 x1 y1 y2 y3 y4 y5 y6 y7 y8 y9 y10 = some o15 := H
    obtain _ | mo15 := mo15
    · cases (show (none : Option _) = some o15 from H)
    · rw [impl_BestVec_L2] at H
      refine Tr.rs ?_
      refine LAt.runU tOk 1 (by kernel_rfl) ?_
      refine LAt.doneU [19, 18, 17, 16, 8, 7, 6, 5, 4, 0] [8, 6, 4] (by kernel_rfl) ?_
      refine Tr.seq ?_
      refine Tr.to ⟨68, 0, [(19, .val false [.lit (.bool (decide (y1 < (x1.length : Int))))]), (18, .val false [.lit (.int .i64 y1)]), (17, .val false [.lit (.int .i64 (x1.length : Int))]), (16, .val false [.sl false 8 (CV.frzEs (x1.map Pt.row))]), (8, .adr (.box 8) [(0, 0)] 5 0), (7, .val false [.lit (.int .i64 y2)]), (6, .adr (.box 6) [(0, 0)] 5 0), (5, .val false [.lit (.int .i64 0)]), (4, .adr (.box 4) [(0, 0)] 5 0), (0, .val false [.lit (.int .i64 x0)])], [(8, [.lit (.int .i64 y3), .lit (.int .i64 y4), .lit (.int .i64 y5), .lit (.int .i64 y6), .lit (.int .i64 y7)]), (6, [.lit (.int .i64 y8), .lit (.int .i64 y9), .lit (.int .i64 y10), .lit (.int .i64 x0), .lit (.int .i64 0)]), (4, [.lit (.int .i64 0), .lit (.int .i64 0), .lit (.int .i64 0), .lit (.int .i64 0), .lit (.int .i64 0)])]⟩ (by kernel_rfl) ?_
      cases h1 : (decide (y1 < (x1.length : Int)))
      · have H := bifF h1 H
        refine Tr.cond (b := false) (by kernel_rfl) (fun h => nomatch h) (fun _ => ?_)
        refine Tr.exit ?_
        refine And.intro (fun _ => ?_) (fun h => absurd rfl h)
        have H := Option.some.inj H
        subst H
        have H := Ho15
        dsimp only at H
        exact Exists.intro (y2, y8, y9, y10) (And.intro H (St.sub_of [7, 6, 5, 4] [6, 4] (by kernel_rfl)))
      · have H := bifT h1 H
        refine Tr.cond (b := true) (by kernel_rfl) (fun _ => ?_) (fun h => nomatch h)
        refine Tr.skip ?_
        show Tr _ _ _ _ _
        refine Tr.seq ?_
        refine Tr.block ?_
        refine Tr.rs ?_
        refine LAt.runU tOk 1 (by kernel_rfl) ?_
        obtain ⟨v16, ev16, H⟩ := bind_some H
        refine LAt.indexF tOk (t := 55) (ty := 0) (x := (.tmp 16)) (y := (.tmp 18)) (d := 21) (g := none) ⟨(.slot 16), [], 0, false, 8, (CV.frzEs (x1.map Pt.row))⟩ y1 (Pt.row v16) _ (by kernel_rfl) (by kernel_rfl) (by kernel_rfl) (by kernel_rfl) rfl (idx_isF ev16) rfl ?_
        refine LAt.runU tOk 4 (by kernel_rfl) ?_
        refine LAt.doneU [9, 10, 22, 21, 20, 19, 18, 17, 16, 8, 7, 6, 5, 4, 0] [10, 8, 6, 4] (by kernel_rfl) ?_
        refine Tr.seq ?_
        refine Tr.rs ?_
        refine LAt.runU tOk 4 (by kernel_rfl) ?_
        refine LAt.to ⟨68, 0, [(26, .val false [.lit (.bool (!v16.Up))]), (25, .val false [.lit (.bool (!v16.Up))]), (24, .val false [.lit (.bool v16.Up)]), (23, .adr (.box 10) [(0, 0)] 8 0), (9, .val false [.lit (.int .i64 y1)]), (10, .adr (.box 10) [(0, 0)] 8 0), (22, .val true (Pt.row v16)), (21, .fad ((Pt.row v16))), (20, .val false [.lit (.int .i64 y1)]), (19, .val false [.lit (.bool true)]), (18, .val false [.lit (.int .i64 y1)]), (17, .val false [.lit (.int .i64 (x1.length : Int))]), (16, .val false [.sl false 8 (CV.frzEs (x1.map Pt.row))]), (8, .adr (.box 8) [(0, 0)] 5 0), (7, .val false [.lit (.int .i64 y2)]), (6, .adr (.box 6) [(0, 0)] 5 0), (5, .val false [.lit (.int .i64 0)]), (4, .adr (.box 4) [(0, 0)] 5 0), (0, .val false [.lit (.int .i64 x0)])], [(10, (Pt.row v16)), (8, [.lit (.int .i64 y3), .lit (.int .i64 y4), .lit (.int .i64 y5), .lit (.int .i64 y6), .lit (.int .i64 y7)]), (6, [.lit (.int .i64 y8), .lit (.int .i64 y9), .lit (.int .i64 y10), .lit (.int .i64 x0), .lit (.int .i64 0)]), (4, [.lit (.int .i64 0), .lit (.int .i64 0), .lit (.int .i64 0), .lit (.int .i64 0), .lit (.int .i64 0)])]⟩ (by kernel_rfl) ?_
        cases h2 : (!v16.Up)
        · have H := bifF h2 H
          refine LAt.runU tOk 4 (by kernel_rfl) ?_
          refine LAt.doneU [30, 29, 28, 27, 26, 25, 24, 23, 9, 10, 22, 21, 20, 19, 18, 17, 16, 8, 7, 6, 5, 4, 0] [10, 8, 6, 4] (by kernel_rfl) ?_
          refine Tr.to ⟨68, 0, [(30, .val false [.lit (.bool (!v16.Has))]), (29, .val false [.lit (.bool (!v16.Has))]), (28, .val false [.lit (.bool v16.Has)]), (27, .adr (.box 10) [(0, 0)] 8 2), (26, .val false [.lit (.bool false)]), (25, .val false [.lit (.bool false)]), (24, .val false [.lit (.bool v16.Up)]), (23, .adr (.box 10) [(0, 0)] 8 0), (9, .val false [.lit (.int .i64 y1)]), (10, .adr (.box 10) [(0, 0)] 8 0), (22, .val true (Pt.row v16)), (21, .fad ((Pt.row v16))), (20, .val false [.lit (.int .i64 y1)]), (19, .val false [.lit (.bool true)]), (18, .val false [.lit (.int .i64 y1)]), (17, .val false [.lit (.int .i64 (x1.length : Int))]), (16, .val false [.sl false 8 (CV.frzEs (x1.map Pt.row))]), (8, .adr (.box 8) [(0, 0)] 5 0), (7, .val false [.lit (.int .i64 y2)]), (6, .adr (.box 6) [(0, 0)] 5 0), (5, .val false [.lit (.int .i64 0)]), (4, .adr (.box 4) [(0, 0)] 5 0), (0, .val false [.lit (.int .i64 x0)])], [(10, (Pt.row v16)), (8, [.lit (.int .i64 y3), .lit (.int .i64 y4), .lit (.int .i64 y5), .lit (.int .i64 y6), .lit (.int .i64 y7)]), (6, [.lit (.int .i64 y8), .lit (.int .i64 y9), .lit (.int .i64 y10), .lit (.int .i64 x0), .lit (.int .i64 0)]), (4, [.lit (.int .i64 0), .lit (.int .i64 0), .lit (.int .i64 0), .lit (.int .i64 0), .lit (.int .i64 0)])]⟩ (by kernel_rfl) ?_
          cases h3 : (!v16.Has)
          · have H := bifF h3 H
            refine Tr.cond (b := false) (by kernel_rfl) (fun h => nomatch h) (fun _ => ?_)
            refine Tr.skip ?_
            show Tr _ _ _ _ _
            refine Tr.rs ?_
            refine LAt.runU tOk 4 (by kernel_rfl) ?_
            obtain ⟨r17, er17, H⟩ := bind_some H
            refine LAt.callU tOk [.rd, .rd] (f := 188) (av := #[.tmp 33, .tmp 35]) (ats := #[70, 3]) (d := (some 36)) (ty := 189) (g := none) (by kernel_rfl) (by kernel_rfl) (by kernel_rfl) [] (impl_StepVec n v16.Heard v16.Cost r17 er17) (by kernel_rfl) (.inl rfl) ?_
            refine LAt.movT tOk (ty := 189) (t := 36) (d := 31) (g := none) [(true, (Vec.row r17.1)), (false, [.lit (.bool r17.2)])] _ (by kernel_rfl) (.inl rfl) (by kernel_rfl) (by kernel_rfl) (by kernel_rfl) (by kernel_rfl) rfl ?_
            refine LAt.runU tOk 5 (by kernel_rfl) ?_
            refine LAt.doneU [12, 11, 38, 31, 37, 35, 34, 33, 32, 30, 29, 28, 27, 26, 25, 24, 23, 9, 10, 22, 21, 20, 19, 18, 17, 16, 8, 7, 6, 5, 4, 0] [11, 10, 8, 6, 4] (by kernel_rfl) ?_
            refine Tr.seq ?_
            refine Tr.mid (ι := Bool × Bool × Bool × Bool × Bool × Bool × Bool) (fun v => ⟨68, 0, [(54, .val false [.lit (.bool v.1)]), (46, .val false [.lit (.bool v.2.1)]), (45, .val false [.lit (.bool v.2.2.1)]), (40, .val false [.lit (.bool v.2.2.2.1)]), (39, .val false [.lit (.bool v.2.2.2.2.1)]), (12, .val false [.lit (.bool v.2.2.2.2.2.1)]), (11, .adr (.box 11) [(0, 0)] 5 0), (38, .val false [.lit (.bool v.2.2.2.2.2.2)]), (31, .tup [(true, [.dead, .dead, .dead, .dead, .dead]), (false, [.dead])]), (37, .val true (Vec.row r17.1)), (35, .val false [.lit (.int .i64 v16.Cost)]), (34, .adr (.box 10) [(0, 0)] 8 1), (33, .val true ((Pt.row v16).drop 3)), (32, .adr (.box 10) [(0, 0)] 8 3), (30, .val false [.lit (.bool false)]), (29, .val false [.lit (.bool false)]), (28, .val false [.lit (.bool v16.Has)]), (27, .adr (.box 10) [(0, 0)] 8 2), (26, .val false [.lit (.bool false)]), (25, .val false [.lit (.bool false)]), (24, .val false [.lit (.bool v16.Up)]), (23, .adr (.box 10) [(0, 0)] 8 0), (9, .val false [.lit (.int .i64 y1)]), (10, .adr (.box 10) [(0, 0)] 8 0), (22, .val true (Pt.row v16)), (21, .fad ((Pt.row v16))), (20, .val false [.lit (.int .i64 y1)]), (19, .val false [.lit (.bool true)]), (18, .val false [.lit (.int .i64 y1)]), (17, .val false [.lit (.int .i64 (x1.length : Int))]), (16, .val false [.sl false 8 (CV.frzEs (x1.map Pt.row))]), (8, .adr (.box 8) [(0, 0)] 5 0), (7, .val false [.lit (.int .i64 y2)]), (6, .adr (.box 6) [(0, 0)] 5 0), (5, .val false [.lit (.int .i64 0)]), (4, .adr (.box 4) [(0, 0)] 5 0), (0, .val false [.lit (.int .i64 x0)])], [(11, (Vec.row r17.1)), (10, (Pt.row v16)), (8, [.lit (.int .i64 y3), .lit (.int .i64 y4), .lit (.int .i64 y5), .lit (.int .i64 y6), .lit (.int .i64 y7)]), (6, [.lit (.int .i64 y8), .lit (.int .i64 y9), .lit (.int .i64 y10), .lit (.int .i64 x0), .lit (.int .i64 0)]), (4, [.lit (.int .i64 0), .lit (.int .i64 0), .lit (.int .i64 0), .lit (.int .i64 0), .lit (.int .i64 0)])]⟩) (fun v => impl_BestVec_J3 n (fun v => impl_BestVec_L2 n mo15 x0 x1 v.1 v.2.1 v.2.2.1 v.2.2.2.1 v.2.2.2.2.1 v.2.2.2.2.2.1 v.2.2.2.2.2.2.1 v.2.2.2.2.2.2.2.1 v.2.2.2.2.2.2.2.2.1 v.2.2.2.2.2.2.2.2.2) r17 y1 y10 y2 y3 y4 y5 y6 y7 y8 y9 v.1 v.2.1 v.2.2.1 v.2.2.2.1 v.2.2.2.2.1 v.2.2.2.2.2.1 v.2.2.2.2.2.2 = some o15) ?_ ?_
            · refine Tr.at ?_
              refine LAt.runU tOk 2 (by kernel_rfl) ?_
              refine LAt.to ⟨68, 0, [(40, .val false [.lit (.bool r17.2)]), (39, .val false [.lit (.bool r17.2)]), (12, .val false [.lit (.bool r17.2)]), (11, .adr (.box 11) [(0, 0)] 5 0), (38, .val false [.lit (.bool r17.2)]), (31, .tup [(true, [.dead, .dead, .dead, .dead, .dead]), (false, [.dead])]), (37, .val true (Vec.row r17.1)), (35, .val false [.lit (.int .i64 v16.Cost)]), (34, .adr (.box 10) [(0, 0)] 8 1), (33, .val true ((Pt.row v16).drop 3)), (32, .adr (.box 10) [(0, 0)] 8 3), (30, .val false [.lit (.bool false)]), (29, .val false [.lit (.bool false)]), (28, .val false [.lit (.bool v16.Has)]), (27, .adr (.box 10) [(0, 0)] 8 2), (26, .val false [.lit (.bool false)]), (25, .val false [.lit (.bool false)]), (24, .val false [.lit (.bool v16.Up)]), (23, .adr (.box 10) [(0, 0)] 8 0), (9, .val false [.lit (.int .i64 y1)]), (10, .adr (.box 10) [(0, 0)] 8 0), (22, .val true (Pt.row v16)), (21, .fad ((Pt.row v16))), (20, .val false [.lit (.int .i64 y1)]), (19, .val false [.lit (.bool true)]), (18, .val false [.lit (.int .i64 y1)]), (17, .val false [.lit (.int .i64 (x1.length : Int))]), (16, .val false [.sl false 8 (CV.frzEs (x1.map Pt.row))]), (8, .adr (.box 8) [(0, 0)] 5 0), (7, .val false [.lit (.int .i64 y2)]), (6, .adr (.box 6) [(0, 0)] 5 0), (5, .val false [.lit (.int .i64 0)]), (4, .adr (.box 4) [(0, 0)] 5 0), (0, .val false [.lit (.int .i64 x0)])], [(11, (Vec.row r17.1)), (10, (Pt.row v16)), (8, [.lit (.int .i64 y3), .lit (.int .i64 y4), .lit (.int .i64 y5), .lit (.int .i64 y6), .lit (.int .i64 y7)]), (6, [.lit (.int .i64 y8), .lit (.int .i64 y9), .lit (.int .i64 y10), .lit (.int .i64 x0), .lit (.int .i64 0)]), (4, [.lit (.int .i64 0), .lit (.int .i64 0), .lit (.int .i64 0), .lit (.int .i64 0), .lit (.int .i64 0)])]⟩ (by kernel_rfl) ?_
              cases h5 : r17.2
              · have H := bifF h5 H
                refine LAt.runU tOk 14 (by kernel_rfl) ?_
                refine LAt.doneU [54, 53, 52, 51, 50, 49, 48, 47, 46, 45, 44, 43, 42, 41, 40, 39, 12, 11, 38, 31, 37, 35, 34, 33, 32, 30, 29, 28, 27, 26, 25, 24, 23, 9, 10, 22, 21, 20, 19, 18, 17, 16, 8, 7, 6, 5, 4, 0] [11, 10, 8, 6, 4] (by kernel_rfl) ?_
                exact Exists.intro (false, false, false, false, false, false, false) (And.intro H (St.sub_of [54, 46, 45, 40, 39, 12, 11, 38, 31, 37, 35, 34, 33, 32, 30, 29, 28, 27, 26, 25, 24, 23, 9, 10, 22, 21, 20, 19, 18, 17, 16, 8, 7, 6, 5, 4, 0] [11, 10, 8, 6, 4] (by kernel_rfl)))
              · have H := bifT h5 H
                refine LAt.runU tOk 6 (by kernel_rfl) ?_
                refine LAt.to ⟨68, 0, [(46, .val false [.lit (.bool (decide (r17.1.Root < x0)))]), (45, .val false [.lit (.bool (decide (r17.1.Root < x0)))]), (44, .val false [.lit (.bool (decide (r17.1.Root < x0)))]), (43, .val false [.lit (.int .i64 x0)]), (42, .val false [.lit (.int .i64 r17.1.Root)]), (41, .adr (.box 11) [(0, 0)] 5 0), (40, .val false [.lit (.bool true)]), (39, .val false [.lit (.bool true)]), (12, .val false [.lit (.bool true)]), (11, .adr (.box 11) [(0, 0)] 5 0), (38, .val false [.lit (.bool true)]), (31, .tup [(true, [.dead, .dead, .dead, .dead, .dead]), (false, [.dead])]), (37, .val true (Vec.row r17.1)), (35, .val false [.lit (.int .i64 v16.Cost)]), (34, .adr (.box 10) [(0, 0)] 8 1), (33, .val true ((Pt.row v16).drop 3)), (32, .adr (.box 10) [(0, 0)] 8 3), (30, .val false [.lit (.bool false)]), (29, .val false [.lit (.bool false)]), (28, .val false [.lit (.bool v16.Has)]), (27, .adr (.box 10) [(0, 0)] 8 2), (26, .val false [.lit (.bool false)]), (25, .val false [.lit (.bool false)]), (24, .val false [.lit (.bool v16.Up)]), (23, .adr (.box 10) [(0, 0)] 8 0), (9, .val false [.lit (.int .i64 y1)]), (10, .adr (.box 10) [(0, 0)] 8 0), (22, .val true (Pt.row v16)), (21, .fad ((Pt.row v16))), (20, .val false [.lit (.int .i64 y1)]), (19, .val false [.lit (.bool true)]), (18, .val false [.lit (.int .i64 y1)]), (17, .val false [.lit (.int .i64 (x1.length : Int))]), (16, .val false [.sl false 8 (CV.frzEs (x1.map Pt.row))]), (8, .adr (.box 8) [(0, 0)] 5 0), (7, .val false [.lit (.int .i64 y2)]), (6, .adr (.box 6) [(0, 0)] 5 0), (5, .val false [.lit (.int .i64 0)]), (4, .adr (.box 4) [(0, 0)] 5 0), (0, .val false [.lit (.int .i64 x0)])], [(11, (Vec.row r17.1)), (10, (Pt.row v16)), (8, [.lit (.int .i64 y3), .lit (.int .i64 y4), .lit (.int .i64 y5), .lit (.int .i64 y6), .lit (.int .i64 y7)]), (6, [.lit (.int .i64 y8), .lit (.int .i64 y9), .lit (.int .i64 y10), .lit (.int .i64 x0), .lit (.int .i64 0)]), (4, [.lit (.int .i64 0), .lit (.int .i64 0), .lit (.int .i64 0), .lit (.int .i64 0), .lit (.int .i64 0)])]⟩ (by kernel_rfl) ?_
                cases h6 : (decide (r17.1.Root < x0))
                · have H := bifF h6 H
                  refine LAt.runU tOk 8 (by kernel_rfl) ?_
                  refine LAt.doneU [54, 53, 52, 51, 50, 49, 48, 47, 46, 45, 44, 43, 42, 41, 40, 39, 12, 11, 38, 31, 37, 35, 34, 33, 32, 30, 29, 28, 27, 26, 25, 24, 23, 9, 10, 22, 21, 20, 19, 18, 17, 16, 8, 7, 6, 5, 4, 0] [11, 10, 8, 6, 4] (by kernel_rfl) ?_
                  exact Exists.intro (false, false, false, true, true, true, true) (And.intro H (St.sub_of [54, 46, 45, 40, 39, 12, 11, 38, 31, 37, 35, 34, 33, 32, 30, 29, 28, 27, 26, 25, 24, 23, 9, 10, 22, 21, 20, 19, 18, 17, 16, 8, 7, 6, 5, 4, 0] [11, 10, 8, 6, 4] (by kernel_rfl)))
                · have H := bifT h6 H
                  refine LAt.runU tOk 3 (by kernel_rfl) ?_
                  refine LAt.to ⟨68, 0, [(49, .val false [.lit (.bool (decide (y2 < 0)))]), (48, .val false [.lit (.bool (decide (y2 < 0)))]), (47, .val false [.lit (.int .i64 y2)]), (46, .val false [.lit (.bool true)]), (45, .val false [.lit (.bool true)]), (44, .val false [.lit (.bool true)]), (43, .val false [.lit (.int .i64 x0)]), (42, .val false [.lit (.int .i64 r17.1.Root)]), (41, .adr (.box 11) [(0, 0)] 5 0), (40, .val false [.lit (.bool true)]), (39, .val false [.lit (.bool true)]), (12, .val false [.lit (.bool true)]), (11, .adr (.box 11) [(0, 0)] 5 0), (38, .val false [.lit (.bool true)]), (31, .tup [(true, [.dead, .dead, .dead, .dead, .dead]), (false, [.dead])]), (37, .val true (Vec.row r17.1)), (35, .val false [.lit (.int .i64 v16.Cost)]), (34, .adr (.box 10) [(0, 0)] 8 1), (33, .val true ((Pt.row v16).drop 3)), (32, .adr (.box 10) [(0, 0)] 8 3), (30, .val false [.lit (.bool false)]), (29, .val false [.lit (.bool false)]), (28, .val false [.lit (.bool v16.Has)]), (27, .adr (.box 10) [(0, 0)] 8 2), (26, .val false [.lit (.bool false)]), (25, .val false [.lit (.bool false)]), (24, .val false [.lit (.bool v16.Up)]), (23, .adr (.box 10) [(0, 0)] 8 0), (9, .val false [.lit (.int .i64 y1)]), (10, .adr (.box 10) [(0, 0)] 8 0), (22, .val true (Pt.row v16)), (21, .fad ((Pt.row v16))), (20, .val false [.lit (.int .i64 y1)]), (19, .val false [.lit (.bool true)]), (18, .val false [.lit (.int .i64 y1)]), (17, .val false [.lit (.int .i64 (x1.length : Int))]), (16, .val false [.sl false 8 (CV.frzEs (x1.map Pt.row))]), (8, .adr (.box 8) [(0, 0)] 5 0), (7, .val false [.lit (.int .i64 y2)]), (6, .adr (.box 6) [(0, 0)] 5 0), (5, .val false [.lit (.int .i64 0)]), (4, .adr (.box 4) [(0, 0)] 5 0), (0, .val false [.lit (.int .i64 x0)])], [(11, (Vec.row r17.1)), (10, (Pt.row v16)), (8, [.lit (.int .i64 y3), .lit (.int .i64 y4), .lit (.int .i64 y5), .lit (.int .i64 y6), .lit (.int .i64 y7)]), (6, [.lit (.int .i64 y8), .lit (.int .i64 y9), .lit (.int .i64 y10), .lit (.int .i64 x0), .lit (.int .i64 0)]), (4, [.lit (.int .i64 0), .lit (.int .i64 0), .lit (.int .i64 0), .lit (.int .i64 0), .lit (.int .i64 0)])]⟩ (by kernel_rfl) ?_
                  cases h7 : (decide (y2 < 0))
                  · have H := bifF h7 H
                    refine LAt.runU tOk 2 (by kernel_rfl) ?_
                    obtain ⟨r25, er25, H⟩ := bind_some H
                    refine LAt.callU tOk [.rd, .rd] (f := 187) (av := #[.tmp 50, .tmp 51]) (ats := #[70, 70]) (d := (some 52)) (ty := 4) (g := (some (10, false))) (by kernel_rfl) (by kernel_rfl) (by kernel_rfl) [] (impl_LessVec n r17.1 (⟨y3, y4, y5, y6, y7⟩ : Vec) r25 er25) (by kernel_rfl) (.inl rfl) ?_
                    refine LAt.runU tOk 2 (by kernel_rfl) ?_
                    refine LAt.doneU [54, 53, 52, 51, 50, 49, 48, 47, 46, 45, 44, 43, 42, 41, 40, 39, 12, 11, 38, 31, 37, 35, 34, 33, 32, 30, 29, 28, 27, 26, 25, 24, 23, 9, 10, 22, 21, 20, 19, 18, 17, 16, 8, 7, 6, 5, 4, 0] [11, 10, 8, 6, 4] (by kernel_rfl) ?_
                    exact Exists.intro (r25, true, true, true, true, true, true) (And.intro H (St.sub_of [54, 46, 45, 40, 39, 12, 11, 38, 31, 37, 35, 34, 33, 32, 30, 29, 28, 27, 26, 25, 24, 23, 9, 10, 22, 21, 20, 19, 18, 17, 16, 8, 7, 6, 5, 4, 0] [11, 10, 8, 6, 4] (by kernel_rfl)))
                  · have H := bifT h7 H
                    refine LAt.runU tOk 5 (by kernel_rfl) ?_
                    refine LAt.doneU [54, 53, 52, 51, 50, 49, 48, 47, 46, 45, 44, 43, 42, 41, 40, 39, 12, 11, 38, 31, 37, 35, 34, 33, 32, 30, 29, 28, 27, 26, 25, 24, 23, 9, 10, 22, 21, 20, 19, 18, 17, 16, 8, 7, 6, 5, 4, 0] [11, 10, 8, 6, 4] (by kernel_rfl) ?_
                    exact Exists.intro (true, true, true, true, true, true, true) (And.intro H (St.sub_of [54, 46, 45, 40, 39, 12, 11, 38, 31, 37, 35, 34, 33, 32, 30, 29, 28, 27, 26, 25, 24, 23, 9, 10, 22, 21, 20, 19, 18, 17, 16, 8, 7, 6, 5, 4, 0] [11, 10, 8, 6, 4] (by kernel_rfl)))
            · rintro ⟨y18, y19, y20, y21, y22, y23, y24⟩ H
              have H : (impl_BestVec_J3 n (fun v => impl_BestVec_L2 n mo15 x0 x1 v.1 v.2.1 v.2.2.1 v.2.2.2.1 v.2.2.2.2.1 v.2.2.2.2.2.1 v.2.2.2.2.2.2.1 v.2.2.2.2.2.2.2.1 v.2.2.2.2.2.2.2.2.1 v.2.2.2.2.2.2.2.2.2) r17 y1 y10 y2 y3 y4 y5 y6 y7 y8 y9 y18 y19 y20 y21 y22 y23 y24) = some o15 := H
              unfold impl_BestVec_J3 at H
              show Tr _ _ _ _ _
              refine Tr.to ⟨68, 0, [(54, .val false [.lit (.bool y18)]), (46, .val false [.lit (.bool y19)]), (45, .val false [.lit (.bool y20)]), (40, .val false [.lit (.bool y21)]), (39, .val false [.lit (.bool y22)]), (12, .val false [.lit (.bool y23)]), (11, .adr (.box 11) [(0, 0)] 5 0), (38, .val false [.lit (.bool y24)]), (31, .tup [(true, [.dead, .dead, .dead, .dead, .dead]), (false, [.dead])]), (37, .val true (Vec.row r17.1)), (35, .val false [.lit (.int .i64 v16.Cost)]), (34, .adr (.box 10) [(0, 0)] 8 1), (33, .val true ((Pt.row v16).drop 3)), (32, .adr (.box 10) [(0, 0)] 8 3), (30, .val false [.lit (.bool false)]), (29, .val false [.lit (.bool false)]), (28, .val false [.lit (.bool v16.Has)]), (27, .adr (.box 10) [(0, 0)] 8 2), (26, .val false [.lit (.bool false)]), (25, .val false [.lit (.bool false)]), (24, .val false [.lit (.bool v16.Up)]), (23, .adr (.box 10) [(0, 0)] 8 0), (9, .val false [.lit (.int .i64 y1)]), (10, .adr (.box 10) [(0, 0)] 8 0), (22, .val true (Pt.row v16)), (21, .fad ((Pt.row v16))), (20, .val false [.lit (.int .i64 y1)]), (19, .val false [.lit (.bool true)]), (18, .val false [.lit (.int .i64 y1)]), (17, .val false [.lit (.int .i64 (x1.length : Int))]), (16, .val false [.sl false 8 (CV.frzEs (x1.map Pt.row))]), (8, .adr (.box 8) [(0, 0)] 5 0), (7, .val false [.lit (.int .i64 y2)]), (6, .adr (.box 6) [(0, 0)] 5 0), (5, .val false [.lit (.int .i64 0)]), (4, .adr (.box 4) [(0, 0)] 5 0), (0, .val false [.lit (.int .i64 x0)])], [(11, (Vec.row r17.1)), (10, (Pt.row v16)), (8, [.lit (.int .i64 y3), .lit (.int .i64 y4), .lit (.int .i64 y5), .lit (.int .i64 y6), .lit (.int .i64 y7)]), (6, [.lit (.int .i64 y8), .lit (.int .i64 y9), .lit (.int .i64 y10), .lit (.int .i64 x0), .lit (.int .i64 0)]), (4, [.lit (.int .i64 0), .lit (.int .i64 0), .lit (.int .i64 0), .lit (.int .i64 0), .lit (.int .i64 0)])]⟩ (by kernel_rfl) ?_
              cases h4 : y18
              · have H := bifF h4 H
                refine Tr.cond (b := false) (by kernel_rfl) (fun h => nomatch h) (fun _ => ?_)
                refine Tr.skip ?_
                show Tr _ _ _ _ _
                refine Tr.at ?_
                refine LAt.runU tOk 2 (by kernel_rfl) ?_
                refine LAt.doneU [18, 65, 54, 46, 45, 40, 39, 12, 11, 38, 31, 37, 35, 34, 33, 32, 30, 29, 28, 27, 26, 25, 24, 23, 9, 10, 22, 21, 20, 19, 17, 16, 8, 7, 6, 5, 4, 0] [11, 10, 8, 6, 4] (by kernel_rfl) ?_
                exact Exists.intro (mo15, ((IntKind.wrap .i64 (y1 + 1)), y2, y3, y4, y5, y6, y7, y8, y9, y10)) (And.intro H (And.intro (Nat.lt_succ_self mo15) (St.sub_of [18, 17, 16, 8, 7, 6, 5, 4, 0] [8, 6, 4] (by kernel_rfl))))
              · have H := bifT h4 H
                refine Tr.cond (b := true) (by kernel_rfl) (fun _ => ?_) (fun h => nomatch h)
                refine Tr.rs ?_
                refine LAt.runU tOk 4 (by kernel_rfl) ?_
                refine LAt.doneU [7, 56, 55, 54, 46, 45, 40, 39, 12, 11, 38, 31, 37, 35, 34, 33, 32, 30, 29, 28, 27, 26, 25, 24, 23, 9, 10, 22, 21, 20, 19, 18, 17, 16, 8, 6, 5, 4, 0] [8, 11, 10, 6, 4] (by kernel_rfl) ?_
                refine Tr.at ?_
                refine LAt.runU tOk 9 (by kernel_rfl) ?_
                refine LAt.doneU [64, 63, 62, 61, 60, 59, 58, 57, 7, 56, 55, 54, 46, 45, 40, 39, 12, 11, 38, 31, 37, 35, 34, 33, 32, 30, 29, 28, 27, 26, 25, 24, 23, 9, 10, 22, 21, 20, 19, 18, 17, 16, 8, 6, 5, 4, 0] [6, 8, 11, 10, 4] (by kernel_rfl) ?_
                show Tr _ _ _ _ _
                refine Tr.at ?_
                refine LAt.runU tOk 2 (by kernel_rfl) ?_
                refine LAt.doneU [18, 65, 64, 63, 62, 61, 60, 59, 58, 57, 7, 56, 55, 54, 46, 45, 40, 39, 12, 11, 38, 31, 37, 35, 34, 33, 32, 30, 29, 28, 27, 26, 25, 24, 23, 9, 10, 22, 21, 20, 19, 17, 16, 8, 6, 5, 4, 0] [6, 8, 11, 10, 4] (by kernel_rfl) ?_
                exact Exists.intro (mo15, ((IntKind.wrap .i64 (y1 + 1)), y1, r17.1.Root, r17.1.Cost, r17.1.Hops, r17.1.Bridge, r17.1.Port, r17.1.Root, r17.1.Cost, r17.1.Hops)) (And.intro H (And.intro (Nat.lt_succ_self mo15) (St.sub_of [18, 17, 16, 8, 7, 6, 5, 4, 0] [8, 6, 4] (by kernel_rfl))))
          · have H := bifT h3 H
            refine Tr.cond (b := true) (by kernel_rfl) (fun _ => ?_) (fun h => nomatch h)
            refine Tr.exit ?_
            refine And.intro (fun _ => ?_) (fun h => absurd rfl h)
            show Tr _ _ _ _ _
            refine Tr.at ?_
            refine LAt.runU tOk 2 (by kernel_rfl) ?_
            refine LAt.doneU [18, 65, 30, 29, 28, 27, 26, 25, 24, 23, 9, 10, 22, 21, 20, 19, 17, 16, 8, 7, 6, 5, 4, 0] [10, 8, 6, 4] (by kernel_rfl) ?_
            exact Exists.intro (mo15, ((IntKind.wrap .i64 (y1 + 1)), y2, y3, y4, y5, y6, y7, y8, y9, y10)) (And.intro H (And.intro (Nat.lt_succ_self mo15) (St.sub_of [18, 17, 16, 8, 7, 6, 5, 4, 0] [8, 6, 4] (by kernel_rfl))))
        · have H := bifT h2 H
          refine LAt.runU tOk 4 (by kernel_rfl) ?_
          refine LAt.doneU [30, 29, 28, 27, 26, 25, 24, 23, 9, 10, 22, 21, 20, 19, 18, 17, 16, 8, 7, 6, 5, 4, 0] [10, 8, 6, 4] (by kernel_rfl) ?_
          refine Tr.cond (b := true) (by kernel_rfl) (fun _ => ?_) (fun h => nomatch h)
          refine Tr.exit ?_
          refine And.intro (fun _ => ?_) (fun h => absurd rfl h)
          show Tr _ _ _ _ _
          refine Tr.at ?_
          refine LAt.runU tOk 2 (by kernel_rfl) ?_
          refine LAt.doneU [18, 65, 30, 29, 28, 27, 26, 25, 24, 23, 9, 10, 22, 21, 20, 19, 17, 16, 8, 7, 6, 5, 4, 0] [10, 8, 6, 4] (by kernel_rfl) ?_
          exact Exists.intro (mo15, ((IntKind.wrap .i64 (y1 + 1)), y2, y3, y4, y5, y6, y7, y8, y9, y10)) (And.intro H (And.intro (Nat.lt_succ_self mo15) (St.sub_of [18, 17, 16, 8, 7, 6, 5, 4, 0] [8, 6, 4] (by kernel_rfl))))
  · rintro ⟨y11, y12, y13, y14⟩ H
    have H : (impl_BestVec_J1 n x0 y11 y12 y13 y14) = some r := H
    unfold impl_BestVec_J1 at H
    show Tr _ _ _ _ _
    refine Tr.rs ?_
    refine LAt.runU tOk 4 (by kernel_rfl) ?_
    refine LAt.doneU [5, 4] [4] (by kernel_rfl) ?_
    refine Tr.ret ?_
    have H := Option.some.inj H
    subst H
    exact Fin.of _ [(true, [.lit (.int .i64 y12), .lit (.int .i64 y13), .lit (.int .i64 y14), .lit (.int .i64 x0), .lit (.int .i64 0)]), (false, [.lit (.int .i64 y11)])] (by kernel_rfl) rfl rfl

def impl_SayVecF (n : Nat) (x0 : Int) (x1 : (List Pt)) (x2 : Int) : Option (Vec) :=
  ((impl_BestVecF n x0 x1).bind fun r1 => (some (⟨r1.1.Root, r1.1.Cost, r1.1.Hops, r1.1.Bridge, x2⟩ : Vec)))
/-- loop.example/g00326/impl.SayVec -/
theorem impl_SayVec (n : Nat) (x0 : Int) (x1 : (List Pt)) (x2 : Int) (r : Vec) (H : impl_SayVecF n x0 x1 x2 = some r) : LCall Try.prog 139 [.val false [.lit (.int .i64 x0)], .val false [.sl false 8 (CV.frzEs (x1.map Pt.row))], .val false [.lit (.int .i64 x2)]] [.val true (Vec.row r)] [] := by
  refine LCall.of_body tOk Try.func139 rfl (c := (.seq (.region 0 (rg Try.f139 0) false) (.seq (.region 1 (rg Try.f139 1) false) (.seq (.region 2 (rg Try.f139 2) false) (.seq (.region 3 (rg Try.f139 3) false) .ret))))) (by kernel_rfl) (Nat.le_of_ble_eq_true (by kernel_rfl)) 0 (rs := [.cell 6 70]) rfl [] .nil [(true, (Vec.row r))] [] [] fun cx => ?_
  show Tr _ _ _ ⟨18, 0, [(0, .val false [.lit (.int .i64 x0)]), (1, .val false [.sl false 8 (CV.frzEs (x1.map Pt.row))]), (2, .val false [.lit (.int .i64 x2)])], []⟩ _
  unfold impl_SayVecF at H
  refine Tr.rs ?_
  refine LAt.runU tOk 1 (by kernel_rfl) ?_
  refine LAt.doneU [6, 0, 1, 2] [6] (by kernel_rfl) ?_
  refine Tr.rs ?_
  refine LAt.runU tOk 2 (by kernel_rfl) ?_
  obtain ⟨r1, er1, H⟩ := bind_some H
  refine LAt.callU tOk [.rd, .rd] (f := 175) (av := #[.tmp 10, .tmp 11]) (ats := #[3, 55]) (d := (some 12)) (ty := 181) (g := none) (by kernel_rfl) (by kernel_rfl) (by kernel_rfl) [] (impl_BestVec n x0 x1 r1 er1) (by kernel_rfl) (.inl rfl) ?_
  refine LAt.movT tOk (ty := 181) (t := 12) (d := 9) (g := none) [(true, (Vec.row r1.1)), (false, [.lit (.int .i64 r1.2)])] _ (by kernel_rfl) (.inl rfl) (by kernel_rfl) (by kernel_rfl) (by kernel_rfl) (by kernel_rfl) rfl ?_
  refine LAt.runU tOk 5 (by kernel_rfl) ?_
  refine LAt.doneU [7, 6, 2] [7, 6] (by kernel_rfl) ?_
  refine Tr.rs ?_
  refine LAt.runU tOk 3 (by kernel_rfl) ?_
  refine LAt.doneU [7, 6] [7, 6] (by kernel_rfl) ?_
  refine Tr.rs ?_
  refine LAt.runU tOk 2 (by kernel_rfl) ?_
  refine LAt.doneU [6] [6] (by kernel_rfl) ?_
  refine Tr.ret ?_
  have H := Option.some.inj H
  subst H
  exact Fin.of _ [(true, [.lit (.int .i64 r1.1.Root), .lit (.int .i64 r1.1.Cost), .lit (.int .i64 r1.1.Hops), .lit (.int .i64 r1.1.Bridge), .lit (.int .i64 x2)])] (by kernel_rfl) rfl rfl

def impl_RoleOfF (n : Nat) (x0 : Int) (x1 : (List Pt)) (x2 : Int) : Option (Int) :=
  ((impl_inF n x2 0 (IntKind.wrap .i64 ((x1.length : Int) - 1))).bind fun r1 => (bif (!r1) then (some 4) else ((idx x1 x2).bind fun v2 => (bif (!v2.Up) then (some 4) else ((impl_BestVecF n x0 x1).bind fun r3 => (bif (r3.2 == x2) then (some 1) else ((idx x1 x2).bind fun v4 => (bif (!v4.Has) then (some 2) else ((impl_SayVecF n x0 x1 x2).bind fun r5 => ((idx x1 x2).bind fun v6 => ((impl_LessVecF n r5 v6.Heard).bind fun r7 => (bif r7 then (some 2) else (some 3)))))))))))))
/-- loop.example/g00326/impl.RoleOf -/
theorem impl_RoleOf (n : Nat) (x0 : Int) (x1 : (List Pt)) (x2 : Int) (r : Int) (H : impl_RoleOfF n x0 x1 x2 = some r) : LCall Try.prog 172 [.val false [.lit (.int .i64 x0)], .val false [.sl false 8 (CV.frzEs (x1.map Pt.row))], .val false [.lit (.int .i64 x2)]] [.val false [.lit (.int .i64 r)]] [] := by
  refine LCall.of_body tOk Try.func172 rfl (c := (.seq (.region 0 (rg Try.f172 0) false) (.seq (.seq (.region 1 (rg Try.f172 1) false) (.cond (.tmp 22) (.seq (.region 2 (rg Try.f172 2) false) .ret) .skip)) (.seq (.region 3 (rg Try.f172 3) false) (.seq (.block 0 (.seq (.region 4 (rg Try.f172 4) false) (.cond (.tmp 29) (.seq (.region 5 (rg Try.f172 5) false) .ret) (.seq (.region 6 (rg Try.f172 6) true) (.cond (.tmp 33) (.seq (.region 7 (rg Try.f172 7) false) .ret) .skip))))) (.seq (.region 8 (rg Try.f172 8) false) .ret)))))) (by kernel_rfl) (Nat.le_of_ble_eq_true (by kernel_rfl)) 0 (rs := [.tmp 6]) rfl [] .nil [(false, [.lit (.int .i64 r)])] [] [] fun cx => ?_
  show Tr _ _ _ ⟨52, 0, [(0, .val false [.lit (.int .i64 x0)]), (1, .val false [.sl false 8 (CV.frzEs (x1.map Pt.row))]), (2, .val false [.lit (.int .i64 x2)])], []⟩ _
  unfold impl_RoleOfF at H
  refine Tr.rs ?_
  refine LAt.runU tOk 1 (by kernel_rfl) ?_
  refine LAt.doneU [6, 0, 1, 2] [] (by kernel_rfl) ?_
  refine Tr.seq ?_
  refine Tr.rs ?_
  refine LAt.runU tOk 2 (by kernel_rfl) ?_
  refine LAt.lenE tOk (t := 55) (ty := 3) (e := 114) (x := (.tmp 10)) (d := 11) (g := none) ⟨(.slot 10), [], 0, false, 8, (CV.frzEs (x1.map Pt.row))⟩ (x1).length _ (by kernel_rfl) (by kernel_rfl) (by kernel_rfl) (by kernel_rfl) (by kernel_rfl) (frz_len _ _) rfl ?_
  refine LAt.runU tOk 1 (by kernel_rfl) ?_
  obtain ⟨r1, er1, H⟩ := bind_some H
  refine LAt.callU tOk [.rd, .rd, .rd] (f := 70) (av := #[.tmp 9, .const (.int .i64 0), .tmp 12]) (ats := #[3, 3, 3]) (d := (some 13)) (ty := 4) (g := none) (by kernel_rfl) (by kernel_rfl) (by kernel_rfl) [] (impl_in n x2 0 (IntKind.wrap .i64 ((x1.length : Int) - 1)) r1 er1) (by kernel_rfl) (.inl rfl) ?_
  refine LAt.runU tOk 2 (by kernel_rfl) ?_
  refine LAt.to ⟨52, 0, [(15, .val false [.lit (.bool (!r1))]), (14, .val false [.lit (.bool (!r1))]), (13, .val false [.lit (.bool r1)]), (12, .val false [.lit (.int .i64 (IntKind.wrap .i64 ((x1.length : Int) - 1)))]), (11, .val false [.lit (.int .i64 (x1.length : Int))]), (10, .val false [.sl false 8 (CV.frzEs (x1.map Pt.row))]), (9, .val false [.lit (.int .i64 x2)]), (6, .val false [.lit (.int .i64 0)]), (0, .val false [.lit (.int .i64 x0)]), (1, .val false [.sl false 8 (CV.frzEs (x1.map Pt.row))]), (2, .val false [.lit (.int .i64 x2)])], []⟩ (by kernel_rfl) ?_
  cases h1 : (!r1)
  · have H := bifF h1 H
    refine LAt.runU tOk 2 (by kernel_rfl) ?_
    obtain ⟨v2, ev2, H⟩ := bind_some H
    refine LAt.indexF tOk (t := 55) (ty := 0) (x := (.tmp 16)) (y := (.tmp 17)) (d := 18) (g := (some (6, false))) ⟨(.slot 16), [], 0, false, 8, (CV.frzEs (x1.map Pt.row))⟩ x2 (Pt.row v2) _ (by kernel_rfl) (by kernel_rfl) (by kernel_rfl) (by kernel_rfl) rfl (idx_isF ev2) rfl ?_
    refine LAt.runU tOk 4 (by kernel_rfl) ?_
    refine LAt.doneU [22, 6, 0, 1, 2] [] (by kernel_rfl) ?_
    refine Tr.to ⟨52, 0, [(22, .val false [.lit (.bool (!v2.Up))]), (6, .val false [.lit (.int .i64 0)]), (0, .val false [.lit (.int .i64 x0)]), (1, .val false [.sl false 8 (CV.frzEs (x1.map Pt.row))]), (2, .val false [.lit (.int .i64 x2)])], []⟩ (by kernel_rfl) ?_
    cases h2 : (!v2.Up)
    · have H := bifF h2 H
      refine Tr.cond (b := false) (by kernel_rfl) (fun h => nomatch h) (fun _ => ?_)
      refine Tr.skip ?_
      show Tr _ _ _ _ _
      refine Tr.rs ?_
      refine LAt.runU tOk 2 (by kernel_rfl) ?_
      obtain ⟨r3, er3, H⟩ := bind_some H
      refine LAt.callU tOk [.rd, .rd] (f := 175) (av := #[.tmp 24, .tmp 25]) (ats := #[3, 55]) (d := (some 26)) (ty := 181) (g := none) (by kernel_rfl) (by kernel_rfl) (by kernel_rfl) [] (impl_BestVec n x0 x1 r3 er3) (by kernel_rfl) (.inl rfl) ?_
      refine LAt.movT tOk (ty := 181) (t := 26) (d := 23) (g := none) [(true, (Vec.row r3.1)), (false, [.lit (.int .i64 r3.2)])] _ (by kernel_rfl) (.inl rfl) (by kernel_rfl) (by kernel_rfl) (by kernel_rfl) (by kernel_rfl) rfl ?_
      refine LAt.runU tOk 5 (by kernel_rfl) ?_
      refine LAt.doneU [8, 6, 0, 1, 2] [] (by kernel_rfl) ?_
      refine Tr.seq ?_
      refine Tr.block ?_
      refine Tr.rs ?_
      refine LAt.runU tOk 4 (by kernel_rfl) ?_
      refine LAt.doneU [29, 6, 0, 1, 2] [] (by kernel_rfl) ?_
      refine Tr.to ⟨52, 0, [(29, .val false [.lit (.bool (r3.2 == x2))]), (6, .val false [.lit (.int .i64 0)]), (0, .val false [.lit (.int .i64 x0)]), (1, .val false [.sl false 8 (CV.frzEs (x1.map Pt.row))]), (2, .val false [.lit (.int .i64 x2)])], []⟩ (by kernel_rfl) ?_
      cases h3 : (r3.2 == x2)
      · have H := bifF h3 H
        refine Tr.cond (b := false) (by kernel_rfl) (fun h => nomatch h) (fun _ => ?_)
        obtain ⟨v4, ev4, H⟩ := bind_some H
        refine Tr.to ⟨52, 0, [(29, .val false [.lit (.bool false)]), (6, .val false [.lit (.int .i64 0)]), (0, .val false [.lit (.int .i64 x0)]), (1, .val false [.sl false 8 (CV.frzEs (x1.map Pt.row))]), (2, .val false [.lit (.int .i64 x2)])], []⟩ (by kernel_rfl) ?_
        cases h4 : (!v4.Has)
        · have H := bifF h4 H
          obtain ⟨r5, er5, H⟩ := bind_some H
          obtain ⟨v6, ev6, H⟩ := bind_some H
          obtain ⟨r7, er7, H⟩ := bind_some H
          refine Tr.draws mixed 19 (by kernel_rfl) ⟨52, 0, [(33, .val false [.lit (.bool r7)]), (6, .val false [.lit (.int .i64 0)])], []⟩ (fun cx => ?_) ?_
          · refine AT.runU tOk [(0, []), (1, [])] 17 [] [1, 0] rfl (by kernel_rfl) (fun cx => ?_)
            refine AT.indexF tOk 2 (t := 55) (ty := 0) (x := (.tmp 34)) (y := (.tmp 35)) (d := 36) (g := none) ⟨(.slot 34), [], 0, false, 8, (CV.frzEs (x1.map Pt.row))⟩ x2 (Pt.row v4) _ (by kernel_rfl) (by kernel_rfl) (by kernel_rfl) (by kernel_rfl) (by kernel_rfl) (by kernel_rfl) rfl (idx_isF ev4) rfl (fun cx => ?_)
            refine AT.runU tOk [(3, []), (4, []), (5, []), (6, [])] 12 [] [6, 5, 4, 3, 2, 1, 0] rfl (by kernel_rfl) (fun cx => ?_)
            refine AT.to ⟨52, 0, [(40, .val false [.lit (.bool (!v4.Has))]), (39, .val false [.lit (.bool (!v4.Has))]), (38, .val false [.lit (.bool v4.Has)]), (37, .fad (((Pt.row v4).drop 2))), (36, .fad ((Pt.row v4))), (35, .val false [.lit (.int .i64 x2)]), (34, .val false [.sl false 8 (CV.frzEs (x1.map Pt.row))]), (29, .val false [.lit (.bool false)]), (6, .val false [.lit (.int .i64 0)]), (0, .val false [.lit (.int .i64 x0)]), (1, .val false [.sl false 8 (CV.frzEs (x1.map Pt.row))]), (2, .val false [.lit (.int .i64 x2)])], []⟩ (by kernel_rfl) ?_
            rw [h4]
            refine AT.runU tOk [(7, []), (8, []), (9, []), (11, []), (12, [])] 7 [] [12, 11, 9, 8, 7, 6, 5, 4, 3, 2, 1, 0] rfl (by kernel_rfl) (fun cx => ?_)
            refine AT.indexF tOk 13 (t := 55) (ty := 0) (x := (.tmp 45)) (y := (.tmp 46)) (d := 47) (g := (some (6, false))) ⟨(.slot 45), [], 0, false, 8, (CV.frzEs (x1.map Pt.row))⟩ x2 (Pt.row v6) _ (by kernel_rfl) (by kernel_rfl) (by kernel_rfl) (by kernel_rfl) (by kernel_rfl) (by kernel_rfl) rfl (idx_isF ev6) rfl (fun cx => ?_)
            refine AT.runU tOk [(14, []), (15, [])] 4 [] [15, 14, 13, 12, 11, 9, 8, 7, 6, 5, 4, 3, 2, 1, 0] rfl (by kernel_rfl) (fun cx => ?_)
            refine AT.big1 tOk 10 (by kernel_rfl) (by kernel_rfl) ?_
            refine LAt.callU tOk [.rd, .rd, .rd] (f := 139) (av := #[.tmp 41, .tmp 42, .tmp 43]) (ats := #[3, 55, 3]) (d := (some 44)) (ty := 70) (g := (some (6, false))) (by kernel_rfl) (by kernel_rfl) (by kernel_rfl) [] (impl_SayVec n x0 x1 x2 r5 er5) (by kernel_rfl) (.inl rfl) ?_
            refine LAt.fin (by kernel_rfl) (And.intro (And.intro (by kernel_rfl) (by kernel_rfl)) ?_)
            refine AT.big1 tOk 16 (by kernel_rfl) (by kernel_rfl) ?_
            refine LAt.callU tOk [.rd, .rd] (f := 187) (av := #[.tmp 44, .tmp 49]) (ats := #[70, 70]) (d := (some 50)) (ty := 4) (g := (some (6, false))) (by kernel_rfl) (by kernel_rfl) (by kernel_rfl) [] (impl_LessVec n r5 v6.Heard r7 er7) (by kernel_rfl) (.inl rfl) ?_
            refine LAt.fin (by kernel_rfl) (And.intro (And.intro (by kernel_rfl) (by kernel_rfl)) ?_)
            refine AT.runU tOk [(17, []), (18, [])] 0 [] [18, 17, 16, 10, 15, 14, 13, 12, 11, 9, 8, 7, 6, 5, 4, 3, 2, 1, 0] rfl (by kernel_rfl) (fun cx => ?_)
            exact AT.done [33, 6] [] _ (by kernel_rfl) (by kernel_rfl) rfl
          · refine Tr.to ⟨52, 0, [(33, .val false [.lit (.bool r7)]), (6, .val false [.lit (.int .i64 0)])], []⟩ (by kernel_rfl) ?_
            cases h5 : r7
            · have H := bifF h5 H
              refine Tr.cond (b := false) (by kernel_rfl) (fun h => nomatch h) (fun _ => ?_)
              refine Tr.skip ?_
              show Tr _ _ _ _ _
              refine Tr.rs ?_
              refine LAt.runU tOk 1 (by kernel_rfl) ?_
              refine LAt.doneU [6] [] (by kernel_rfl) ?_
              refine Tr.ret ?_
              have H := Option.some.inj H
              subst H
              exact Fin.of _ [(false, [.lit (.int .i64 3)])] (by kernel_rfl) rfl rfl
            · have H := bifT h5 H
              refine Tr.cond (b := true) (by kernel_rfl) (fun _ => ?_) (fun h => nomatch h)
              refine Tr.rs ?_
              refine LAt.runU tOk 1 (by kernel_rfl) ?_
              refine LAt.doneU [6] [] (by kernel_rfl) ?_
              refine Tr.ret ?_
              have H := Option.some.inj H
              subst H
              exact Fin.of _ [(false, [.lit (.int .i64 2)])] (by kernel_rfl) rfl rfl
        · have H := bifT h4 H
          refine Tr.draws mixed 19 (by kernel_rfl) ⟨52, 0, [(33, .val false [.lit (.bool true)]), (6, .val false [.lit (.int .i64 0)])], []⟩ (fun cx => ?_) ?_
          · refine AT.runU tOk [(0, []), (1, [])] 17 [] [1, 0] rfl (by kernel_rfl) (fun cx => ?_)
            refine AT.indexF tOk 2 (t := 55) (ty := 0) (x := (.tmp 34)) (y := (.tmp 35)) (d := 36) (g := none) ⟨(.slot 34), [], 0, false, 8, (CV.frzEs (x1.map Pt.row))⟩ x2 (Pt.row v4) _ (by kernel_rfl) (by kernel_rfl) (by kernel_rfl) (by kernel_rfl) (by kernel_rfl) (by kernel_rfl) rfl (idx_isF ev4) rfl (fun cx => ?_)
            refine AT.runU tOk [(3, []), (4, []), (5, []), (6, [])] 12 [] [6, 5, 4, 3, 2, 1, 0] rfl (by kernel_rfl) (fun cx => ?_)
            refine AT.to ⟨52, 0, [(40, .val false [.lit (.bool (!v4.Has))]), (39, .val false [.lit (.bool (!v4.Has))]), (38, .val false [.lit (.bool v4.Has)]), (37, .fad (((Pt.row v4).drop 2))), (36, .fad ((Pt.row v4))), (35, .val false [.lit (.int .i64 x2)]), (34, .val false [.sl false 8 (CV.frzEs (x1.map Pt.row))]), (29, .val false [.lit (.bool false)]), (6, .val false [.lit (.int .i64 0)]), (0, .val false [.lit (.int .i64 x0)]), (1, .val false [.sl false 8 (CV.frzEs (x1.map Pt.row))]), (2, .val false [.lit (.int .i64 x2)])], []⟩ (by kernel_rfl) ?_
            rw [h4]
            refine AT.runU tOk [(7, []), (8, []), (9, []), (10, []), (11, []), (12, []), (13, []), (14, []), (15, []), (16, []), (17, []), (18, [])] 0 [] [18, 17, 16, 15, 14, 13, 12, 11, 10, 9, 8, 7, 6, 5, 4, 3, 2, 1, 0] rfl (by kernel_rfl) (fun cx => ?_)
            exact AT.done [33, 6] [] _ (by kernel_rfl) (by kernel_rfl) rfl
          · refine Tr.cond (b := true) (by kernel_rfl) (fun _ => ?_) (fun h => nomatch h)
            refine Tr.rs ?_
            refine LAt.runU tOk 1 (by kernel_rfl) ?_
            refine LAt.doneU [6] [] (by kernel_rfl) ?_
            refine Tr.ret ?_
            have H := Option.some.inj H
            subst H
            exact Fin.of _ [(false, [.lit (.int .i64 2)])] (by kernel_rfl) rfl rfl
      · have H := bifT h3 H
        refine Tr.cond (b := true) (by kernel_rfl) (fun _ => ?_) (fun h => nomatch h)
        refine Tr.rs ?_
        refine LAt.runU tOk 1 (by kernel_rfl) ?_
        refine LAt.doneU [6] [] (by kernel_rfl) ?_
        refine Tr.ret ?_
        have H := Option.some.inj H
        subst H
        exact Fin.of _ [(false, [.lit (.int .i64 1)])] (by kernel_rfl) rfl rfl
    · have H := bifT h2 H
      refine Tr.cond (b := true) (by kernel_rfl) (fun _ => ?_) (fun h => nomatch h)
      refine Tr.rs ?_
      refine LAt.runU tOk 1 (by kernel_rfl) ?_
      refine LAt.doneU [6, 0, 1, 2] [] (by kernel_rfl) ?_
      refine Tr.ret ?_
      have H := Option.some.inj H
      subst H
      exact Fin.of _ [(false, [.lit (.int .i64 4)])] (by kernel_rfl) rfl rfl
  · have H := bifT h1 H
    refine LAt.runU tOk 7 (by kernel_rfl) ?_
    refine LAt.doneU [22, 6, 0, 1, 2] [] (by kernel_rfl) ?_
    refine Tr.cond (b := true) (by kernel_rfl) (fun _ => ?_) (fun h => nomatch h)
    refine Tr.rs ?_
    refine LAt.runU tOk 1 (by kernel_rfl) ?_
    refine LAt.doneU [6, 0, 1, 2] [] (by kernel_rfl) ?_
    refine Tr.ret ?_
    have H := Option.some.inj H
    subst H
    exact Fin.of _ [(false, [.lit (.int .i64 4)])] (by kernel_rfl) rfl rfl

def impl_Sends_J1 (n : Nat) (y3 : Int) : Option (Int) :=
  (some y3)
def impl_Sends_L2 (n : Nat) : Nat → Int → (List Pt) → Int → Int → Option ((Int) ⊕ (Int))
  | 0, _, _, _, _ => none
  | mo4 + 1, x0, x1, y1, y2 => (bif (decide (y1 < (x1.length : Int))) then (bif (decide (y1 < 6)) then ((impl_RoleOfF n x0 x1 y1).bind fun r5 => (bif (r5 == 1) then (bif (decide ((0 : Int) ≤ y1)) then (impl_Sends_L2 n mo4 x0 x1 (IntKind.wrap .i64 (y1 + 1)) (IntKind.wrap .i64 (BitVec.ofInt (IntKind.bits .i64) y2 ||| BitVec.ofInt (IntKind.bits .i64) (IntKind.wrap .i64 (1 * 2 ^ min ((y1 : Int)).toNat (IntKind.bits .i64)))).toNat)) else none) else (bif (r5 == 2) then (bif (decide ((0 : Int) ≤ y1)) then (impl_Sends_L2 n mo4 x0 x1 (IntKind.wrap .i64 (y1 + 1)) (IntKind.wrap .i64 (BitVec.ofInt (IntKind.bits .i64) y2 ||| BitVec.ofInt (IntKind.bits .i64) (IntKind.wrap .i64 (1 * 2 ^ min ((y1 : Int)).toNat (IntKind.bits .i64)))).toNat)) else none) else (impl_Sends_L2 n mo4 x0 x1 (IntKind.wrap .i64 (y1 + 1)) y2)))) else (some (Sum.inl y2))) else (some (Sum.inl y2)))
def impl_SendsF (n : Nat) (x0 : Int) (x1 : (List Pt)) : Option (Int) :=
  ((impl_Sends_L2 n n x0 x1 0 0).bind fun o => match o with | .inl y3 => (impl_Sends_J1 n y3) | .inr r => some r)
/-- loop.example/g00326/impl.Sends -/
theorem impl_Sends (n : Nat) (x0 : Int) (x1 : (List Pt)) (r : Int) (H : impl_SendsF n x0 x1 = some r) : LCall Try.prog 149 [.val false [.lit (.int .i64 x0)], .val false [.sl false 8 (CV.frzEs (x1.map Pt.row))]] [.val false [.lit (.int .i64 r)]] [] := by
  refine LCall.of_body tOk Try.func149 rfl (c := (.seq (.region 0 (rg Try.f149 0) false) (.seq (.region 1 (rg Try.f149 1) false) (.seq (.seq (.region 2 (rg Try.f149 2) false) (.block 0 (.loop (.seq (.seq (.region 3 (rg Try.f149 3) false) (.cond (.tmp 15) .skip (.exit 0))) (.seq (.block 1 (.seq (.region 5 (rg Try.f149 5) false) (.seq (.region 6 (rg Try.f149 6) false) (.cond (.tmp 27) (.region 7 (rg Try.f149 7) false) .skip)))) (.region 4 (rg Try.f149 4) false)))))) (.seq (.region 8 (rg Try.f149 8) false) .ret))))) (by kernel_rfl) (Nat.le_of_ble_eq_true (by kernel_rfl)) 0 (rs := [.tmp 4]) rfl [] .nil [(false, [.lit (.int .i64 r)])] [] [] fun cx => ?_
  show Tr _ _ _ ⟨33, 0, [(0, .val false [.lit (.int .i64 x0)]), (1, .val false [.sl false 8 (CV.frzEs (x1.map Pt.row))])], []⟩ _
  unfold impl_SendsF at H
  refine Tr.rs ?_
  refine LAt.runU tOk 1 (by kernel_rfl) ?_
  refine LAt.doneU [4, 0, 1] [] (by kernel_rfl) ?_
  refine Tr.rs ?_
  refine LAt.runU tOk 1 (by kernel_rfl) ?_
  refine LAt.doneU [5, 4, 0, 1] [] (by kernel_rfl) ?_
  refine Tr.seq ?_
  refine Tr.rs ?_
  refine LAt.runU tOk 1 (by kernel_rfl) ?_
  refine LAt.doneU [6, 5, 4, 0, 1] [] (by kernel_rfl) ?_
  obtain ⟨o4, eo4, Ho4⟩ := bind_some H
  clear H
  refine Tr.mid (ι := Int) (fun v => ⟨33, 0, [(5, .val false [.lit (.int .i64 v)]), (4, .val false [.lit (.int .i64 0)])], []⟩) (fun v => impl_Sends_J1 n v = some r) ?_ ?_
  · refine Tr.block ?_
    refine Tr.loop (ι := Nat × (Int × Int)) (fun v => ⟨33, 0, [(6, .val false [.lit (.int .i64 v.2.1)]), (5, .val false [.lit (.int .i64 v.2.2)]), (4, .val false [.lit (.int .i64 0)]), (0, .val false [.lit (.int .i64 x0)]), (1, .val false [.sl false 8 (CV.frzEs (x1.map Pt.row))])], []⟩) (fun v => impl_Sends_L2 n v.1 x0 x1 v.2.1 v.2.2 = some o4) (fun v => v.1) (n, (0, 0)) eo4 (St.sub_of [6, 5, 4, 0, 1] [] (by kernel_rfl)) ?_
    rintro ⟨mo4, y1, y2⟩ H
    have H : impl_Sends_L2 n mo4 x0 x1 y1 y2 = some o4 := H
    obtain _ | mo4 := mo4
    · cases (show (none : Option _) = some o4 from H)
    · rw [impl_Sends_L2] at H
      refine Tr.seq ?_
      refine Tr.rs ?_
      refine LAt.runU tOk 2 (by kernel_rfl) ?_
      refine LAt.lenE tOk (t := 55) (ty := 3) (e := 114) (x := (.tmp 9)) (d := 10) (g := none) ⟨(.slot 9), [], 0, false, 8, (CV.frzEs (x1.map Pt.row))⟩ (x1).length _ (by kernel_rfl) (by kernel_rfl) (by kernel_rfl) (by kernel_rfl) (by kernel_rfl) (frz_len _ _) rfl ?_
      refine LAt.runU tOk 2 (by kernel_rfl) ?_
      refine LAt.to ⟨33, 0, [(12, .val false [.lit (.bool (decide (y1 < (x1.length : Int))))]), (11, .val false [.lit (.bool (decide (y1 < (x1.length : Int))))]), (10, .val false [.lit (.int .i64 (x1.length : Int))]), (9, .val false [.sl false 8 (CV.frzEs (x1.map Pt.row))]), (8, .val false [.lit (.int .i64 y1)]), (6, .val false [.lit (.int .i64 y1)]), (5, .val false [.lit (.int .i64 y2)]), (4, .val false [.lit (.int .i64 0)]), (0, .val false [.lit (.int .i64 x0)]), (1, .val false [.sl false 8 (CV.frzEs (x1.map Pt.row))])], []⟩ (by kernel_rfl) ?_
      cases h1 : (decide (y1 < (x1.length : Int)))
      · have H := bifF h1 H
        refine LAt.runU tOk 3 (by kernel_rfl) ?_
        refine LAt.doneU [15, 14, 13, 12, 11, 10, 9, 8, 6, 5, 4, 0, 1] [] (by kernel_rfl) ?_
        refine Tr.cond (b := false) (by kernel_rfl) (fun h => nomatch h) (fun _ => ?_)
        refine Tr.exit ?_
        refine And.intro (fun _ => ?_) (fun h => absurd rfl h)
        have H := Option.some.inj H
        subst H
        have H := Ho4
        dsimp only at H
        exact Exists.intro y2 (And.intro H (St.sub_of [5, 4] [] (by kernel_rfl)))
      · have H := bifT h1 H
        refine LAt.runU tOk 3 (by kernel_rfl) ?_
        refine LAt.doneU [15, 14, 13, 12, 11, 10, 9, 8, 6, 5, 4, 0, 1] [] (by kernel_rfl) ?_
        refine Tr.to ⟨33, 0, [(15, .val false [.lit (.bool (decide (y1 < 6)))]), (14, .val false [.lit (.bool (decide (y1 < 6)))]), (13, .val false [.lit (.int .i64 y1)]), (12, .val false [.lit (.bool true)]), (11, .val false [.lit (.bool true)]), (10, .val false [.lit (.int .i64 (x1.length : Int))]), (9, .val false [.sl false 8 (CV.frzEs (x1.map Pt.row))]), (8, .val false [.lit (.int .i64 y1)]), (6, .val false [.lit (.int .i64 y1)]), (5, .val false [.lit (.int .i64 y2)]), (4, .val false [.lit (.int .i64 0)]), (0, .val false [.lit (.int .i64 x0)]), (1, .val false [.sl false 8 (CV.frzEs (x1.map Pt.row))])], []⟩ (by kernel_rfl) ?_
        cases h2 : (decide (y1 < 6))
        · have H := bifF h2 H
          refine Tr.cond (b := false) (by kernel_rfl) (fun h => nomatch h) (fun _ => ?_)
          refine Tr.exit ?_
          refine And.intro (fun _ => ?_) (fun h => absurd rfl h)
          have H := Option.some.inj H
          subst H
          have H := Ho4
          dsimp only at H
          exact Exists.intro y2 (And.intro H (St.sub_of [5, 4] [] (by kernel_rfl)))
        · have H := bifT h2 H
          refine Tr.cond (b := true) (by kernel_rfl) (fun _ => ?_) (fun h => nomatch h)
          refine Tr.skip ?_
          show Tr _ _ _ _ _
          refine Tr.seq ?_
          refine Tr.block ?_
          refine Tr.rs ?_
          refine LAt.runU tOk 3 (by kernel_rfl) ?_
          obtain ⟨r5, er5, H⟩ := bind_some H
          refine LAt.callU tOk [.rd, .rd, .rd] (f := 172) (av := #[.tmp 18, .tmp 19, .tmp 20]) (ats := #[3, 55, 3]) (d := (some 21)) (ty := 3) (g := none) (by kernel_rfl) (by kernel_rfl) (by kernel_rfl) [] (impl_RoleOf n x0 x1 y1 r5 er5) (by kernel_rfl) (.inl rfl) ?_
          refine LAt.runU tOk 1 (by kernel_rfl) ?_
          refine LAt.doneU [7, 21, 20, 19, 18, 15, 14, 13, 12, 11, 10, 9, 8, 6, 5, 4, 0, 1] [] (by kernel_rfl) ?_
          refine Tr.rs ?_
          refine LAt.runU tOk 3 (by kernel_rfl) ?_
          refine LAt.to ⟨33, 0, [(24, .val false [.lit (.bool (r5 == 1))]), (23, .val false [.lit (.bool (r5 == 1))]), (22, .val false [.lit (.int .i64 r5)]), (7, .val false [.lit (.int .i64 r5)]), (21, .val false [.lit (.int .i64 r5)]), (20, .val false [.lit (.int .i64 y1)]), (19, .val false [.sl false 8 (CV.frzEs (x1.map Pt.row))]), (18, .val false [.lit (.int .i64 x0)]), (15, .val false [.lit (.bool true)]), (14, .val false [.lit (.bool true)]), (13, .val false [.lit (.int .i64 y1)]), (12, .val false [.lit (.bool true)]), (11, .val false [.lit (.bool true)]), (10, .val false [.lit (.int .i64 (x1.length : Int))]), (9, .val false [.sl false 8 (CV.frzEs (x1.map Pt.row))]), (8, .val false [.lit (.int .i64 y1)]), (6, .val false [.lit (.int .i64 y1)]), (5, .val false [.lit (.int .i64 y2)]), (4, .val false [.lit (.int .i64 0)]), (0, .val false [.lit (.int .i64 x0)]), (1, .val false [.sl false 8 (CV.frzEs (x1.map Pt.row))])], []⟩ (by kernel_rfl) ?_
          cases h3 : (r5 == 1)
          · have H := bifF h3 H
            refine LAt.runU tOk 3 (by kernel_rfl) ?_
            refine LAt.doneU [27, 26, 25, 24, 23, 22, 7, 21, 20, 19, 18, 15, 14, 13, 12, 11, 10, 9, 8, 6, 5, 4, 0, 1] [] (by kernel_rfl) ?_
            refine Tr.to ⟨33, 0, [(27, .val false [.lit (.bool (r5 == 2))]), (26, .val false [.lit (.bool (r5 == 2))]), (25, .val false [.lit (.int .i64 r5)]), (24, .val false [.lit (.bool false)]), (23, .val false [.lit (.bool false)]), (22, .val false [.lit (.int .i64 r5)]), (7, .val false [.lit (.int .i64 r5)]), (21, .val false [.lit (.int .i64 r5)]), (20, .val false [.lit (.int .i64 y1)]), (19, .val false [.sl false 8 (CV.frzEs (x1.map Pt.row))]), (18, .val false [.lit (.int .i64 x0)]), (15, .val false [.lit (.bool true)]), (14, .val false [.lit (.bool true)]), (13, .val false [.lit (.int .i64 y1)]), (12, .val false [.lit (.bool true)]), (11, .val false [.lit (.bool true)]), (10, .val false [.lit (.int .i64 (x1.length : Int))]), (9, .val false [.sl false 8 (CV.frzEs (x1.map Pt.row))]), (8, .val false [.lit (.int .i64 y1)]), (6, .val false [.lit (.int .i64 y1)]), (5, .val false [.lit (.int .i64 y2)]), (4, .val false [.lit (.int .i64 0)]), (0, .val false [.lit (.int .i64 x0)]), (1, .val false [.sl false 8 (CV.frzEs (x1.map Pt.row))])], []⟩ (by kernel_rfl) ?_
            cases h4 : (r5 == 2)
            · have H := bifF h4 H
              refine Tr.cond (b := false) (by kernel_rfl) (fun h => nomatch h) (fun _ => ?_)
              refine Tr.skip ?_
              show Tr _ _ _ _ _
              refine Tr.at ?_
              refine LAt.runU tOk 3 (by kernel_rfl) ?_
              refine LAt.doneU [6, 17, 16, 27, 26, 25, 24, 23, 22, 7, 21, 20, 19, 18, 15, 14, 13, 12, 11, 10, 9, 8, 5, 4, 0, 1] [] (by kernel_rfl) ?_
              exact Exists.intro (mo4, ((IntKind.wrap .i64 (y1 + 1)), y2)) (And.intro H (And.intro (Nat.lt_succ_self mo4) (St.sub_of [6, 5, 4, 0, 1] [] (by kernel_rfl))))
            · have H := bifT h4 H
              refine Tr.cond (b := true) (by kernel_rfl) (fun _ => ?_) (fun h => nomatch h)
              refine Tr.at ?_
              refine LAt.runU tOk 2 (by kernel_rfl) ?_
              obtain ⟨hg6, H⟩ := guard_some H
              refine LAt.binC tOk (op := .shl) (t := 3) (ty := 3) (ty' := 3) (x := (.const (.int .i64 1))) (y := (.tmp 29)) (d := 30) (g := none) (.int .i64 1) (.int .i64 y1) (.int .i64 (IntKind.wrap .i64 (1 * 2 ^ min ((y1 : Int)).toNat (IntKind.bits .i64)))) _ (by kernel_rfl) (by kernel_rfl) (by kernel_rfl) (by kernel_rfl) (by kernel_rfl) (φ := (0 : Int) ≤ y1) (by kernel_rfl) (of_decide_eq_true hg6) rfl ?_
              refine LAt.runU tOk 2 (by kernel_rfl) ?_
              refine LAt.doneU [5, 31, 30, 29, 28, 27, 26, 25, 24, 23, 22, 7, 21, 20, 19, 18, 15, 14, 13, 12, 11, 10, 9, 8, 6, 4, 0, 1] [] (by kernel_rfl) ?_
              show Tr _ _ _ _ _
              refine Tr.at ?_
              refine LAt.runU tOk 3 (by kernel_rfl) ?_
              refine LAt.doneU [6, 17, 16, 5, 31, 30, 29, 28, 27, 26, 25, 24, 23, 22, 7, 21, 20, 19, 18, 15, 14, 13, 12, 11, 10, 9, 8, 4, 0, 1] [] (by kernel_rfl) ?_
              exact Exists.intro (mo4, ((IntKind.wrap .i64 (y1 + 1)), (IntKind.wrap .i64 (BitVec.ofInt (IntKind.bits .i64) y2 ||| BitVec.ofInt (IntKind.bits .i64) (IntKind.wrap .i64 (1 * 2 ^ min ((y1 : Int)).toNat (IntKind.bits .i64)))).toNat))) (And.intro H (And.intro (Nat.lt_succ_self mo4) (St.sub_of [6, 5, 4, 0, 1] [] (by kernel_rfl))))
          · have H := bifT h3 H
            refine LAt.runU tOk 3 (by kernel_rfl) ?_
            refine LAt.doneU [27, 26, 25, 24, 23, 22, 7, 21, 20, 19, 18, 15, 14, 13, 12, 11, 10, 9, 8, 6, 5, 4, 0, 1] [] (by kernel_rfl) ?_
            refine Tr.cond (b := true) (by kernel_rfl) (fun _ => ?_) (fun h => nomatch h)
            refine Tr.at ?_
            refine LAt.runU tOk 2 (by kernel_rfl) ?_
            obtain ⟨hg7, H⟩ := guard_some H
            refine LAt.binC tOk (op := .shl) (t := 3) (ty := 3) (ty' := 3) (x := (.const (.int .i64 1))) (y := (.tmp 29)) (d := 30) (g := none) (.int .i64 1) (.int .i64 y1) (.int .i64 (IntKind.wrap .i64 (1 * 2 ^ min ((y1 : Int)).toNat (IntKind.bits .i64)))) _ (by kernel_rfl) (by kernel_rfl) (by kernel_rfl) (by kernel_rfl) (by kernel_rfl) (φ := (0 : Int) ≤ y1) (by kernel_rfl) (of_decide_eq_true hg7) rfl ?_
            refine LAt.runU tOk 2 (by kernel_rfl) ?_
            refine LAt.doneU [5, 31, 30, 29, 28, 27, 26, 25, 24, 23, 22, 7, 21, 20, 19, 18, 15, 14, 13, 12, 11, 10, 9, 8, 6, 4, 0, 1] [] (by kernel_rfl) ?_
            show Tr _ _ _ _ _
            refine Tr.at ?_
            refine LAt.runU tOk 3 (by kernel_rfl) ?_
            refine LAt.doneU [6, 17, 16, 5, 31, 30, 29, 28, 27, 26, 25, 24, 23, 22, 7, 21, 20, 19, 18, 15, 14, 13, 12, 11, 10, 9, 8, 4, 0, 1] [] (by kernel_rfl) ?_
            exact Exists.intro (mo4, ((IntKind.wrap .i64 (y1 + 1)), (IntKind.wrap .i64 (BitVec.ofInt (IntKind.bits .i64) y2 ||| BitVec.ofInt (IntKind.bits .i64) (IntKind.wrap .i64 (1 * 2 ^ min ((y1 : Int)).toNat (IntKind.bits .i64)))).toNat))) (And.intro H (And.intro (Nat.lt_succ_self mo4) (St.sub_of [6, 5, 4, 0, 1] [] (by kernel_rfl))))
  · rintro y3 H
    have H : (impl_Sends_J1 n y3) = some r := H
    unfold impl_Sends_J1 at H
    show Tr _ _ _ _ _
    refine Tr.rs ?_
    refine LAt.runU tOk 2 (by kernel_rfl) ?_
    refine LAt.doneU [4] [] (by kernel_rfl) ?_
    refine Tr.ret ?_
    have H := Option.some.inj H
    subst H
    exact Fin.of _ [(false, [.lit (.int .i64 y3)])] (by kernel_rfl) rfl rfl

def impl_hasPortF (n : Nat) (x0 : Int) (x1 : Int) : Option (Bool) :=
  ((impl_inF n x1 0 62).bind fun r1 => (bif r1 then (bif (decide ((0 : Int) ≤ x1)) then (some ((IntKind.wrap .i64 (BitVec.ofInt (IntKind.bits .i64) (Int.fdiv x0 (2 ^ min ((x1 : Int)).toNat (IntKind.bits .i64))) &&& BitVec.ofInt (IntKind.bits .i64) 1).toNat) == 1)) else none) else (some false)))
/-- loop.example/g00326/impl.hasPort -/
theorem impl_hasPort (n : Nat) (x0 : Int) (x1 : Int) (r : Bool) (H : impl_hasPortF n x0 x1 = some r) : LCall Try.prog 148 [.val false [.lit (.int .i64 x0)], .val false [.lit (.int .i64 x1)]] [.val false [.lit (.bool r)]] [] := by
  refine LCall.of_body tOk Try.func148 rfl (c := (.seq (.region 0 (rg Try.f148 0) false) (.seq (.region 1 (rg Try.f148 1) false) .ret))) (by kernel_rfl) (Nat.le_of_ble_eq_true (by kernel_rfl)) 0 (rs := [.tmp 4]) rfl [] .nil [(false, [.lit (.bool r)])] [] [] fun cx => ?_
  show Tr _ _ _ ⟨14, 0, [(0, .val false [.lit (.int .i64 x0)]), (1, .val false [.lit (.int .i64 x1)])], []⟩ _
  unfold impl_hasPortF at H
  refine Tr.rs ?_
  refine LAt.runU tOk 1 (by kernel_rfl) ?_
  refine LAt.doneU [4, 0, 1] [] (by kernel_rfl) ?_
  refine Tr.rs ?_
  refine LAt.runU tOk 1 (by kernel_rfl) ?_
  obtain ⟨r1, er1, H⟩ := bind_some H
  refine LAt.callU tOk [.rd, .rd, .rd] (f := 70) (av := #[.tmp 5, .const (.int .i64 0), .const (.int .i64 62)]) (ats := #[3, 3, 3]) (d := (some 6)) (ty := 4) (g := none) (by kernel_rfl) (by kernel_rfl) (by kernel_rfl) [] (impl_in n x1 0 62 r1 er1) (by kernel_rfl) (.inl rfl) ?_
  refine LAt.runU tOk 1 (by kernel_rfl) ?_
  refine LAt.to ⟨14, 0, [(7, .val false [.lit (.bool r1)]), (6, .val false [.lit (.bool r1)]), (5, .val false [.lit (.int .i64 x1)]), (4, .val false [.lit (.bool false)]), (0, .val false [.lit (.int .i64 x0)]), (1, .val false [.lit (.int .i64 x1)])], []⟩ (by kernel_rfl) ?_
  cases h1 : r1
  · have H := bifF h1 H
    refine LAt.runU tOk 7 (by kernel_rfl) ?_
    refine LAt.doneU [4] [] (by kernel_rfl) ?_
    refine Tr.ret ?_
    have H := Option.some.inj H
    subst H
    exact Fin.of _ [(false, [.lit (.bool false)])] (by kernel_rfl) rfl rfl
  · have H := bifT h1 H
    refine LAt.runU tOk 2 (by kernel_rfl) ?_
    obtain ⟨hg2, H⟩ := guard_some H
    refine LAt.binC tOk (op := .shr) (t := 3) (ty := 3) (ty' := 3) (x := (.tmp 8)) (y := (.tmp 9)) (d := 10) (g := (some (2, true))) (.int .i64 x0) (.int .i64 x1) (.int .i64 (Int.fdiv x0 (2 ^ min ((x1 : Int)).toNat (IntKind.bits .i64)))) _ (by kernel_rfl) (by kernel_rfl) (by kernel_rfl) (by kernel_rfl) (by kernel_rfl) (φ := (0 : Int) ≤ x1) (by kernel_rfl) (of_decide_eq_true hg2) rfl ?_
    refine LAt.runU tOk 4 (by kernel_rfl) ?_
    refine LAt.doneU [4] [] (by kernel_rfl) ?_
    refine Tr.ret ?_
    have H := Option.some.inj H
    subst H
    exact Fin.of _ [(false, [.lit (.bool ((IntKind.wrap .i64 (BitVec.ofInt (IntKind.bits .i64) (Int.fdiv x0 (2 ^ min ((x1 : Int)).toNat (IntKind.bits .i64))) &&& BitVec.ofInt (IntKind.bits .i64) 1).toNat) == 1))])] (by kernel_rfl) rfl rfl

def impl_sendsByF (n : Nat) (x0 : Net) (x1 : Int) (x2 : Int) : Option (Bool) :=
  ((idx x0.Bridges x1).bind fun v1 => ((idx x0.Bridges x1).bind fun v2 => ((impl_SendsF n v1.Id v2.Ports).bind fun r3 => ((impl_hasPortF n r3 x2).bind fun r4 => (some r4)))))
/-- loop.example/g00326/impl.sendsBy -/
theorem impl_sendsBy (n : Nat) (x0 : Net) (x1 : Int) (x2 : Int) (r : Bool) (H : impl_sendsByF n x0 x1 x2 = some r) : LCall Try.prog 93 [.val true (CV.frzRow (Net.row x0)), .val false [.lit (.int .i64 x1)], .val false [.lit (.int .i64 x2)]] [.val false [.lit (.bool r)]] [] := by
  refine LCall.of_body tOk Try.func93 rfl (c := (.seq (.region 0 (rg Try.f93 0) false) (.seq (.region 1 (rg Try.f93 1) true) .ret))) (by kernel_rfl) (Nat.le_of_ble_eq_true (by kernel_rfl)) 0 (rs := [.tmp 6]) rfl [] .nil [(false, [.lit (.bool r)])] [] [] fun cx => ?_
  show Tr _ _ _ ⟨22, 0, [(0, .val true (CV.frzRow (Net.row x0))), (1, .val false [.lit (.int .i64 x1)]), (2, .val false [.lit (.int .i64 x2)])], []⟩ _
  unfold impl_sendsByF at H
  refine Tr.rs ?_
  refine LAt.runU tOk 2 (by kernel_rfl) ?_
  refine LAt.doneU [6, 3, 1, 2] [3] (by kernel_rfl) ?_
  obtain ⟨v1, ev1, H⟩ := bind_some H
  obtain ⟨v2, ev2, H⟩ := bind_some H
  obtain ⟨r3, er3, H⟩ := bind_some H
  obtain ⟨r4, er4, H⟩ := bind_some H
  refine Tr.draws mixed 16 (by kernel_rfl) ⟨22, 0, [(6, .val false [.lit (.bool r4)])], []⟩ (fun cx => ?_) ?_
  · refine AT.runU tOk [(0, []), (1, [12, 14]), (2, [])] 13 [⟨[12, 14], 30, 7, 8⟩] [2, 1, 0] rfl (by kernel_rfl) (fun cx => ?_)
    refine AT.indexF tOk 3 (t := 30) (ty := 0) (x := (.tmp 8)) (y := (.tmp 9)) (d := 10) (g := none) ⟨(.box 3), [(0, 0)], 0, false, 11, (CV.frzEs (x0.Bridges.map Bridge.row))⟩ x1 (CV.frzRow (Bridge.row v1)) _ (by kernel_rfl) (by kernel_rfl) (by kernel_rfl) (by kernel_rfl) (by kernel_rfl) (by kernel_rfl) rfl (idx_isF ev1) rfl (fun cx => ?_)
    refine AT.runU tOk [(4, []), (5, []), (6, []), (7, [12, 14]), (8, [])] 7 [⟨[12, 14], 30, 13, 14⟩, ⟨[12, 14], 30, 7, 8⟩] [8, 7, 6, 5, 4, 3, 2, 1, 0] rfl (by kernel_rfl) (fun cx => ?_)
    refine AT.indexF tOk 9 (t := 30) (ty := 0) (x := (.tmp 14)) (y := (.tmp 15)) (d := 16) (g := none) ⟨(.box 3), [(0, 0)], 0, false, 11, (CV.frzEs (x0.Bridges.map Bridge.row))⟩ x1 (CV.frzRow (Bridge.row v2)) _ (by kernel_rfl) (by kernel_rfl) (by kernel_rfl) (by kernel_rfl) (by kernel_rfl) (by kernel_rfl) rfl (idx_isF ev2) rfl (fun cx => ?_)
    refine AT.runU tOk [(10, []), (11, []), (13, [])] 3 [⟨[12, 14], 30, 13, 14⟩, ⟨[12, 14], 30, 7, 8⟩] [13, 11, 10, 9, 8, 7, 6, 5, 4, 3, 2, 1, 0] rfl (by kernel_rfl) (fun cx => ?_)
    refine AT.big1 tOk 12 (by kernel_rfl) (by kernel_rfl) ?_
    refine LAt.callU tOk [.rd, .rd] (f := 149) (av := #[.tmp 12, .tmp 18]) (ats := #[3, 55]) (d := (some 19)) (ty := 3) (g := none) (by kernel_rfl) (by kernel_rfl) (by kernel_rfl) [] (impl_Sends n v1.Id v2.Ports r3 er3) (by kernel_rfl) (.inl rfl) ?_
    refine LAt.fin (by kernel_rfl) (And.intro (And.intro (by kernel_rfl) (by kernel_rfl)) ?_)
    refine AT.big1 tOk 14 (by kernel_rfl) (by kernel_rfl) ?_
    refine LAt.callU tOk [.rd, .rd] (f := 148) (av := #[.tmp 19, .tmp 20]) (ats := #[3, 3]) (d := (some 21)) (ty := 4) (g := none) (by kernel_rfl) (by kernel_rfl) (by kernel_rfl) [] (impl_hasPort n r3 x2 r4 er4) (by kernel_rfl) (.inl rfl) ?_
    refine LAt.fin (by kernel_rfl) (And.intro (And.intro (by kernel_rfl) (by kernel_rfl)) ?_)
    refine AT.runU tOk [(15, [])] 0 [⟨[12, 14], 30, 13, 14⟩, ⟨[12, 14], 30, 7, 8⟩] [15, 14, 12, 13, 11, 10, 9, 8, 7, 6, 5, 4, 3, 2, 1, 0] rfl (by kernel_rfl) (fun cx => ?_)
    exact AT.done [6] [] _ (by kernel_rfl) (by kernel_rfl) rfl
  · refine Tr.ret ?_
    have H := Option.some.inj H
    subst H
    exact Fin.of _ [(false, [.lit (.bool r4)])] (by kernel_rfl) rfl rfl

def impl_Live_J1 (n : Nat) (y3 : (List Int)) : Option ((List Int)) :=
  (some y3)
def impl_Live_J3 (n : Nat) (k : (Int × (List Int) → Option (((List Int)) ⊕ ((List Int))))) (y1 : Int) (y2 : (List Int)) (y6 : Bool) (y7 : Bool) (y8 : Bool) (y9 : Bool) (y10 : Bool) : Option (((List Int)) ⊕ ((List Int))) :=
  (bif y6 then (bif (decide (y2.length + [y1].length ≤ 268435456)) then (k ((IntKind.wrap .i64 (y1 + 1)), (y2 ++ [y1]))) else none) else (k ((IntKind.wrap .i64 (y1 + 1)), y2)))
def impl_Live_L2 (n : Nat) : Nat → Net → Int → (List Int) → Option (((List Int)) ⊕ ((List Int)))
  | 0, _, _, _ => none
  | mo4 + 1, x0, y1, y2 => (bif (decide (y1 < (x0.Links.length : Int))) then ((idx x0.Links y1).bind fun v5 => ((impl_LinkUpF n x0 y1).bind fun r12 => (bif r12 then ((impl_sendsByF n x0 v5.A v5.P).bind fun r13 => (bif r13 then ((impl_sendsByF n x0 v5.B v5.Q).bind fun r14 => (impl_Live_J3 n (fun v => impl_Live_L2 n mo4 x0 v.1 v.2) y1 y2 r14 true true true true)) else (impl_Live_J3 n (fun v => impl_Live_L2 n mo4 x0 v.1 v.2) y1 y2 false false false true true))) else (impl_Live_J3 n (fun v => impl_Live_L2 n mo4 x0 v.1 v.2) y1 y2 false false false false false)))) else (some (Sum.inl y2)))
def impl_LiveF (n : Nat) (x0 : Net) : Option ((List Int)) :=
  ((impl_Live_L2 n n x0 0 ([] : List Int)).bind fun o => match o with | .inl y3 => (impl_Live_J1 n y3) | .inr r => some r)
/-- loop.example/g00326/impl.Live -/
theorem impl_Live (n : Nat) (x0 : Net) (r : (List Int)) (H : impl_LiveF n x0 = some r) : LCall Try.prog 34 [.val true (CV.frzRow (Net.row x0))] [.val false [.sl true 1 (r.map intRow)]] [] := by
  refine LCall.of_body tOk Try.func34 rfl (c := (.seq (.region 0 (rg Try.f34 0) false) (.seq (.region 1 (rg Try.f34 1) false) (.seq (.seq (.region 2 (rg Try.f34 2) false) (.block 0 (.loop (.seq (.region 3 (rg Try.f34 3) false) (.seq (.cond (.tmp 10) .skip (.exit 0)) (.seq (.block 1 (.seq (.region 4 (rg Try.f34 4) false) (.seq (.region 5 (rg Try.f34 5) false) (.cond (.tmp 32) (.region 6 (rg Try.f34 6) false) .skip)))) (.region 7 (rg Try.f34 7) false))))))) (.seq (.region 8 (rg Try.f34 8) false) .ret))))) (by kernel_rfl) (Nat.le_of_ble_eq_true (by kernel_rfl)) 0 (rs := [.tmp 2]) rfl [] .nil [(false, [.sl true 1 (r.map intRow)])] [] [] fun cx => ?_
  show Tr _ _ _ ⟨39, 0, [(0, .val true (CV.frzRow (Net.row x0)))], []⟩ _
  unfold impl_LiveF at H
  refine Tr.rs ?_
  refine LAt.runU tOk 2 (by kernel_rfl) ?_
  refine LAt.doneU [2, 1] [1] (by kernel_rfl) ?_
  refine Tr.rs ?_
  refine LAt.runU tOk 1 (by kernel_rfl) ?_
  refine LAt.doneU [3, 2, 1] [1] (by kernel_rfl) ?_
  refine Tr.seq ?_
  refine Tr.rs ?_
  refine LAt.runU tOk 2 (by kernel_rfl) ?_
  refine LAt.lenE tOk (t := 31) (ty := 3) (e := 96) (x := (.tmp 7)) (d := 8) (g := none) ⟨(.slot 7), [], 0, false, 4, (CV.frzEs (x0.Links.map Link.row))⟩ (x0.Links).length _ (by kernel_rfl) (by kernel_rfl) (by kernel_rfl) (by kernel_rfl) (by kernel_rfl) (frz_len _ _) rfl ?_
  refine LAt.runU tOk 1 (by kernel_rfl) ?_
  refine LAt.doneU [9, 8, 7, 3, 2, 1] [1] (by kernel_rfl) ?_
  obtain ⟨o4, eo4, Ho4⟩ := bind_some H
  clear H
  refine Tr.mid (ι := (List Int)) (fun v => ⟨39, 0, [(3, .val false [.sl true 1 (v.map intRow)]), (2, .val false [.sl true 1 (([] : List Int).map intRow)])], []⟩) (fun v => impl_Live_J1 n v = some r) ?_ ?_
  · refine Tr.block ?_
    refine Tr.loop (ι := Nat × (Int × (List Int))) (fun v => ⟨39, 0, [(9, .val false [.lit (.int .i64 v.2.1)]), (8, .val false [.lit (.int .i64 (x0.Links.length : Int))]), (7, .val false [.sl false 4 (CV.frzEs (x0.Links.map Link.row))]), (3, .val false [.sl true 1 (v.2.2.map intRow)]), (2, .val false [.sl true 1 (([] : List Int).map intRow)]), (1, .adr (.box 1) [(0, 0)] 3 0)], [(1, (CV.frzRow (Net.row x0)))]⟩) (fun v => impl_Live_L2 n v.1 x0 v.2.1 v.2.2 = some o4) (fun v => v.1) (n, (0, ([] : List Int))) eo4 (St.sub_of [9, 8, 7, 3, 2, 1] [1] (by kernel_rfl)) ?_
    rintro ⟨mo4, y1, y2⟩ H
    have H : impl_Live_L2 n mo4 x0 y1 y2 = some o4 := H
    obtain _ | mo4 := mo4
    · cases (show (none : Option _) = some o4 from H)
    · rw [impl_Live_L2] at H
      refine Tr.rs ?_
      refine LAt.runU tOk 1 (by kernel_rfl) ?_
      refine LAt.doneU [10, 9, 8, 7, 3, 2, 1] [1] (by kernel_rfl) ?_
      refine Tr.seq ?_
      refine Tr.to ⟨39, 0, [(10, .val false [.lit (.bool (decide (y1 < (x0.Links.length : Int))))]), (9, .val false [.lit (.int .i64 y1)]), (8, .val false [.lit (.int .i64 (x0.Links.length : Int))]), (7, .val false [.sl false 4 (CV.frzEs (x0.Links.map Link.row))]), (3, .val false [.sl true 1 (y2.map intRow)]), (2, .val false [.sl true 1 (([] : List Int).map intRow)]), (1, .adr (.box 1) [(0, 0)] 3 0)], [(1, (CV.frzRow (Net.row x0)))]⟩ (by kernel_rfl) ?_
      cases h1 : (decide (y1 < (x0.Links.length : Int)))
      · have H := bifF h1 H
        refine Tr.cond (b := false) (by kernel_rfl) (fun h => nomatch h) (fun _ => ?_)
        refine Tr.exit ?_
        refine And.intro (fun _ => ?_) (fun h => absurd rfl h)
        have H := Option.some.inj H
        subst H
        have H := Ho4
        dsimp only at H
        exact Exists.intro y2 (And.intro H (St.sub_of [3, 2] [] (by kernel_rfl)))
      · have H := bifT h1 H
        refine Tr.cond (b := true) (by kernel_rfl) (fun _ => ?_) (fun h => nomatch h)
        refine Tr.skip ?_
        show Tr _ _ _ _ _
        refine Tr.seq ?_
        refine Tr.block ?_
        refine Tr.rs ?_
        refine LAt.runU tOk 1 (by kernel_rfl) ?_
        obtain ⟨v5, ev5, H⟩ := bind_some H
        refine LAt.indexF tOk (t := 31) (ty := 0) (x := (.tmp 7)) (y := (.tmp 9)) (d := 12) (g := none) ⟨(.slot 7), [], 0, false, 4, (CV.frzEs (x0.Links.map Link.row))⟩ y1 (Link.row v5) _ (by kernel_rfl) (by kernel_rfl) (by kernel_rfl) (by kernel_rfl) rfl (idx_isF ev5) rfl ?_
        refine LAt.runU tOk 4 (by kernel_rfl) ?_
        refine LAt.doneU [4, 5, 13, 12, 11, 10, 9, 8, 7, 3, 2, 1] [5, 1] (by kernel_rfl) ?_
        refine Tr.seq ?_
        refine Tr.mid (ι := Bool × Bool × Bool × Bool × Bool) (fun v => ⟨39, 0, [(32, .val false [.lit (.bool v.1)]), (25, .val false [.lit (.bool v.2.1)]), (24, .val false [.lit (.bool v.2.2.1)]), (17, .val false [.lit (.bool v.2.2.2.1)]), (16, .val false [.lit (.bool v.2.2.2.2)]), (15, .val false [.lit (.int .i64 y1)]), (14, .val true (CV.frzRow (Net.row x0))), (4, .val false [.lit (.int .i64 y1)]), (5, .adr (.box 5) [(0, 0)] 4 0), (13, .val true (Link.row v5)), (12, .fad ((Link.row v5))), (11, .val false [.lit (.int .i64 y1)]), (10, .val false [.lit (.bool true)]), (9, .val false [.lit (.int .i64 y1)]), (8, .val false [.lit (.int .i64 (x0.Links.length : Int))]), (7, .val false [.sl false 4 (CV.frzEs (x0.Links.map Link.row))]), (3, .val false [.sl true 1 (y2.map intRow)]), (2, .val false [.sl true 1 (([] : List Int).map intRow)]), (1, .adr (.box 1) [(0, 0)] 3 0)], [(5, (Link.row v5)), (1, (CV.frzRow (Net.row x0)))]⟩) (fun v => impl_Live_J3 n (fun v => impl_Live_L2 n mo4 x0 v.1 v.2) y1 y2 v.1 v.2.1 v.2.2.1 v.2.2.2.1 v.2.2.2.2 = some o4) ?_ ?_
        · refine Tr.at ?_
          refine LAt.runU tOk 2 (by kernel_rfl) ?_
          obtain ⟨r12, er12, H⟩ := bind_some H
          refine LAt.callU tOk [.rd, .rd] (f := 78) (av := #[.tmp 14, .tmp 15]) (ats := #[34, 3]) (d := (some 16)) (ty := 4) (g := none) (by kernel_rfl) (by kernel_rfl) (by kernel_rfl) [] (impl_LinkUp n x0 y1 r12 er12) (by kernel_rfl) (.inl rfl) ?_
          refine LAt.runU tOk 1 (by kernel_rfl) ?_
          refine LAt.to ⟨39, 0, [(17, .val false [.lit (.bool r12)]), (16, .val false [.lit (.bool r12)]), (15, .val false [.lit (.int .i64 y1)]), (14, .val true (CV.frzRow (Net.row x0))), (4, .val false [.lit (.int .i64 y1)]), (5, .adr (.box 5) [(0, 0)] 4 0), (13, .val true (Link.row v5)), (12, .fad ((Link.row v5))), (11, .val false [.lit (.int .i64 y1)]), (10, .val false [.lit (.bool true)]), (9, .val false [.lit (.int .i64 y1)]), (8, .val false [.lit (.int .i64 (x0.Links.length : Int))]), (7, .val false [.sl false 4 (CV.frzEs (x0.Links.map Link.row))]), (3, .val false [.sl true 1 (y2.map intRow)]), (2, .val false [.sl true 1 (([] : List Int).map intRow)]), (1, .adr (.box 1) [(0, 0)] 3 0)], [(5, (Link.row v5)), (1, (CV.frzRow (Net.row x0)))]⟩ (by kernel_rfl) ?_
          cases h3 : r12
          · have H := bifF h3 H
            refine LAt.runU tOk 15 (by kernel_rfl) ?_
            refine LAt.doneU [32, 31, 30, 29, 28, 27, 26, 25, 24, 23, 22, 21, 20, 19, 18, 17, 16, 15, 14, 4, 5, 13, 12, 11, 10, 9, 8, 7, 3, 2, 1] [5, 1] (by kernel_rfl) ?_
            exact Exists.intro (false, false, false, false, false) (And.intro H (St.sub_of [32, 25, 24, 17, 16, 15, 14, 4, 5, 13, 12, 11, 10, 9, 8, 7, 3, 2, 1] [5, 1] (by kernel_rfl)))
          · have H := bifT h3 H
            refine LAt.runU tOk 5 (by kernel_rfl) ?_
            obtain ⟨r13, er13, H⟩ := bind_some H
            refine LAt.callU tOk [.rd, .rd, .rd] (f := 93) (av := #[.tmp 18, .tmp 20, .tmp 22]) (ats := #[34, 3, 3]) (d := (some 23)) (ty := 4) (g := (some (3, true))) (by kernel_rfl) (by kernel_rfl) (by kernel_rfl) [] (impl_sendsBy n x0 v5.A v5.P r13 er13) (by kernel_rfl) (.inl rfl) ?_
            refine LAt.runU tOk 2 (by kernel_rfl) ?_
            refine LAt.to ⟨39, 0, [(25, .val false [.lit (.bool r13)]), (24, .val false [.lit (.bool r13)]), (23, .val false [.lit (.bool r13)]), (22, .val false [.lit (.int .i64 v5.P)]), (21, .adr (.box 5) [(0, 0)] 4 1), (20, .val false [.lit (.int .i64 v5.A)]), (19, .adr (.box 5) [(0, 0)] 4 0), (18, .val true (CV.frzRow (Net.row x0))), (17, .val false [.lit (.bool true)]), (16, .val false [.lit (.bool true)]), (15, .val false [.lit (.int .i64 y1)]), (14, .val true (CV.frzRow (Net.row x0))), (4, .val false [.lit (.int .i64 y1)]), (5, .adr (.box 5) [(0, 0)] 4 0), (13, .val true (Link.row v5)), (12, .fad ((Link.row v5))), (11, .val false [.lit (.int .i64 y1)]), (10, .val false [.lit (.bool true)]), (9, .val false [.lit (.int .i64 y1)]), (8, .val false [.lit (.int .i64 (x0.Links.length : Int))]), (7, .val false [.sl false 4 (CV.frzEs (x0.Links.map Link.row))]), (3, .val false [.sl true 1 (y2.map intRow)]), (2, .val false [.sl true 1 (([] : List Int).map intRow)]), (1, .adr (.box 1) [(0, 0)] 3 0)], [(5, (Link.row v5)), (1, (CV.frzRow (Net.row x0)))]⟩ (by kernel_rfl) ?_
            cases h4 : r13
            · have H := bifF h4 H
              refine LAt.runU tOk 7 (by kernel_rfl) ?_
              refine LAt.doneU [32, 31, 30, 29, 28, 27, 26, 25, 24, 23, 22, 21, 20, 19, 18, 17, 16, 15, 14, 4, 5, 13, 12, 11, 10, 9, 8, 7, 3, 2, 1] [5, 1] (by kernel_rfl) ?_
              exact Exists.intro (false, false, false, true, true) (And.intro H (St.sub_of [32, 25, 24, 17, 16, 15, 14, 4, 5, 13, 12, 11, 10, 9, 8, 7, 3, 2, 1] [5, 1] (by kernel_rfl)))
            · have H := bifT h4 H
              refine LAt.runU tOk 5 (by kernel_rfl) ?_
              obtain ⟨r14, er14, H⟩ := bind_some H
              refine LAt.callU tOk [.rd, .rd, .rd] (f := 93) (av := #[.tmp 26, .tmp 28, .tmp 30]) (ats := #[34, 3, 3]) (d := (some 31)) (ty := 4) (g := (some (11, true))) (by kernel_rfl) (by kernel_rfl) (by kernel_rfl) [] (impl_sendsBy n x0 v5.B v5.Q r14 er14) (by kernel_rfl) (.inl rfl) ?_
              refine LAt.runU tOk 1 (by kernel_rfl) ?_
              refine LAt.doneU [32, 31, 30, 29, 28, 27, 26, 25, 24, 23, 22, 21, 20, 19, 18, 17, 16, 15, 14, 4, 5, 13, 12, 11, 10, 9, 8, 7, 3, 2, 1] [5, 1] (by kernel_rfl) ?_
              exact Exists.intro (r14, true, true, true, true) (And.intro H (St.sub_of [32, 25, 24, 17, 16, 15, 14, 4, 5, 13, 12, 11, 10, 9, 8, 7, 3, 2, 1] [5, 1] (by kernel_rfl)))
        · rintro ⟨y6, y7, y8, y9, y10⟩ H
          have H : (impl_Live_J3 n (fun v => impl_Live_L2 n mo4 x0 v.1 v.2) y1 y2 y6 y7 y8 y9 y10) = some o4 := H
          unfold impl_Live_J3 at H
          show Tr _ _ _ _ _
          refine Tr.to ⟨39, 0, [(32, .val false [.lit (.bool y6)]), (25, .val false [.lit (.bool y7)]), (24, .val false [.lit (.bool y8)]), (17, .val false [.lit (.bool y9)]), (16, .val false [.lit (.bool y10)]), (15, .val false [.lit (.int .i64 y1)]), (14, .val true (CV.frzRow (Net.row x0))), (4, .val false [.lit (.int .i64 y1)]), (5, .adr (.box 5) [(0, 0)] 4 0), (13, .val true (Link.row v5)), (12, .fad ((Link.row v5))), (11, .val false [.lit (.int .i64 y1)]), (10, .val false [.lit (.bool true)]), (9, .val false [.lit (.int .i64 y1)]), (8, .val false [.lit (.int .i64 (x0.Links.length : Int))]), (7, .val false [.sl false 4 (CV.frzEs (x0.Links.map Link.row))]), (3, .val false [.sl true 1 (y2.map intRow)]), (2, .val false [.sl true 1 (([] : List Int).map intRow)]), (1, .adr (.box 1) [(0, 0)] 3 0)], [(5, (Link.row v5)), (1, (CV.frzRow (Net.row x0)))]⟩ (by kernel_rfl) ?_
          cases h2 : y6
          · have H := bifF h2 H
            refine Tr.cond (b := false) (by kernel_rfl) (fun h => nomatch h) (fun _ => ?_)
            refine Tr.skip ?_
            show Tr _ _ _ _ _
            refine Tr.at ?_
            refine LAt.runU tOk 2 (by kernel_rfl) ?_
            refine LAt.doneU [9, 37, 32, 25, 24, 17, 16, 15, 14, 4, 5, 13, 12, 11, 10, 8, 7, 3, 2, 1] [5, 1] (by kernel_rfl) ?_
            exact Exists.intro (mo4, ((IntKind.wrap .i64 (y1 + 1)), y2)) (And.intro H (And.intro (Nat.lt_succ_self mo4) (St.sub_of [9, 8, 7, 3, 2, 1] [1] (by kernel_rfl))))
          · have H := bifT h2 H
            refine Tr.cond (b := true) (by kernel_rfl) (fun _ => ?_) (fun h => nomatch h)
            refine Tr.at ?_
            refine LAt.runU tOk 3 (by kernel_rfl) ?_
            obtain ⟨hg11, H⟩ := guard_some H
            refine LAt.appMU tOk (t := 27) (ty := 27) (e := 3) (x := (.tmp 33)) (y := (.tmp 35)) (d := 36) (g := none) ⟨.int .i64, 1, 8, [.lit (.int .i64 0)]⟩ intRow y2 [y1] (by kernel_rfl) (by kernel_rfl) (by kernel_rfl) (by kernel_rfl) (by kernel_rfl) (by kernel_rfl) (by kernel_rfl) (by kernel_rfl) (by kernel_rfl) (by kernel_rfl) hg11 ?_
            refine LAt.moveU (T := lk tab) (ty := 27) (x := (.tmp 36)) (d := 3) (g := none) false [.sl true 1 ((y2 ++ [y1]).map intRow)] (by kernel_rfl) (by kernel_rfl) (by kernel_rfl) (by kernel_rfl) (by kernel_rfl) ?_
            refine LAt.doneU [3, 34, 32, 25, 24, 17, 16, 15, 14, 4, 5, 13, 12, 11, 10, 9, 8, 7, 2, 1] [5, 1] (by kernel_rfl) ?_
            show Tr _ _ _ _ _
            refine Tr.at ?_
            refine LAt.runU tOk 2 (by kernel_rfl) ?_
            refine LAt.doneU [9, 37, 3, 34, 32, 25, 24, 17, 16, 15, 14, 4, 5, 13, 12, 11, 10, 8, 7, 2, 1] [5, 1] (by kernel_rfl) ?_
            exact Exists.intro (mo4, ((IntKind.wrap .i64 (y1 + 1)), (y2 ++ [y1]))) (And.intro H (And.intro (Nat.lt_succ_self mo4) (St.sub_of [9, 8, 7, 3, 2, 1] [1] (by kernel_rfl))))
  · rintro y3 H
    have H : (impl_Live_J1 n y3) = some r := H
    unfold impl_Live_J1 at H
    show Tr _ _ _ _ _
    refine Tr.rs ?_
    refine LAt.runU tOk 2 (by kernel_rfl) ?_
    refine LAt.doneU [2, 3] [] (by kernel_rfl) ?_
    refine Tr.ret ?_
    have H := Option.some.inj H
    subst H
    exact Fin.of _ [(false, [.sl true 1 (y3.map intRow)])] (by kernel_rfl) rfl rfl

def laws_eqIntS_J1 (n : Nat) : Option (Bool) :=
  (some true)
def laws_eqIntS_L2 (n : Nat) : Nat → (List Int) → (List Int) → Int → Option ((Unit) ⊕ (Bool))
  | 0, _, _, _ => none
  | mo2 + 1, x0, x1, y1 => (bif (decide (y1 < (x0.length : Int))) then ((idx x0 y1).bind fun v3 => ((idx x1 y1).bind fun v4 => (bif (v3 != v4) then (some (Sum.inr false)) else (laws_eqIntS_L2 n mo2 x0 x1 (IntKind.wrap .i64 (y1 + 1)))))) else (some (Sum.inl ())))
def laws_eqIntSF (n : Nat) (x0 : (List Int)) (x1 : (List Int)) : Option (Bool) :=
  (bif ((x0.length : Int) != (x1.length : Int)) then (some false) else ((laws_eqIntS_L2 n n x0 x1 0).bind fun o => match o with | .inl _ => (laws_eqIntS_J1 n) | .inr r => some r))
/-- loop.example/g00326/laws.eqIntS -/
theorem laws_eqIntS (n : Nat) (x0 : (List Int)) (x1 : (List Int)) (r : Bool) (H : laws_eqIntSF n x0 x1 = some r) : LCall Try.prog 21 [.val false [.sl false 1 (CV.frzEs (x0.map intRow))], .val false [.sl false 1 (CV.frzEs (x1.map intRow))]] [.val false [.lit (.bool r)]] [] := by
  refine LCall.of_body tOk Try.func21 rfl (c := (.seq (.region 0 (rg Try.f21 0) false) (.seq (.seq (.region 1 (rg Try.f21 1) false) (.cond (.tmp 10) (.seq (.region 2 (rg Try.f21 2) false) .ret) .skip)) (.seq (.seq (.region 3 (rg Try.f21 3) false) (.block 0 (.loop (.seq (.seq (.region 4 (rg Try.f21 4) false) (.cond (.tmp 14) .skip (.exit 0))) (.seq (.block 1 (.seq (.region 6 (rg Try.f21 6) true) (.cond (.tmp 25) (.seq (.region 7 (rg Try.f21 7) false) .ret) .skip))) (.region 5 (rg Try.f21 5) false)))))) (.seq (.region 8 (rg Try.f21 8) false) .ret))))) (by kernel_rfl) (Nat.le_of_ble_eq_true (by kernel_rfl)) 0 (rs := [.tmp 4]) rfl [] .nil [(false, [.lit (.bool r)])] [] [] fun cx => ?_
  show Tr _ _ _ ⟨26, 0, [(0, .val false [.sl false 1 (CV.frzEs (x0.map intRow))]), (1, .val false [.sl false 1 (CV.frzEs (x1.map intRow))])], []⟩ _
  unfold laws_eqIntSF at H
  refine Tr.rs ?_
  refine LAt.runU tOk 1 (by kernel_rfl) ?_
  refine LAt.doneU [4, 0, 1] [] (by kernel_rfl) ?_
  refine Tr.seq ?_
  refine Tr.rs ?_
  refine LAt.runU tOk 1 (by kernel_rfl) ?_
  refine LAt.lenE tOk (t := 27) (ty := 3) (e := 3) (x := (.tmp 6)) (d := 7) (g := none) ⟨(.slot 6), [], 0, false, 1, (CV.frzEs (x0.map intRow))⟩ (x0).length _ (by kernel_rfl) (by kernel_rfl) (by kernel_rfl) (by kernel_rfl) (by kernel_rfl) (frz_len _ _) rfl ?_
  refine LAt.runU tOk 1 (by kernel_rfl) ?_
  refine LAt.lenE tOk (t := 27) (ty := 3) (e := 3) (x := (.tmp 8)) (d := 9) (g := none) ⟨(.slot 8), [], 0, false, 1, (CV.frzEs (x1.map intRow))⟩ (x1).length _ (by kernel_rfl) (by kernel_rfl) (by kernel_rfl) (by kernel_rfl) (by kernel_rfl) (frz_len _ _) rfl ?_
  refine LAt.runU tOk 1 (by kernel_rfl) ?_
  refine LAt.doneU [10, 4, 0, 1] [] (by kernel_rfl) ?_
  refine Tr.to ⟨26, 0, [(10, .val false [.lit (.bool ((x0.length : Int) != (x1.length : Int)))]), (4, .val false [.lit (.bool false)]), (0, .val false [.sl false 1 (CV.frzEs (x0.map intRow))]), (1, .val false [.sl false 1 (CV.frzEs (x1.map intRow))])], []⟩ (by kernel_rfl) ?_
  cases h1 : ((x0.length : Int) != (x1.length : Int))
  · have H := bifF h1 H
    refine Tr.cond (b := false) (by kernel_rfl) (fun h => nomatch h) (fun _ => ?_)
    refine Tr.skip ?_
    show Tr _ _ _ _ _
    refine Tr.seq ?_
    refine Tr.rs ?_
    refine LAt.runU tOk 1 (by kernel_rfl) ?_
    refine LAt.doneU [5, 4, 0, 1] [] (by kernel_rfl) ?_
    obtain ⟨o2, eo2, Ho2⟩ := bind_some H
    clear H
    refine Tr.mid (ι := Unit) (fun v => ⟨26, 0, [(4, .val false [.lit (.bool false)])], []⟩) (fun v => laws_eqIntS_J1 n = some r) ?_ ?_
    · refine Tr.block ?_
      refine Tr.loop (ι := Nat × (Int)) (fun v => ⟨26, 0, [(5, .val false [.lit (.int .i64 v.2)]), (4, .val false [.lit (.bool false)]), (0, .val false [.sl false 1 (CV.frzEs (x0.map intRow))]), (1, .val false [.sl false 1 (CV.frzEs (x1.map intRow))])], []⟩) (fun v => laws_eqIntS_L2 n v.1 x0 x1 v.2 = some o2) (fun v => v.1) (n, 0) eo2 (St.sub_of [5, 4, 0, 1] [] (by kernel_rfl)) ?_
      rintro ⟨mo2, y1⟩ H
      have H : laws_eqIntS_L2 n mo2 x0 x1 y1 = some o2 := H
      obtain _ | mo2 := mo2
      · cases (show (none : Option _) = some o2 from H)
      · rw [laws_eqIntS_L2] at H
        refine Tr.seq ?_
        refine Tr.rs ?_
        refine LAt.runU tOk 2 (by kernel_rfl) ?_
        refine LAt.lenE tOk (t := 27) (ty := 3) (e := 3) (x := (.tmp 12)) (d := 13) (g := none) ⟨(.slot 12), [], 0, false, 1, (CV.frzEs (x0.map intRow))⟩ (x0).length _ (by kernel_rfl) (by kernel_rfl) (by kernel_rfl) (by kernel_rfl) (by kernel_rfl) (frz_len _ _) rfl ?_
        refine LAt.runU tOk 1 (by kernel_rfl) ?_
        refine LAt.doneU [14, 13, 12, 11, 5, 4, 0, 1] [] (by kernel_rfl) ?_
        refine Tr.to ⟨26, 0, [(14, .val false [.lit (.bool (decide (y1 < (x0.length : Int))))]), (13, .val false [.lit (.int .i64 (x0.length : Int))]), (12, .val false [.sl false 1 (CV.frzEs (x0.map intRow))]), (11, .val false [.lit (.int .i64 y1)]), (5, .val false [.lit (.int .i64 y1)]), (4, .val false [.lit (.bool false)]), (0, .val false [.sl false 1 (CV.frzEs (x0.map intRow))]), (1, .val false [.sl false 1 (CV.frzEs (x1.map intRow))])], []⟩ (by kernel_rfl) ?_
        cases h2 : (decide (y1 < (x0.length : Int)))
        · have H := bifF h2 H
          refine Tr.cond (b := false) (by kernel_rfl) (fun h => nomatch h) (fun _ => ?_)
          refine Tr.exit ?_
          refine And.intro (fun _ => ?_) (fun h => absurd rfl h)
          have H := Option.some.inj H
          subst H
          have H := Ho2
          dsimp only at H
          exact Exists.intro () (And.intro H (St.sub_of [4] [] (by kernel_rfl)))
        · have H := bifT h2 H
          refine Tr.cond (b := true) (by kernel_rfl) (fun _ => ?_) (fun h => nomatch h)
          refine Tr.skip ?_
          show Tr _ _ _ _ _
          refine Tr.seq ?_
          refine Tr.block ?_
          obtain ⟨v3, ev3, H⟩ := bind_some H
          obtain ⟨v4, ev4, H⟩ := bind_some H
          refine Tr.draws mixed 9 (by kernel_rfl) ⟨26, 0, [(25, .val false [.lit (.bool (v3 != v4))]), (24, .val false [.lit (.int .i64 v4)]), (23, .fad ([.lit (.int .i64 v4)])), (22, .val false [.lit (.int .i64 y1)]), (21, .val false [.sl false 1 (CV.frzEs (x1.map intRow))]), (20, .val false [.lit (.int .i64 v3)]), (19, .fad ([.lit (.int .i64 v3)])), (18, .val false [.lit (.int .i64 y1)]), (17, .val false [.sl false 1 (CV.frzEs (x0.map intRow))]), (14, .val false [.lit (.bool true)]), (13, .val false [.lit (.int .i64 (x0.length : Int))]), (12, .val false [.sl false 1 (CV.frzEs (x0.map intRow))]), (11, .val false [.lit (.int .i64 y1)]), (5, .val false [.lit (.int .i64 y1)]), (4, .val false [.lit (.bool false)]), (0, .val false [.sl false 1 (CV.frzEs (x0.map intRow))]), (1, .val false [.sl false 1 (CV.frzEs (x1.map intRow))])], []⟩ (fun cx => ?_) ?_
          · refine AT.runU tOk [(0, []), (1, [])] 7 [] [1, 0] rfl (by kernel_rfl) (fun cx => ?_)
            refine AT.indexF tOk 2 (t := 27) (ty := 0) (x := (.tmp 17)) (y := (.tmp 18)) (d := 19) (g := none) ⟨(.slot 17), [], 0, false, 1, (CV.frzEs (x0.map intRow))⟩ y1 [.lit (.int .i64 v3)] _ (by kernel_rfl) (by kernel_rfl) (by kernel_rfl) (by kernel_rfl) (by kernel_rfl) (by kernel_rfl) rfl (idx_isF ev3) rfl (fun cx => ?_)
            refine AT.runU tOk [(3, []), (4, []), (5, [])] 3 [] [5, 4, 3, 2, 1, 0] rfl (by kernel_rfl) (fun cx => ?_)
            refine AT.indexF tOk 6 (t := 27) (ty := 0) (x := (.tmp 21)) (y := (.tmp 22)) (d := 23) (g := none) ⟨(.slot 21), [], 0, false, 1, (CV.frzEs (x1.map intRow))⟩ y1 [.lit (.int .i64 v4)] _ (by kernel_rfl) (by kernel_rfl) (by kernel_rfl) (by kernel_rfl) (by kernel_rfl) (by kernel_rfl) rfl (idx_isF ev4) rfl (fun cx => ?_)
            refine AT.runU tOk [(7, []), (8, [])] 0 [] [8, 7, 6, 5, 4, 3, 2, 1, 0] rfl (by kernel_rfl) (fun cx => ?_)
            exact AT.done [25, 24, 23, 22, 21, 20, 19, 18, 17, 14, 13, 12, 11, 5, 4, 0, 1] [] _ (by kernel_rfl) (by kernel_rfl) rfl
          · refine Tr.to ⟨26, 0, [(25, .val false [.lit (.bool (v3 != v4))]), (24, .val false [.lit (.int .i64 v4)]), (23, .fad ([.lit (.int .i64 v4)])), (22, .val false [.lit (.int .i64 y1)]), (21, .val false [.sl false 1 (CV.frzEs (x1.map intRow))]), (20, .val false [.lit (.int .i64 v3)]), (19, .fad ([.lit (.int .i64 v3)])), (18, .val false [.lit (.int .i64 y1)]), (17, .val false [.sl false 1 (CV.frzEs (x0.map intRow))]), (14, .val false [.lit (.bool true)]), (13, .val false [.lit (.int .i64 (x0.length : Int))]), (12, .val false [.sl false 1 (CV.frzEs (x0.map intRow))]), (11, .val false [.lit (.int .i64 y1)]), (5, .val false [.lit (.int .i64 y1)]), (4, .val false [.lit (.bool false)]), (0, .val false [.sl false 1 (CV.frzEs (x0.map intRow))]), (1, .val false [.sl false 1 (CV.frzEs (x1.map intRow))])], []⟩ (by kernel_rfl) ?_
            cases h3 : (v3 != v4)
            · have H := bifF h3 H
              refine Tr.cond (b := false) (by kernel_rfl) (fun h => nomatch h) (fun _ => ?_)
              refine Tr.skip ?_
              show Tr _ _ _ _ _
              refine Tr.at ?_
              refine LAt.runU tOk 3 (by kernel_rfl) ?_
              refine LAt.doneU [5, 16, 15, 25, 24, 23, 22, 21, 20, 19, 18, 17, 14, 13, 12, 11, 4, 0, 1] [] (by kernel_rfl) ?_
              exact Exists.intro (mo2, (IntKind.wrap .i64 (y1 + 1))) (And.intro H (And.intro (Nat.lt_succ_self mo2) (St.sub_of [5, 4, 0, 1] [] (by kernel_rfl))))
            · have H := bifT h3 H
              refine Tr.cond (b := true) (by kernel_rfl) (fun _ => ?_) (fun h => nomatch h)
              refine Tr.rs ?_
              refine LAt.runU tOk 1 (by kernel_rfl) ?_
              refine LAt.doneU [4, 25, 24, 23, 22, 21, 20, 19, 18, 17, 14, 13, 12, 11, 5, 0, 1] [] (by kernel_rfl) ?_
              refine Tr.ret ?_
              have H := Option.some.inj H
              subst H
              have H := Ho2
              dsimp only at H
              have H := Option.some.inj H
              subst H
              exact Fin.of _ [(false, [.lit (.bool false)])] (by kernel_rfl) rfl rfl
    · rintro _ H
      have H : (laws_eqIntS_J1 n) = some r := H
      unfold laws_eqIntS_J1 at H
      show Tr _ _ _ _ _
      refine Tr.rs ?_
      refine LAt.runU tOk 1 (by kernel_rfl) ?_
      refine LAt.doneU [4] [] (by kernel_rfl) ?_
      refine Tr.ret ?_
      have H := Option.some.inj H
      subst H
      exact Fin.of _ [(false, [.lit (.bool true)])] (by kernel_rfl) rfl rfl
  · have H := bifT h1 H
    refine Tr.cond (b := true) (by kernel_rfl) (fun _ => ?_) (fun h => nomatch h)
    refine Tr.rs ?_
    refine LAt.runU tOk 1 (by kernel_rfl) ?_
    refine LAt.doneU [4, 0, 1] [] (by kernel_rfl) ?_
    refine Tr.ret ?_
    have H := Option.some.inj H
    subst H
    exact Fin.of _ [(false, [.lit (.bool false)])] (by kernel_rfl) rfl rfl

def laws_eqVecF (n : Nat) (x0 : Vec) (x1 : Vec) : Option (Bool) :=
  (bif (x0.Root != x1.Root) then (some false) else (bif (x0.Cost != x1.Cost) then (some false) else (bif (x0.Hops != x1.Hops) then (some false) else (bif (x0.Bridge != x1.Bridge) then (some false) else (bif (x0.Port != x1.Port) then (some false) else (some true))))))
/-- loop.example/g00326/laws.eqVec -/
theorem laws_eqVec (n : Nat) (x0 : Vec) (x1 : Vec) (r : Bool) (H : laws_eqVecF n x0 x1 = some r) : LCall Try.prog 173 [.val true (CV.frzRow (Vec.row x0)), .val true (CV.frzRow (Vec.row x1))] [.val false [.lit (.bool r)]] [] := by
  refine LCall.of_body tOk Try.func173 rfl (c := (.seq (.region 0 (rg Try.f173 0) false) (.seq (.seq (.region 1 (rg Try.f173 1) false) (.cond (.tmp 9) (.seq (.region 2 (rg Try.f173 2) false) .ret) .skip)) (.seq (.seq (.region 3 (rg Try.f173 3) false) (.cond (.tmp 14) (.seq (.region 4 (rg Try.f173 4) false) .ret) .skip)) (.seq (.seq (.region 5 (rg Try.f173 5) false) (.cond (.tmp 19) (.seq (.region 6 (rg Try.f173 6) false) .ret) .skip)) (.seq (.seq (.region 7 (rg Try.f173 7) false) (.cond (.tmp 24) (.seq (.region 8 (rg Try.f173 8) false) .ret) .skip)) (.seq (.seq (.region 9 (rg Try.f173 9) false) (.cond (.tmp 29) (.seq (.region 10 (rg Try.f173 10) false) .ret) .skip)) (.seq (.region 11 (rg Try.f173 11) false) .ret)))))))) (by kernel_rfl) (Nat.le_of_ble_eq_true (by kernel_rfl)) 0 (rs := [.tmp 4]) rfl [] .nil [(false, [.lit (.bool r)])] [] [] fun cx => ?_
  show Tr _ _ _ ⟨30, 0, [(0, .val true (Vec.row x0)), (1, .val true (Vec.row x1))], []⟩ _
  unfold laws_eqVecF at H
  refine Tr.rs ?_
  refine LAt.runU tOk 3 (by kernel_rfl) ?_
  refine LAt.doneU [4, 3, 2] [3, 2] (by kernel_rfl) ?_
  refine Tr.seq ?_
  refine Tr.rs ?_
  refine LAt.runU tOk 5 (by kernel_rfl) ?_
  refine LAt.doneU [9, 4, 3, 2] [3, 2] (by kernel_rfl) ?_
  refine Tr.to ⟨30, 0, [(9, .val false [.lit (.bool (x0.Root != x1.Root))]), (4, .val false [.lit (.bool false)]), (3, .adr (.box 3) [(0, 0)] 5 0), (2, .adr (.box 2) [(0, 0)] 5 0)], [(3, (Vec.row x1)), (2, (Vec.row x0))]⟩ (by kernel_rfl) ?_
  cases h1 : (x0.Root != x1.Root)
  · have H := bifF h1 H
    refine Tr.cond (b := false) (by kernel_rfl) (fun h => nomatch h) (fun _ => ?_)
    refine Tr.skip ?_
    show Tr _ _ _ _ _
    refine Tr.seq ?_
    refine Tr.rs ?_
    refine LAt.runU tOk 5 (by kernel_rfl) ?_
    refine LAt.doneU [14, 4, 3, 2] [3, 2] (by kernel_rfl) ?_
    refine Tr.to ⟨30, 0, [(14, .val false [.lit (.bool (x0.Cost != x1.Cost))]), (4, .val false [.lit (.bool false)]), (3, .adr (.box 3) [(0, 0)] 5 0), (2, .adr (.box 2) [(0, 0)] 5 0)], [(3, (Vec.row x1)), (2, (Vec.row x0))]⟩ (by kernel_rfl) ?_
    cases h2 : (x0.Cost != x1.Cost)
    · have H := bifF h2 H
      refine Tr.cond (b := false) (by kernel_rfl) (fun h => nomatch h) (fun _ => ?_)
      refine Tr.skip ?_
      show Tr _ _ _ _ _
      refine Tr.seq ?_
      refine Tr.rs ?_
      refine LAt.runU tOk 5 (by kernel_rfl) ?_
      refine LAt.doneU [19, 4, 3, 2] [3, 2] (by kernel_rfl) ?_
      refine Tr.to ⟨30, 0, [(19, .val false [.lit (.bool (x0.Hops != x1.Hops))]), (4, .val false [.lit (.bool false)]), (3, .adr (.box 3) [(0, 0)] 5 0), (2, .adr (.box 2) [(0, 0)] 5 0)], [(3, (Vec.row x1)), (2, (Vec.row x0))]⟩ (by kernel_rfl) ?_
      cases h3 : (x0.Hops != x1.Hops)
      · have H := bifF h3 H
        refine Tr.cond (b := false) (by kernel_rfl) (fun h => nomatch h) (fun _ => ?_)
        refine Tr.skip ?_
        show Tr _ _ _ _ _
        refine Tr.seq ?_
        refine Tr.rs ?_
        refine LAt.runU tOk 5 (by kernel_rfl) ?_
        refine LAt.doneU [24, 4, 3, 2] [3, 2] (by kernel_rfl) ?_
        refine Tr.to ⟨30, 0, [(24, .val false [.lit (.bool (x0.Bridge != x1.Bridge))]), (4, .val false [.lit (.bool false)]), (3, .adr (.box 3) [(0, 0)] 5 0), (2, .adr (.box 2) [(0, 0)] 5 0)], [(3, (Vec.row x1)), (2, (Vec.row x0))]⟩ (by kernel_rfl) ?_
        cases h4 : (x0.Bridge != x1.Bridge)
        · have H := bifF h4 H
          refine Tr.cond (b := false) (by kernel_rfl) (fun h => nomatch h) (fun _ => ?_)
          refine Tr.skip ?_
          show Tr _ _ _ _ _
          refine Tr.seq ?_
          refine Tr.rs ?_
          refine LAt.runU tOk 5 (by kernel_rfl) ?_
          refine LAt.doneU [29, 4] [] (by kernel_rfl) ?_
          refine Tr.to ⟨30, 0, [(29, .val false [.lit (.bool (x0.Port != x1.Port))]), (4, .val false [.lit (.bool false)])], []⟩ (by kernel_rfl) ?_
          cases h5 : (x0.Port != x1.Port)
          · have H := bifF h5 H
            refine Tr.cond (b := false) (by kernel_rfl) (fun h => nomatch h) (fun _ => ?_)
            refine Tr.skip ?_
            show Tr _ _ _ _ _
            refine Tr.rs ?_
            refine LAt.runU tOk 1 (by kernel_rfl) ?_
            refine LAt.doneU [4] [] (by kernel_rfl) ?_
            refine Tr.ret ?_
            have H := Option.some.inj H
            subst H
            exact Fin.of _ [(false, [.lit (.bool true)])] (by kernel_rfl) rfl rfl
          · have H := bifT h5 H
            refine Tr.cond (b := true) (by kernel_rfl) (fun _ => ?_) (fun h => nomatch h)
            refine Tr.rs ?_
            refine LAt.runU tOk 1 (by kernel_rfl) ?_
            refine LAt.doneU [4] [] (by kernel_rfl) ?_
            refine Tr.ret ?_
            have H := Option.some.inj H
            subst H
            exact Fin.of _ [(false, [.lit (.bool false)])] (by kernel_rfl) rfl rfl
        · have H := bifT h4 H
          refine Tr.cond (b := true) (by kernel_rfl) (fun _ => ?_) (fun h => nomatch h)
          refine Tr.rs ?_
          refine LAt.runU tOk 1 (by kernel_rfl) ?_
          refine LAt.doneU [4, 3, 2] [3, 2] (by kernel_rfl) ?_
          refine Tr.ret ?_
          have H := Option.some.inj H
          subst H
          exact Fin.of _ [(false, [.lit (.bool false)])] (by kernel_rfl) rfl rfl
      · have H := bifT h3 H
        refine Tr.cond (b := true) (by kernel_rfl) (fun _ => ?_) (fun h => nomatch h)
        refine Tr.rs ?_
        refine LAt.runU tOk 1 (by kernel_rfl) ?_
        refine LAt.doneU [4, 3, 2] [3, 2] (by kernel_rfl) ?_
        refine Tr.ret ?_
        have H := Option.some.inj H
        subst H
        exact Fin.of _ [(false, [.lit (.bool false)])] (by kernel_rfl) rfl rfl
    · have H := bifT h2 H
      refine Tr.cond (b := true) (by kernel_rfl) (fun _ => ?_) (fun h => nomatch h)
      refine Tr.rs ?_
      refine LAt.runU tOk 1 (by kernel_rfl) ?_
      refine LAt.doneU [4, 3, 2] [3, 2] (by kernel_rfl) ?_
      refine Tr.ret ?_
      have H := Option.some.inj H
      subst H
      exact Fin.of _ [(false, [.lit (.bool false)])] (by kernel_rfl) rfl rfl
  · have H := bifT h1 H
    refine Tr.cond (b := true) (by kernel_rfl) (fun _ => ?_) (fun h => nomatch h)
    refine Tr.rs ?_
    refine LAt.runU tOk 1 (by kernel_rfl) ?_
    refine LAt.doneU [4, 3, 2] [3, 2] (by kernel_rfl) ?_
    refine Tr.ret ?_
    have H := Option.some.inj H
    subst H
    exact Fin.of _ [(false, [.lit (.bool false)])] (by kernel_rfl) rfl rfl

def laws_eqPtF (n : Nat) (x0 : Pt) (x1 : Pt) : Option (Bool) :=
  (bif (!(x0.Up == x1.Up)) then (some false) else (bif (x0.Cost != x1.Cost) then (some false) else (bif (!(x0.Has == x1.Has)) then (some false) else ((laws_eqVecF n x0.Heard x1.Heard).bind fun r1 => (bif (!r1) then (some false) else (some true))))))
/-- loop.example/g00326/laws.eqPt -/
theorem laws_eqPt (n : Nat) (x0 : Pt) (x1 : Pt) (r : Bool) (H : laws_eqPtF n x0 x1 = some r) : LCall Try.prog 161 [.val true (CV.frzRow (Pt.row x0)), .val true (CV.frzRow (Pt.row x1))] [.val false [.lit (.bool r)]] [] := by
  refine LCall.of_body tOk Try.func161 rfl (c := (.seq (.region 0 (rg Try.f161 0) false) (.seq (.seq (.region 1 (rg Try.f161 1) false) (.cond (.tmp 9) (.seq (.region 2 (rg Try.f161 2) false) .ret) .skip)) (.seq (.seq (.region 3 (rg Try.f161 3) false) (.cond (.tmp 14) (.seq (.region 4 (rg Try.f161 4) false) .ret) .skip)) (.seq (.seq (.region 5 (rg Try.f161 5) false) (.cond (.tmp 19) (.seq (.region 6 (rg Try.f161 6) false) .ret) .skip)) (.seq (.seq (.region 7 (rg Try.f161 7) false) (.cond (.tmp 25) (.seq (.region 8 (rg Try.f161 8) false) .ret) .skip)) (.seq (.region 9 (rg Try.f161 9) false) .ret))))))) (by kernel_rfl) (Nat.le_of_ble_eq_true (by kernel_rfl)) 0 (rs := [.tmp 4]) rfl [] .nil [(false, [.lit (.bool r)])] [] [] fun cx => ?_
  show Tr _ _ _ ⟨26, 0, [(0, .val true (Pt.row x0)), (1, .val true (Pt.row x1))], []⟩ _
  unfold laws_eqPtF at H
  refine Tr.rs ?_
  refine LAt.runU tOk 3 (by kernel_rfl) ?_
  refine LAt.doneU [4, 3, 2] [3, 2] (by kernel_rfl) ?_
  refine Tr.seq ?_
  refine Tr.rs ?_
  refine LAt.runU tOk 5 (by kernel_rfl) ?_
  refine LAt.doneU [9, 4, 3, 2] [3, 2] (by kernel_rfl) ?_
  refine Tr.to ⟨26, 0, [(9, .val false [.lit (.bool (!(x0.Up == x1.Up)))]), (4, .val false [.lit (.bool false)]), (3, .adr (.box 3) [(0, 0)] 8 0), (2, .adr (.box 2) [(0, 0)] 8 0)], [(3, (Pt.row x1)), (2, (Pt.row x0))]⟩ (by kernel_rfl) ?_
  cases h1 : (!(x0.Up == x1.Up))
  · have H := bifF h1 H
    refine Tr.cond (b := false) (by kernel_rfl) (fun h => nomatch h) (fun _ => ?_)
    refine Tr.skip ?_
    show Tr _ _ _ _ _
    refine Tr.seq ?_
    refine Tr.rs ?_
    refine LAt.runU tOk 5 (by kernel_rfl) ?_
    refine LAt.doneU [14, 4, 3, 2] [3, 2] (by kernel_rfl) ?_
    refine Tr.to ⟨26, 0, [(14, .val false [.lit (.bool (x0.Cost != x1.Cost))]), (4, .val false [.lit (.bool false)]), (3, .adr (.box 3) [(0, 0)] 8 0), (2, .adr (.box 2) [(0, 0)] 8 0)], [(3, (Pt.row x1)), (2, (Pt.row x0))]⟩ (by kernel_rfl) ?_
    cases h2 : (x0.Cost != x1.Cost)
    · have H := bifF h2 H
      refine Tr.cond (b := false) (by kernel_rfl) (fun h => nomatch h) (fun _ => ?_)
      refine Tr.skip ?_
      show Tr _ _ _ _ _
      refine Tr.seq ?_
      refine Tr.rs ?_
      refine LAt.runU tOk 5 (by kernel_rfl) ?_
      refine LAt.doneU [19, 4, 3, 2] [3, 2] (by kernel_rfl) ?_
      refine Tr.to ⟨26, 0, [(19, .val false [.lit (.bool (!(x0.Has == x1.Has)))]), (4, .val false [.lit (.bool false)]), (3, .adr (.box 3) [(0, 0)] 8 0), (2, .adr (.box 2) [(0, 0)] 8 0)], [(3, (Pt.row x1)), (2, (Pt.row x0))]⟩ (by kernel_rfl) ?_
      cases h3 : (!(x0.Has == x1.Has))
      · have H := bifF h3 H
        refine Tr.cond (b := false) (by kernel_rfl) (fun h => nomatch h) (fun _ => ?_)
        refine Tr.skip ?_
        show Tr _ _ _ _ _
        refine Tr.seq ?_
        refine Tr.rs ?_
        refine LAt.runU tOk 4 (by kernel_rfl) ?_
        obtain ⟨r1, er1, H⟩ := bind_some H
        refine LAt.callU tOk [.rd, .rd] (f := 173) (av := #[.tmp 21, .tmp 23]) (ats := #[70, 70]) (d := (some 24)) (ty := 4) (g := none) (by kernel_rfl) (by kernel_rfl) (by kernel_rfl) [] (laws_eqVec n x0.Heard x1.Heard r1 er1) (by kernel_rfl) (.inl rfl) ?_
        refine LAt.runU tOk 1 (by kernel_rfl) ?_
        refine LAt.doneU [25, 4] [] (by kernel_rfl) ?_
        refine Tr.to ⟨26, 0, [(25, .val false [.lit (.bool (!r1))]), (4, .val false [.lit (.bool false)])], []⟩ (by kernel_rfl) ?_
        cases h4 : (!r1)
        · have H := bifF h4 H
          refine Tr.cond (b := false) (by kernel_rfl) (fun h => nomatch h) (fun _ => ?_)
          refine Tr.skip ?_
          show Tr _ _ _ _ _
          refine Tr.rs ?_
          refine LAt.runU tOk 1 (by kernel_rfl) ?_
          refine LAt.doneU [4] [] (by kernel_rfl) ?_
          refine Tr.ret ?_
          have H := Option.some.inj H
          subst H
          exact Fin.of _ [(false, [.lit (.bool true)])] (by kernel_rfl) rfl rfl
        · have H := bifT h4 H
          refine Tr.cond (b := true) (by kernel_rfl) (fun _ => ?_) (fun h => nomatch h)
          refine Tr.rs ?_
          refine LAt.runU tOk 1 (by kernel_rfl) ?_
          refine LAt.doneU [4] [] (by kernel_rfl) ?_
          refine Tr.ret ?_
          have H := Option.some.inj H
          subst H
          exact Fin.of _ [(false, [.lit (.bool false)])] (by kernel_rfl) rfl rfl
      · have H := bifT h3 H
        refine Tr.cond (b := true) (by kernel_rfl) (fun _ => ?_) (fun h => nomatch h)
        refine Tr.rs ?_
        refine LAt.runU tOk 1 (by kernel_rfl) ?_
        refine LAt.doneU [4, 3, 2] [3, 2] (by kernel_rfl) ?_
        refine Tr.ret ?_
        have H := Option.some.inj H
        subst H
        exact Fin.of _ [(false, [.lit (.bool false)])] (by kernel_rfl) rfl rfl
    · have H := bifT h2 H
      refine Tr.cond (b := true) (by kernel_rfl) (fun _ => ?_) (fun h => nomatch h)
      refine Tr.rs ?_
      refine LAt.runU tOk 1 (by kernel_rfl) ?_
      refine LAt.doneU [4, 3, 2] [3, 2] (by kernel_rfl) ?_
      refine Tr.ret ?_
      have H := Option.some.inj H
      subst H
      exact Fin.of _ [(false, [.lit (.bool false)])] (by kernel_rfl) rfl rfl
  · have H := bifT h1 H
    refine Tr.cond (b := true) (by kernel_rfl) (fun _ => ?_) (fun h => nomatch h)
    refine Tr.rs ?_
    refine LAt.runU tOk 1 (by kernel_rfl) ?_
    refine LAt.doneU [4, 3, 2] [3, 2] (by kernel_rfl) ?_
    refine Tr.ret ?_
    have H := Option.some.inj H
    subst H
    exact Fin.of _ [(false, [.lit (.bool false)])] (by kernel_rfl) rfl rfl

def laws_eqPtS_J1 (n : Nat) : Option (Bool) :=
  (some true)
def laws_eqPtS_L2 (n : Nat) : Nat → (List Pt) → (List Pt) → Int → Option ((Unit) ⊕ (Bool))
  | 0, _, _, _ => none
  | mo2 + 1, x0, x1, y1 => (bif (decide (y1 < (x0.length : Int))) then ((idx x0 y1).bind fun v3 => ((idx x1 y1).bind fun v4 => ((laws_eqPtF n v3 v4).bind fun r5 => (bif (!r5) then (some (Sum.inr false)) else (laws_eqPtS_L2 n mo2 x0 x1 (IntKind.wrap .i64 (y1 + 1))))))) else (some (Sum.inl ())))
def laws_eqPtSF (n : Nat) (x0 : (List Pt)) (x1 : (List Pt)) : Option (Bool) :=
  (bif ((x0.length : Int) != (x1.length : Int)) then (some false) else ((laws_eqPtS_L2 n n x0 x1 0).bind fun o => match o with | .inl _ => (laws_eqPtS_J1 n) | .inr r => some r))
/-- loop.example/g00326/laws.eqPtS -/
theorem laws_eqPtS (n : Nat) (x0 : (List Pt)) (x1 : (List Pt)) (r : Bool) (H : laws_eqPtSF n x0 x1 = some r) : LCall Try.prog 106 [.val false [.sl false 8 (CV.frzEs (x0.map Pt.row))], .val false [.sl false 8 (CV.frzEs (x1.map Pt.row))]] [.val false [.lit (.bool r)]] [] := by
  refine LCall.of_body tOk Try.func106 rfl (c := (.seq (.region 0 (rg Try.f106 0) false) (.seq (.seq (.region 1 (rg Try.f106 1) false) (.cond (.tmp 10) (.seq (.region 2 (rg Try.f106 2) false) .ret) .skip)) (.seq (.seq (.region 3 (rg Try.f106 3) false) (.block 0 (.loop (.seq (.seq (.region 4 (rg Try.f106 4) false) (.cond (.tmp 14) .skip (.exit 0))) (.seq (.block 1 (.seq (.region 6 (rg Try.f106 6) true) (.cond (.tmp 26) (.seq (.region 7 (rg Try.f106 7) false) .ret) .skip))) (.region 5 (rg Try.f106 5) false)))))) (.seq (.region 8 (rg Try.f106 8) false) .ret))))) (by kernel_rfl) (Nat.le_of_ble_eq_true (by kernel_rfl)) 0 (rs := [.tmp 4]) rfl [] .nil [(false, [.lit (.bool r)])] [] [] fun cx => ?_
  show Tr _ _ _ ⟨27, 0, [(0, .val false [.sl false 8 (CV.frzEs (x0.map Pt.row))]), (1, .val false [.sl false 8 (CV.frzEs (x1.map Pt.row))])], []⟩ _
  unfold laws_eqPtSF at H
  refine Tr.rs ?_
  refine LAt.runU tOk 1 (by kernel_rfl) ?_
  refine LAt.doneU [4, 0, 1] [] (by kernel_rfl) ?_
  refine Tr.seq ?_
  refine Tr.rs ?_
  refine LAt.runU tOk 1 (by kernel_rfl) ?_
  refine LAt.lenE tOk (t := 55) (ty := 3) (e := 114) (x := (.tmp 6)) (d := 7) (g := none) ⟨(.slot 6), [], 0, false, 8, (CV.frzEs (x0.map Pt.row))⟩ (x0).length _ (by kernel_rfl) (by kernel_rfl) (by kernel_rfl) (by kernel_rfl) (by kernel_rfl) (frz_len _ _) rfl ?_
  refine LAt.runU tOk 1 (by kernel_rfl) ?_
  refine LAt.lenE tOk (t := 55) (ty := 3) (e := 114) (x := (.tmp 8)) (d := 9) (g := none) ⟨(.slot 8), [], 0, false, 8, (CV.frzEs (x1.map Pt.row))⟩ (x1).length _ (by kernel_rfl) (by kernel_rfl) (by kernel_rfl) (by kernel_rfl) (by kernel_rfl) (frz_len _ _) rfl ?_
  refine LAt.runU tOk 1 (by kernel_rfl) ?_
  refine LAt.doneU [10, 4, 0, 1] [] (by kernel_rfl) ?_
  refine Tr.to ⟨27, 0, [(10, .val false [.lit (.bool ((x0.length : Int) != (x1.length : Int)))]), (4, .val false [.lit (.bool false)]), (0, .val false [.sl false 8 (CV.frzEs (x0.map Pt.row))]), (1, .val false [.sl false 8 (CV.frzEs (x1.map Pt.row))])], []⟩ (by kernel_rfl) ?_
  cases h1 : ((x0.length : Int) != (x1.length : Int))
  · have H := bifF h1 H
    refine Tr.cond (b := false) (by kernel_rfl) (fun h => nomatch h) (fun _ => ?_)
    refine Tr.skip ?_
    show Tr _ _ _ _ _
    refine Tr.seq ?_
    refine Tr.rs ?_
    refine LAt.runU tOk 1 (by kernel_rfl) ?_
    refine LAt.doneU [5, 4, 0, 1] [] (by kernel_rfl) ?_
    obtain ⟨o2, eo2, Ho2⟩ := bind_some H
    clear H
    refine Tr.mid (ι := Unit) (fun v => ⟨27, 0, [(4, .val false [.lit (.bool false)])], []⟩) (fun v => laws_eqPtS_J1 n = some r) ?_ ?_
    · refine Tr.block ?_
      refine Tr.loop (ι := Nat × (Int)) (fun v => ⟨27, 0, [(5, .val false [.lit (.int .i64 v.2)]), (4, .val false [.lit (.bool false)]), (0, .val false [.sl false 8 (CV.frzEs (x0.map Pt.row))]), (1, .val false [.sl false 8 (CV.frzEs (x1.map Pt.row))])], []⟩) (fun v => laws_eqPtS_L2 n v.1 x0 x1 v.2 = some o2) (fun v => v.1) (n, 0) eo2 (St.sub_of [5, 4, 0, 1] [] (by kernel_rfl)) ?_
      rintro ⟨mo2, y1⟩ H
      have H : laws_eqPtS_L2 n mo2 x0 x1 y1 = some o2 := H
      obtain _ | mo2 := mo2
      · cases (show (none : Option _) = some o2 from H)
      · rw [laws_eqPtS_L2] at H
        refine Tr.seq ?_
        refine Tr.rs ?_
        refine LAt.runU tOk 2 (by kernel_rfl) ?_
        refine LAt.lenE tOk (t := 55) (ty := 3) (e := 114) (x := (.tmp 12)) (d := 13) (g := none) ⟨(.slot 12), [], 0, false, 8, (CV.frzEs (x0.map Pt.row))⟩ (x0).length _ (by kernel_rfl) (by kernel_rfl) (by kernel_rfl) (by kernel_rfl) (by kernel_rfl) (frz_len _ _) rfl ?_
        refine LAt.runU tOk 1 (by kernel_rfl) ?_
        refine LAt.doneU [14, 13, 12, 11, 5, 4, 0, 1] [] (by kernel_rfl) ?_
        refine Tr.to ⟨27, 0, [(14, .val false [.lit (.bool (decide (y1 < (x0.length : Int))))]), (13, .val false [.lit (.int .i64 (x0.length : Int))]), (12, .val false [.sl false 8 (CV.frzEs (x0.map Pt.row))]), (11, .val false [.lit (.int .i64 y1)]), (5, .val false [.lit (.int .i64 y1)]), (4, .val false [.lit (.bool false)]), (0, .val false [.sl false 8 (CV.frzEs (x0.map Pt.row))]), (1, .val false [.sl false 8 (CV.frzEs (x1.map Pt.row))])], []⟩ (by kernel_rfl) ?_
        cases h2 : (decide (y1 < (x0.length : Int)))
        · have H := bifF h2 H
          refine Tr.cond (b := false) (by kernel_rfl) (fun h => nomatch h) (fun _ => ?_)
          refine Tr.exit ?_
          refine And.intro (fun _ => ?_) (fun h => absurd rfl h)
          have H := Option.some.inj H
          subst H
          have H := Ho2
          dsimp only at H
          exact Exists.intro () (And.intro H (St.sub_of [4] [] (by kernel_rfl)))
        · have H := bifT h2 H
          refine Tr.cond (b := true) (by kernel_rfl) (fun _ => ?_) (fun h => nomatch h)
          refine Tr.skip ?_
          show Tr _ _ _ _ _
          refine Tr.seq ?_
          refine Tr.block ?_
          obtain ⟨v3, ev3, H⟩ := bind_some H
          obtain ⟨v4, ev4, H⟩ := bind_some H
          obtain ⟨r5, er5, H⟩ := bind_some H
          refine Tr.draws mixed 10 (by kernel_rfl) ⟨27, 0, [(26, .val false [.lit (.bool (!r5))]), (25, .val false [.lit (.bool r5)]), (24, .val true (Pt.row v4)), (23, .fad ((Pt.row v4))), (22, .val false [.lit (.int .i64 y1)]), (21, .val false [.sl false 8 (CV.frzEs (x1.map Pt.row))]), (20, .val true (Pt.row v3)), (19, .fad ((Pt.row v3))), (18, .val false [.lit (.int .i64 y1)]), (17, .val false [.sl false 8 (CV.frzEs (x0.map Pt.row))]), (14, .val false [.lit (.bool true)]), (13, .val false [.lit (.int .i64 (x0.length : Int))]), (12, .val false [.sl false 8 (CV.frzEs (x0.map Pt.row))]), (11, .val false [.lit (.int .i64 y1)]), (5, .val false [.lit (.int .i64 y1)]), (4, .val false [.lit (.bool false)]), (0, .val false [.sl false 8 (CV.frzEs (x0.map Pt.row))]), (1, .val false [.sl false 8 (CV.frzEs (x1.map Pt.row))])], []⟩ (fun cx => ?_) ?_
          · refine AT.runU tOk [(0, []), (1, [])] 8 [] [1, 0] rfl (by kernel_rfl) (fun cx => ?_)
            refine AT.indexF tOk 2 (t := 55) (ty := 0) (x := (.tmp 17)) (y := (.tmp 18)) (d := 19) (g := none) ⟨(.slot 17), [], 0, false, 8, (CV.frzEs (x0.map Pt.row))⟩ y1 (Pt.row v3) _ (by kernel_rfl) (by kernel_rfl) (by kernel_rfl) (by kernel_rfl) (by kernel_rfl) (by kernel_rfl) rfl (idx_isF ev3) rfl (fun cx => ?_)
            refine AT.runU tOk [(3, []), (4, []), (5, [])] 4 [] [5, 4, 3, 2, 1, 0] rfl (by kernel_rfl) (fun cx => ?_)
            refine AT.indexF tOk 6 (t := 55) (ty := 0) (x := (.tmp 21)) (y := (.tmp 22)) (d := 23) (g := none) ⟨(.slot 21), [], 0, false, 8, (CV.frzEs (x1.map Pt.row))⟩ y1 (Pt.row v4) _ (by kernel_rfl) (by kernel_rfl) (by kernel_rfl) (by kernel_rfl) (by kernel_rfl) (by kernel_rfl) rfl (idx_isF ev4) rfl (fun cx => ?_)
            refine AT.runU tOk [(7, [])] 2 [] [7, 6, 5, 4, 3, 2, 1, 0] rfl (by kernel_rfl) (fun cx => ?_)
            refine AT.big1 tOk 8 (by kernel_rfl) (by kernel_rfl) ?_
            refine LAt.callU tOk [.rd, .rd] (f := 161) (av := #[.tmp 20, .tmp 24]) (ats := #[114, 114]) (d := (some 25)) (ty := 4) (g := none) (by kernel_rfl) (by kernel_rfl) (by kernel_rfl) [] (laws_eqPt n v3 v4 r5 er5) (by kernel_rfl) (.inl rfl) ?_
            refine LAt.fin (by kernel_rfl) (And.intro (And.intro (by kernel_rfl) (by kernel_rfl)) ?_)
            refine AT.runU tOk [(9, [])] 0 [] [9, 8, 7, 6, 5, 4, 3, 2, 1, 0] rfl (by kernel_rfl) (fun cx => ?_)
            exact AT.done [26, 25, 24, 23, 22, 21, 20, 19, 18, 17, 14, 13, 12, 11, 5, 4, 0, 1] [] _ (by kernel_rfl) (by kernel_rfl) rfl
          · refine Tr.to ⟨27, 0, [(26, .val false [.lit (.bool (!r5))]), (25, .val false [.lit (.bool r5)]), (24, .val true (Pt.row v4)), (23, .fad ((Pt.row v4))), (22, .val false [.lit (.int .i64 y1)]), (21, .val false [.sl false 8 (CV.frzEs (x1.map Pt.row))]), (20, .val true (Pt.row v3)), (19, .fad ((Pt.row v3))), (18, .val false [.lit (.int .i64 y1)]), (17, .val false [.sl false 8 (CV.frzEs (x0.map Pt.row))]), (14, .val false [.lit (.bool true)]), (13, .val false [.lit (.int .i64 (x0.length : Int))]), (12, .val false [.sl false 8 (CV.frzEs (x0.map Pt.row))]), (11, .val false [.lit (.int .i64 y1)]), (5, .val false [.lit (.int .i64 y1)]), (4, .val false [.lit (.bool false)]), (0, .val false [.sl false 8 (CV.frzEs (x0.map Pt.row))]), (1, .val false [.sl false 8 (CV.frzEs (x1.map Pt.row))])], []⟩ (by kernel_rfl) ?_
            cases h3 : (!r5)
            · have H := bifF h3 H
              refine Tr.cond (b := false) (by kernel_rfl) (fun h => nomatch h) (fun _ => ?_)
              refine Tr.skip ?_
              show Tr _ _ _ _ _
              refine Tr.at ?_
              refine LAt.runU tOk 3 (by kernel_rfl) ?_
              refine LAt.doneU [5, 16, 15, 26, 25, 24, 23, 22, 21, 20, 19, 18, 17, 14, 13, 12, 11, 4, 0, 1] [] (by kernel_rfl) ?_
              exact Exists.intro (mo2, (IntKind.wrap .i64 (y1 + 1))) (And.intro H (And.intro (Nat.lt_succ_self mo2) (St.sub_of [5, 4, 0, 1] [] (by kernel_rfl))))
            · have H := bifT h3 H
              refine Tr.cond (b := true) (by kernel_rfl) (fun _ => ?_) (fun h => nomatch h)
              refine Tr.rs ?_
              refine LAt.runU tOk 1 (by kernel_rfl) ?_
              refine LAt.doneU [4, 26, 25, 24, 23, 22, 21, 20, 19, 18, 17, 14, 13, 12, 11, 5, 0, 1] [] (by kernel_rfl) ?_
              refine Tr.ret ?_
              have H := Option.some.inj H
              subst H
              have H := Ho2
              dsimp only at H
              have H := Option.some.inj H
              subst H
              exact Fin.of _ [(false, [.lit (.bool false)])] (by kernel_rfl) rfl rfl
    · rintro _ H
      have H : (laws_eqPtS_J1 n) = some r := H
      unfold laws_eqPtS_J1 at H
      show Tr _ _ _ _ _
      refine Tr.rs ?_
      refine LAt.runU tOk 1 (by kernel_rfl) ?_
      refine LAt.doneU [4] [] (by kernel_rfl) ?_
      refine Tr.ret ?_
      have H := Option.some.inj H
      subst H
      exact Fin.of _ [(false, [.lit (.bool true)])] (by kernel_rfl) rfl rfl
  · have H := bifT h1 H
    refine Tr.cond (b := true) (by kernel_rfl) (fun _ => ?_) (fun h => nomatch h)
    refine Tr.rs ?_
    refine LAt.runU tOk 1 (by kernel_rfl) ?_
    refine LAt.doneU [4, 0, 1] [] (by kernel_rfl) ?_
    refine Tr.ret ?_
    have H := Option.some.inj H
    subst H
    exact Fin.of _ [(false, [.lit (.bool false)])] (by kernel_rfl) rfl rfl

def laws_eqFentF (n : Nat) (x0 : Fent) (x1 : Fent) : Option (Bool) :=
  (bif (x0.Tag != x1.Tag) then (some false) else (bif (x0.Mac != x1.Mac) then (some false) else (bif (x0.Port != x1.Port) then (some false) else (bif (x0.Age != x1.Age) then (some false) else (bif (!(x0.Static == x1.Static)) then (some false) else (some true))))))
/-- loop.example/g00326/laws.eqFent -/
theorem laws_eqFent (n : Nat) (x0 : Fent) (x1 : Fent) (r : Bool) (H : laws_eqFentF n x0 x1 = some r) : LCall Try.prog 162 [.val true (CV.frzRow (Fent.row x0)), .val true (CV.frzRow (Fent.row x1))] [.val false [.lit (.bool r)]] [] := by
  refine LCall.of_body tOk Try.func162 rfl (c := (.seq (.region 0 (rg Try.f162 0) false) (.seq (.seq (.region 1 (rg Try.f162 1) false) (.cond (.tmp 9) (.seq (.region 2 (rg Try.f162 2) false) .ret) .skip)) (.seq (.seq (.region 3 (rg Try.f162 3) false) (.cond (.tmp 14) (.seq (.region 4 (rg Try.f162 4) false) .ret) .skip)) (.seq (.seq (.region 5 (rg Try.f162 5) false) (.cond (.tmp 19) (.seq (.region 6 (rg Try.f162 6) false) .ret) .skip)) (.seq (.seq (.region 7 (rg Try.f162 7) false) (.cond (.tmp 24) (.seq (.region 8 (rg Try.f162 8) false) .ret) .skip)) (.seq (.seq (.region 9 (rg Try.f162 9) false) (.cond (.tmp 29) (.seq (.region 10 (rg Try.f162 10) false) .ret) .skip)) (.seq (.region 11 (rg Try.f162 11) false) .ret)))))))) (by kernel_rfl) (Nat.le_of_ble_eq_true (by kernel_rfl)) 0 (rs := [.tmp 4]) rfl [] .nil [(false, [.lit (.bool r)])] [] [] fun cx => ?_
  show Tr _ _ _ ⟨30, 0, [(0, .val true (Fent.row x0)), (1, .val true (Fent.row x1))], []⟩ _
  unfold laws_eqFentF at H
  refine Tr.rs ?_
  refine LAt.runU tOk 3 (by kernel_rfl) ?_
  refine LAt.doneU [4, 3, 2] [3, 2] (by kernel_rfl) ?_
  refine Tr.seq ?_
  refine Tr.rs ?_
  refine LAt.runU tOk 5 (by kernel_rfl) ?_
  refine LAt.doneU [9, 4, 3, 2] [3, 2] (by kernel_rfl) ?_
  refine Tr.to ⟨30, 0, [(9, .val false [.lit (.bool (x0.Tag != x1.Tag))]), (4, .val false [.lit (.bool false)]), (3, .adr (.box 3) [(0, 0)] 5 0), (2, .adr (.box 2) [(0, 0)] 5 0)], [(3, (Fent.row x1)), (2, (Fent.row x0))]⟩ (by kernel_rfl) ?_
  cases h1 : (x0.Tag != x1.Tag)
  · have H := bifF h1 H
    refine Tr.cond (b := false) (by kernel_rfl) (fun h => nomatch h) (fun _ => ?_)
    refine Tr.skip ?_
    show Tr _ _ _ _ _
    refine Tr.seq ?_
    refine Tr.rs ?_
    refine LAt.runU tOk 5 (by kernel_rfl) ?_
    refine LAt.doneU [14, 4, 3, 2] [3, 2] (by kernel_rfl) ?_
    refine Tr.to ⟨30, 0, [(14, .val false [.lit (.bool (x0.Mac != x1.Mac))]), (4, .val false [.lit (.bool false)]), (3, .adr (.box 3) [(0, 0)] 5 0), (2, .adr (.box 2) [(0, 0)] 5 0)], [(3, (Fent.row x1)), (2, (Fent.row x0))]⟩ (by kernel_rfl) ?_
    cases h2 : (x0.Mac != x1.Mac)
    · have H := bifF h2 H
      refine Tr.cond (b := false) (by kernel_rfl) (fun h => nomatch h) (fun _ => ?_)
      refine Tr.skip ?_
      show Tr _ _ _ _ _
      refine Tr.seq ?_
      refine Tr.rs ?_
      refine LAt.runU tOk 5 (by kernel_rfl) ?_
      refine LAt.doneU [19, 4, 3, 2] [3, 2] (by kernel_rfl) ?_
      refine Tr.to ⟨30, 0, [(19, .val false [.lit (.bool (x0.Port != x1.Port))]), (4, .val false [.lit (.bool false)]), (3, .adr (.box 3) [(0, 0)] 5 0), (2, .adr (.box 2) [(0, 0)] 5 0)], [(3, (Fent.row x1)), (2, (Fent.row x0))]⟩ (by kernel_rfl) ?_
      cases h3 : (x0.Port != x1.Port)
      · have H := bifF h3 H
        refine Tr.cond (b := false) (by kernel_rfl) (fun h => nomatch h) (fun _ => ?_)
        refine Tr.skip ?_
        show Tr _ _ _ _ _
        refine Tr.seq ?_
        refine Tr.rs ?_
        refine LAt.runU tOk 5 (by kernel_rfl) ?_
        refine LAt.doneU [24, 4, 3, 2] [3, 2] (by kernel_rfl) ?_
        refine Tr.to ⟨30, 0, [(24, .val false [.lit (.bool (x0.Age != x1.Age))]), (4, .val false [.lit (.bool false)]), (3, .adr (.box 3) [(0, 0)] 5 0), (2, .adr (.box 2) [(0, 0)] 5 0)], [(3, (Fent.row x1)), (2, (Fent.row x0))]⟩ (by kernel_rfl) ?_
        cases h4 : (x0.Age != x1.Age)
        · have H := bifF h4 H
          refine Tr.cond (b := false) (by kernel_rfl) (fun h => nomatch h) (fun _ => ?_)
          refine Tr.skip ?_
          show Tr _ _ _ _ _
          refine Tr.seq ?_
          refine Tr.rs ?_
          refine LAt.runU tOk 5 (by kernel_rfl) ?_
          refine LAt.doneU [29, 4] [] (by kernel_rfl) ?_
          refine Tr.to ⟨30, 0, [(29, .val false [.lit (.bool (!(x0.Static == x1.Static)))]), (4, .val false [.lit (.bool false)])], []⟩ (by kernel_rfl) ?_
          cases h5 : (!(x0.Static == x1.Static))
          · have H := bifF h5 H
            refine Tr.cond (b := false) (by kernel_rfl) (fun h => nomatch h) (fun _ => ?_)
            refine Tr.skip ?_
            show Tr _ _ _ _ _
            refine Tr.rs ?_
            refine LAt.runU tOk 1 (by kernel_rfl) ?_
            refine LAt.doneU [4] [] (by kernel_rfl) ?_
            refine Tr.ret ?_
            have H := Option.some.inj H
            subst H
            exact Fin.of _ [(false, [.lit (.bool true)])] (by kernel_rfl) rfl rfl
          · have H := bifT h5 H
            refine Tr.cond (b := true) (by kernel_rfl) (fun _ => ?_) (fun h => nomatch h)
            refine Tr.rs ?_
            refine LAt.runU tOk 1 (by kernel_rfl) ?_
            refine LAt.doneU [4] [] (by kernel_rfl) ?_
            refine Tr.ret ?_
            have H := Option.some.inj H
            subst H
            exact Fin.of _ [(false, [.lit (.bool false)])] (by kernel_rfl) rfl rfl
        · have H := bifT h4 H
          refine Tr.cond (b := true) (by kernel_rfl) (fun _ => ?_) (fun h => nomatch h)
          refine Tr.rs ?_
          refine LAt.runU tOk 1 (by kernel_rfl) ?_
          refine LAt.doneU [4, 3, 2] [3, 2] (by kernel_rfl) ?_
          refine Tr.ret ?_
          have H := Option.some.inj H
          subst H
          exact Fin.of _ [(false, [.lit (.bool false)])] (by kernel_rfl) rfl rfl
      · have H := bifT h3 H
        refine Tr.cond (b := true) (by kernel_rfl) (fun _ => ?_) (fun h => nomatch h)
        refine Tr.rs ?_
        refine LAt.runU tOk 1 (by kernel_rfl) ?_
        refine LAt.doneU [4, 3, 2] [3, 2] (by kernel_rfl) ?_
        refine Tr.ret ?_
        have H := Option.some.inj H
        subst H
        exact Fin.of _ [(false, [.lit (.bool false)])] (by kernel_rfl) rfl rfl
    · have H := bifT h2 H
      refine Tr.cond (b := true) (by kernel_rfl) (fun _ => ?_) (fun h => nomatch h)
      refine Tr.rs ?_
      refine LAt.runU tOk 1 (by kernel_rfl) ?_
      refine LAt.doneU [4, 3, 2] [3, 2] (by kernel_rfl) ?_
      refine Tr.ret ?_
      have H := Option.some.inj H
      subst H
      exact Fin.of _ [(false, [.lit (.bool false)])] (by kernel_rfl) rfl rfl
  · have H := bifT h1 H
    refine Tr.cond (b := true) (by kernel_rfl) (fun _ => ?_) (fun h => nomatch h)
    refine Tr.rs ?_
    refine LAt.runU tOk 1 (by kernel_rfl) ?_
    refine LAt.doneU [4, 3, 2] [3, 2] (by kernel_rfl) ?_
    refine Tr.ret ?_
    have H := Option.some.inj H
    subst H
    exact Fin.of _ [(false, [.lit (.bool false)])] (by kernel_rfl) rfl rfl

def laws_eqFentS_J1 (n : Nat) : Option (Bool) :=
  (some true)
def laws_eqFentS_L2 (n : Nat) : Nat → (List Fent) → (List Fent) → Int → Option ((Unit) ⊕ (Bool))
  | 0, _, _, _ => none
  | mo2 + 1, x0, x1, y1 => (bif (decide (y1 < (x0.length : Int))) then ((idx x0 y1).bind fun v3 => ((idx x1 y1).bind fun v4 => ((laws_eqFentF n v3 v4).bind fun r5 => (bif (!r5) then (some (Sum.inr false)) else (laws_eqFentS_L2 n mo2 x0 x1 (IntKind.wrap .i64 (y1 + 1))))))) else (some (Sum.inl ())))
def laws_eqFentSF (n : Nat) (x0 : (List Fent)) (x1 : (List Fent)) : Option (Bool) :=
  (bif ((x0.length : Int) != (x1.length : Int)) then (some false) else ((laws_eqFentS_L2 n n x0 x1 0).bind fun o => match o with | .inl _ => (laws_eqFentS_J1 n) | .inr r => some r))
/-- loop.example/g00326/laws.eqFentS -/
theorem laws_eqFentS (n : Nat) (x0 : (List Fent)) (x1 : (List Fent)) (r : Bool) (H : laws_eqFentSF n x0 x1 = some r) : LCall Try.prog 107 [.val false [.sl false 5 (CV.frzEs (x0.map Fent.row))], .val false [.sl false 5 (CV.frzEs (x1.map Fent.row))]] [.val false [.lit (.bool r)]] [] := by
  refine LCall.of_body tOk Try.func107 rfl (c := (.seq (.region 0 (rg Try.f107 0) false) (.seq (.seq (.region 1 (rg Try.f107 1) false) (.cond (.tmp 10) (.seq (.region 2 (rg Try.f107 2) false) .ret) .skip)) (.seq (.seq (.region 3 (rg Try.f107 3) false) (.block 0 (.loop (.seq (.seq (.region 4 (rg Try.f107 4) false) (.cond (.tmp 14) .skip (.exit 0))) (.seq (.block 1 (.seq (.region 6 (rg Try.f107 6) true) (.cond (.tmp 26) (.seq (.region 7 (rg Try.f107 7) false) .ret) .skip))) (.region 5 (rg Try.f107 5) false)))))) (.seq (.region 8 (rg Try.f107 8) false) .ret))))) (by kernel_rfl) (Nat.le_of_ble_eq_true (by kernel_rfl)) 0 (rs := [.tmp 4]) rfl [] .nil [(false, [.lit (.bool r)])] [] [] fun cx => ?_
  show Tr _ _ _ ⟨27, 0, [(0, .val false [.sl false 5 (CV.frzEs (x0.map Fent.row))]), (1, .val false [.sl false 5 (CV.frzEs (x1.map Fent.row))])], []⟩ _
  unfold laws_eqFentSF at H
  refine Tr.rs ?_
  refine LAt.runU tOk 1 (by kernel_rfl) ?_
  refine LAt.doneU [4, 0, 1] [] (by kernel_rfl) ?_
  refine Tr.seq ?_
  refine Tr.rs ?_
  refine LAt.runU tOk 1 (by kernel_rfl) ?_
  refine LAt.lenE tOk (t := 56) (ty := 3) (e := 141) (x := (.tmp 6)) (d := 7) (g := none) ⟨(.slot 6), [], 0, false, 5, (CV.frzEs (x0.map Fent.row))⟩ (x0).length _ (by kernel_rfl) (by kernel_rfl) (by kernel_rfl) (by kernel_rfl) (by kernel_rfl) (frz_len _ _) rfl ?_
  refine LAt.runU tOk 1 (by kernel_rfl) ?_
  refine LAt.lenE tOk (t := 56) (ty := 3) (e := 141) (x := (.tmp 8)) (d := 9) (g := none) ⟨(.slot 8), [], 0, false, 5, (CV.frzEs (x1.map Fent.row))⟩ (x1).length _ (by kernel_rfl) (by kernel_rfl) (by kernel_rfl) (by kernel_rfl) (by kernel_rfl) (frz_len _ _) rfl ?_
  refine LAt.runU tOk 1 (by kernel_rfl) ?_
  refine LAt.doneU [10, 4, 0, 1] [] (by kernel_rfl) ?_
  refine Tr.to ⟨27, 0, [(10, .val false [.lit (.bool ((x0.length : Int) != (x1.length : Int)))]), (4, .val false [.lit (.bool false)]), (0, .val false [.sl false 5 (CV.frzEs (x0.map Fent.row))]), (1, .val false [.sl false 5 (CV.frzEs (x1.map Fent.row))])], []⟩ (by kernel_rfl) ?_
  cases h1 : ((x0.length : Int) != (x1.length : Int))
  · have H := bifF h1 H
    refine Tr.cond (b := false) (by kernel_rfl) (fun h => nomatch h) (fun _ => ?_)
    refine Tr.skip ?_
    show Tr _ _ _ _ _
    refine Tr.seq ?_
    refine Tr.rs ?_
    refine LAt.runU tOk 1 (by kernel_rfl) ?_
    refine LAt.doneU [5, 4, 0, 1] [] (by kernel_rfl) ?_
    obtain ⟨o2, eo2, Ho2⟩ := bind_some H
    clear H
    refine Tr.mid (ι := Unit) (fun v => ⟨27, 0, [(4, .val false [.lit (.bool false)])], []⟩) (fun v => laws_eqFentS_J1 n = some r) ?_ ?_
    · refine Tr.block ?_
      refine Tr.loop (ι := Nat × (Int)) (fun v => ⟨27, 0, [(5, .val false [.lit (.int .i64 v.2)]), (4, .val false [.lit (.bool false)]), (0, .val false [.sl false 5 (CV.frzEs (x0.map Fent.row))]), (1, .val false [.sl false 5 (CV.frzEs (x1.map Fent.row))])], []⟩) (fun v => laws_eqFentS_L2 n v.1 x0 x1 v.2 = some o2) (fun v => v.1) (n, 0) eo2 (St.sub_of [5, 4, 0, 1] [] (by kernel_rfl)) ?_
      rintro ⟨mo2, y1⟩ H
      have H : laws_eqFentS_L2 n mo2 x0 x1 y1 = some o2 := H
      obtain _ | mo2 := mo2
      · cases (show (none : Option _) = some o2 from H)
      · rw [laws_eqFentS_L2] at H
        refine Tr.seq ?_
        refine Tr.rs ?_
        refine LAt.runU tOk 2 (by kernel_rfl) ?_
        refine LAt.lenE tOk (t := 56) (ty := 3) (e := 141) (x := (.tmp 12)) (d := 13) (g := none) ⟨(.slot 12), [], 0, false, 5, (CV.frzEs (x0.map Fent.row))⟩ (x0).length _ (by kernel_rfl) (by kernel_rfl) (by kernel_rfl) (by kernel_rfl) (by kernel_rfl) (frz_len _ _) rfl ?_
        refine LAt.runU tOk 1 (by kernel_rfl) ?_
        refine LAt.doneU [14, 13, 12, 11, 5, 4, 0, 1] [] (by kernel_rfl) ?_
        refine Tr.to ⟨27, 0, [(14, .val false [.lit (.bool (decide (y1 < (x0.length : Int))))]), (13, .val false [.lit (.int .i64 (x0.length : Int))]), (12, .val false [.sl false 5 (CV.frzEs (x0.map Fent.row))]), (11, .val false [.lit (.int .i64 y1)]), (5, .val false [.lit (.int .i64 y1)]), (4, .val false [.lit (.bool false)]), (0, .val false [.sl false 5 (CV.frzEs (x0.map Fent.row))]), (1, .val false [.sl false 5 (CV.frzEs (x1.map Fent.row))])], []⟩ (by kernel_rfl) ?_
        cases h2 : (decide (y1 < (x0.length : Int)))
        · have H := bifF h2 H
          refine Tr.cond (b := false) (by kernel_rfl) (fun h => nomatch h) (fun _ => ?_)
          refine Tr.exit ?_
          refine And.intro (fun _ => ?_) (fun h => absurd rfl h)
          have H := Option.some.inj H
          subst H
          have H := Ho2
          dsimp only at H
          exact Exists.intro () (And.intro H (St.sub_of [4] [] (by kernel_rfl)))
        · have H := bifT h2 H
          refine Tr.cond (b := true) (by kernel_rfl) (fun _ => ?_) (fun h => nomatch h)
          refine Tr.skip ?_
          show Tr _ _ _ _ _
          refine Tr.seq ?_
          refine Tr.block ?_
          obtain ⟨v3, ev3, H⟩ := bind_some H
          obtain ⟨v4, ev4, H⟩ := bind_some H
          obtain ⟨r5, er5, H⟩ := bind_some H
          refine Tr.draws mixed 10 (by kernel_rfl) ⟨27, 0, [(26, .val false [.lit (.bool (!r5))]), (25, .val false [.lit (.bool r5)]), (24, .val true (Fent.row v4)), (23, .fad ((Fent.row v4))), (22, .val false [.lit (.int .i64 y1)]), (21, .val false [.sl false 5 (CV.frzEs (x1.map Fent.row))]), (20, .val true (Fent.row v3)), (19, .fad ((Fent.row v3))), (18, .val false [.lit (.int .i64 y1)]), (17, .val false [.sl false 5 (CV.frzEs (x0.map Fent.row))]), (14, .val false [.lit (.bool true)]), (13, .val false [.lit (.int .i64 (x0.length : Int))]), (12, .val false [.sl false 5 (CV.frzEs (x0.map Fent.row))]), (11, .val false [.lit (.int .i64 y1)]), (5, .val false [.lit (.int .i64 y1)]), (4, .val false [.lit (.bool false)]), (0, .val false [.sl false 5 (CV.frzEs (x0.map Fent.row))]), (1, .val false [.sl false 5 (CV.frzEs (x1.map Fent.row))])], []⟩ (fun cx => ?_) ?_
          · refine AT.runU tOk [(0, []), (1, [])] 8 [] [1, 0] rfl (by kernel_rfl) (fun cx => ?_)
            refine AT.indexF tOk 2 (t := 56) (ty := 0) (x := (.tmp 17)) (y := (.tmp 18)) (d := 19) (g := none) ⟨(.slot 17), [], 0, false, 5, (CV.frzEs (x0.map Fent.row))⟩ y1 (Fent.row v3) _ (by kernel_rfl) (by kernel_rfl) (by kernel_rfl) (by kernel_rfl) (by kernel_rfl) (by kernel_rfl) rfl (idx_isF ev3) rfl (fun cx => ?_)
            refine AT.runU tOk [(3, []), (4, []), (5, [])] 4 [] [5, 4, 3, 2, 1, 0] rfl (by kernel_rfl) (fun cx => ?_)
            refine AT.indexF tOk 6 (t := 56) (ty := 0) (x := (.tmp 21)) (y := (.tmp 22)) (d := 23) (g := none) ⟨(.slot 21), [], 0, false, 5, (CV.frzEs (x1.map Fent.row))⟩ y1 (Fent.row v4) _ (by kernel_rfl) (by kernel_rfl) (by kernel_rfl) (by kernel_rfl) (by kernel_rfl) (by kernel_rfl) rfl (idx_isF ev4) rfl (fun cx => ?_)
            refine AT.runU tOk [(7, [])] 2 [] [7, 6, 5, 4, 3, 2, 1, 0] rfl (by kernel_rfl) (fun cx => ?_)
            refine AT.big1 tOk 8 (by kernel_rfl) (by kernel_rfl) ?_
            refine LAt.callU tOk [.rd, .rd] (f := 162) (av := #[.tmp 20, .tmp 24]) (ats := #[141, 141]) (d := (some 25)) (ty := 4) (g := none) (by kernel_rfl) (by kernel_rfl) (by kernel_rfl) [] (laws_eqFent n v3 v4 r5 er5) (by kernel_rfl) (.inl rfl) ?_
            refine LAt.fin (by kernel_rfl) (And.intro (And.intro (by kernel_rfl) (by kernel_rfl)) ?_)
            refine AT.runU tOk [(9, [])] 0 [] [9, 8, 7, 6, 5, 4, 3, 2, 1, 0] rfl (by kernel_rfl) (fun cx => ?_)
            exact AT.done [26, 25, 24, 23, 22, 21, 20, 19, 18, 17, 14, 13, 12, 11, 5, 4, 0, 1] [] _ (by kernel_rfl) (by kernel_rfl) rfl
          · refine Tr.to ⟨27, 0, [(26, .val false [.lit (.bool (!r5))]), (25, .val false [.lit (.bool r5)]), (24, .val true (Fent.row v4)), (23, .fad ((Fent.row v4))), (22, .val false [.lit (.int .i64 y1)]), (21, .val false [.sl false 5 (CV.frzEs (x1.map Fent.row))]), (20, .val true (Fent.row v3)), (19, .fad ((Fent.row v3))), (18, .val false [.lit (.int .i64 y1)]), (17, .val false [.sl false 5 (CV.frzEs (x0.map Fent.row))]), (14, .val false [.lit (.bool true)]), (13, .val false [.lit (.int .i64 (x0.length : Int))]), (12, .val false [.sl false 5 (CV.frzEs (x0.map Fent.row))]), (11, .val false [.lit (.int .i64 y1)]), (5, .val false [.lit (.int .i64 y1)]), (4, .val false [.lit (.bool false)]), (0, .val false [.sl false 5 (CV.frzEs (x0.map Fent.row))]), (1, .val false [.sl false 5 (CV.frzEs (x1.map Fent.row))])], []⟩ (by kernel_rfl) ?_
            cases h3 : (!r5)
            · have H := bifF h3 H
              refine Tr.cond (b := false) (by kernel_rfl) (fun h => nomatch h) (fun _ => ?_)
              refine Tr.skip ?_
              show Tr _ _ _ _ _
              refine Tr.at ?_
              refine LAt.runU tOk 3 (by kernel_rfl) ?_
              refine LAt.doneU [5, 16, 15, 26, 25, 24, 23, 22, 21, 20, 19, 18, 17, 14, 13, 12, 11, 4, 0, 1] [] (by kernel_rfl) ?_
              exact Exists.intro (mo2, (IntKind.wrap .i64 (y1 + 1))) (And.intro H (And.intro (Nat.lt_succ_self mo2) (St.sub_of [5, 4, 0, 1] [] (by kernel_rfl))))
            · have H := bifT h3 H
              refine Tr.cond (b := true) (by kernel_rfl) (fun _ => ?_) (fun h => nomatch h)
              refine Tr.rs ?_
              refine LAt.runU tOk 1 (by kernel_rfl) ?_
              refine LAt.doneU [4, 26, 25, 24, 23, 22, 21, 20, 19, 18, 17, 14, 13, 12, 11, 5, 0, 1] [] (by kernel_rfl) ?_
              refine Tr.ret ?_
              have H := Option.some.inj H
              subst H
              have H := Ho2
              dsimp only at H
              have H := Option.some.inj H
              subst H
              exact Fin.of _ [(false, [.lit (.bool false)])] (by kernel_rfl) rfl rfl
    · rintro _ H
      have H : (laws_eqFentS_J1 n) = some r := H
      unfold laws_eqFentS_J1 at H
      show Tr _ _ _ _ _
      refine Tr.rs ?_
      refine LAt.runU tOk 1 (by kernel_rfl) ?_
      refine LAt.doneU [4] [] (by kernel_rfl) ?_
      refine Tr.ret ?_
      have H := Option.some.inj H
      subst H
      exact Fin.of _ [(false, [.lit (.bool true)])] (by kernel_rfl) rfl rfl
  · have H := bifT h1 H
    refine Tr.cond (b := true) (by kernel_rfl) (fun _ => ?_) (fun h => nomatch h)
    refine Tr.rs ?_
    refine LAt.runU tOk 1 (by kernel_rfl) ?_
    refine LAt.doneU [4, 0, 1] [] (by kernel_rfl) ?_
    refine Tr.ret ?_
    have H := Option.some.inj H
    subst H
    exact Fin.of _ [(false, [.lit (.bool false)])] (by kernel_rfl) rfl rfl
end Go.Proofs.Ytjdedhklbdkeoaa.Tw
