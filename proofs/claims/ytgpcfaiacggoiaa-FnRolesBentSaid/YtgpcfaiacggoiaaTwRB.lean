/- Functions of the program, over trees. -/
import Derived.Test.YtgpcfaiacggoiaaProg
import Derived.Test.YtgpcfaiacggoiaaTlRule
import Derived.Test.YtgpcfaiacggoiaaTlU3
import Derived.Test.YtgpcfaiacggoiaaTwRB0
import Derived.WalkKit
set_option linter.unusedVariables false
set_option linter.unusedSimpArgs false
set_option maxRecDepth 100000
set_option maxHeartbeats 1000000
namespace Go.Proofs.Ytgpcfaiacggoiaa.Tw
open Go Go.TL Go.Proofs


def impl_RoleOfF (n : Nat) (x0 : Int) (x1 : (List Pt)) (x2 : Int) : Option (Int) :=
  ((impl_inF n x2 0 (IntKind.wrap .i64 ((x1.length : Int) - 1))).bind fun r1 => (bif (!r1) then (some 4) else ((idx x1 x2).bind fun v2 => (bif (!v2.Up) then (some 4) else ((impl_BestVecF n x0 x1).bind fun r3 => (bif (r3.2 == x2) then (some 1) else ((idx x1 x2).bind fun v4 => (bif (!v4.Has) then (some 2) else ((impl_SayVecF n x0 x1 x2).bind fun r5 => ((idx x1 x2).bind fun v6 => ((impl_LessVecF n r5 v6.Heard).bind fun r7 => (bif r7 then (some 2) else (some 3)))))))))))))
/-- loop.example/g00326/impl.RoleOf -/
theorem impl_RoleOf (n : Nat) (x0 : Int) (x1 : (List Pt)) (x2 : Int) (r : Int) (H : impl_RoleOfF n x0 x1 x2 = some r) : LCall Try.prog 100 [.val false [.lit (.int .i64 x0)], .val false [.sl false 8 (CV.frzEs (x1.map Pt.row))], .val false [.lit (.int .i64 x2)]] [.val false [.lit (.int .i64 r)]] [] := by
  refine LCall.of_body tOk Try.func100 rfl (c := (.seq (.region 0 (rg Try.f100 0) false) (.seq (.seq (.region 1 (rg Try.f100 1) false) (.cond (.tmp 22) (.seq (.region 2 (rg Try.f100 2) false) .ret) .skip)) (.seq (.region 3 (rg Try.f100 3) false) (.seq (.block 0 (.seq (.region 4 (rg Try.f100 4) false) (.cond (.tmp 29) (.seq (.region 5 (rg Try.f100 5) false) .ret) (.seq (.region 6 (rg Try.f100 6) true) (.cond (.tmp 33) (.seq (.region 7 (rg Try.f100 7) false) .ret) .skip))))) (.seq (.region 8 (rg Try.f100 8) false) .ret)))))) (by kernel_rfl) (Nat.le_of_ble_eq_true (by kernel_rfl)) 0 (rs := [.tmp 6]) rfl [] .nil [(false, [.lit (.int .i64 r)])] [] [] fun cx => ?_
  show Tr _ _ _ ⟨52, 0, [(0, .val false [.lit (.int .i64 x0)]), (1, .val false [.sl false 8 (CV.frzEs (x1.map Pt.row))]), (2, .val false [.lit (.int .i64 x2)])], []⟩ _
  unfold impl_RoleOfF at H
  refine Tr.rs ?_
  refine LAt.runU tOk 1 (by kernel_rfl) ?_
  refine LAt.doneU [6, 0, 1, 2] [] (by kernel_rfl) ?_
  refine Tr.seq ?_
  refine Tr.rs ?_
  refine LAt.runU tOk 2 (by kernel_rfl) ?_
  refine LAt.lenE tOk (t := 43) (ty := 3) (e := 41) (x := (.tmp 10)) (d := 11) (g := none) ⟨(.slot 10), [], 0, false, 8, (CV.frzEs (x1.map Pt.row))⟩ (x1).length _ (by kernel_rfl) (by kernel_rfl) (by kernel_rfl) (by kernel_rfl) (by kernel_rfl) (frz_len _ _) rfl ?_
  refine LAt.runU tOk 1 (by kernel_rfl) ?_
  obtain ⟨r1, er1, H⟩ := bind_some H
  refine LAt.callU tOk [.rd, .rd, .rd] (f := 82) (av := #[.tmp 9, .const (.int .i64 0), .tmp 12]) (ats := #[3, 3, 3]) (d := (some 13)) (ty := 4) (g := none) (by kernel_rfl) (by kernel_rfl) (by kernel_rfl) [] (impl_in n x2 0 (IntKind.wrap .i64 ((x1.length : Int) - 1)) r1 er1) (by kernel_rfl) (.inl rfl) ?_
  refine LAt.runU tOk 2 (by kernel_rfl) ?_
  refine LAt.to ⟨52, 0, [(15, .val false [.lit (.bool (!r1))]), (14, .val false [.lit (.bool (!r1))]), (13, .val false [.lit (.bool r1)]), (12, .val false [.lit (.int .i64 (IntKind.wrap .i64 ((x1.length : Int) - 1)))]), (11, .val false [.lit (.int .i64 (x1.length : Int))]), (10, .val false [.sl false 8 (CV.frzEs (x1.map Pt.row))]), (9, .val false [.lit (.int .i64 x2)]), (6, .val false [.lit (.int .i64 0)]), (0, .val false [.lit (.int .i64 x0)]), (1, .val false [.sl false 8 (CV.frzEs (x1.map Pt.row))]), (2, .val false [.lit (.int .i64 x2)])], []⟩ (by kernel_rfl) ?_
  cases h1 : (!r1)
  · have H := bifF h1 H
    refine LAt.runU tOk 2 (by kernel_rfl) ?_
    obtain ⟨v2, ev2, H⟩ := bind_some H
    refine LAt.indexF tOk (t := 43) (ty := 0) (x := (.tmp 16)) (y := (.tmp 17)) (d := 18) (g := (some (6, false))) ⟨(.slot 16), [], 0, false, 8, (CV.frzEs (x1.map Pt.row))⟩ x2 (Pt.row v2) _ (by kernel_rfl) (by kernel_rfl) (by kernel_rfl) (by kernel_rfl) rfl (idx_isF ev2) rfl ?_
    refine LAt.runU tOk 4 (by kernel_rfl) ?_
    refine LAt.doneU [22, 6, 0, 1, 2] [] (by kernel_rfl) ?_
    refine Tr.to ⟨52, 0, [(22, .val false [.lit (.bool (!v2.Up))]), (6, .val false [.lit (.int .i64 0)]), (0, .val false [.lit (.int .i64 x0)]), (1, .val false [.sl false 8 (CV.frzEs (x1.map Pt.row))]), (2, .val false [.lit (.int .i64 x2)])], []⟩ (by kernel_rfl) ?_
    cases h2 : (!v2.Up)
    · have H := bifF h2 H
      refine Tr.cond (b := false) (by kernel_rfl) (fun h => nomatch h) (fun _ => ?_)
      refine Tr.skip ?_
      show Tr _ _ _ _ _
      refine Tr.rs ?_
      refine LAt.runU tOk 2 (by kernel_rfl) ?_
      obtain ⟨r3, er3, H⟩ := bind_some H
      refine LAt.callU tOk [.rd, .rd] (f := 25) (av := #[.tmp 24, .tmp 25]) (ats := #[3, 43]) (d := (some 26)) (ty := 46) (g := none) (by kernel_rfl) (by kernel_rfl) (by kernel_rfl) [] (impl_BestVec n x0 x1 r3 er3) (by kernel_rfl) (.inl rfl) ?_
      refine LAt.movT tOk (ty := 46) (t := 26) (d := 23) (g := none) [(true, (Vec.row r3.1)), (false, [.lit (.int .i64 r3.2)])] _ (by kernel_rfl) (.inl rfl) (by kernel_rfl) (by kernel_rfl) (by kernel_rfl) (by kernel_rfl) rfl ?_
      refine LAt.runU tOk 5 (by kernel_rfl) ?_
      refine LAt.doneU [8, 6, 0, 1, 2] [] (by kernel_rfl) ?_
      refine Tr.seq ?_
      refine Tr.block ?_
      refine Tr.rs ?_
      refine LAt.runU tOk 4 (by kernel_rfl) ?_
      refine LAt.doneU [29, 6, 0, 1, 2] [] (by kernel_rfl) ?_
      refine Tr.to ⟨52, 0, [(29, .val false [.lit (.bool (r3.2 == x2))]), (6, .val false [.lit (.int .i64 0)]), (0, .val false [.lit (.int .i64 x0)]), (1, .val false [.sl false 8 (CV.frzEs (x1.map Pt.row))]), (2, .val false [.lit (.int .i64 x2)])], []⟩ (by kernel_rfl) ?_
      cases h3 : (r3.2 == x2)
      · have H := bifF h3 H
        refine Tr.cond (b := false) (by kernel_rfl) (fun h => nomatch h) (fun _ => ?_)
        obtain ⟨v4, ev4, H⟩ := bind_some H
        refine Tr.to ⟨52, 0, [(29, .val false [.lit (.bool false)]), (6, .val false [.lit (.int .i64 0)]), (0, .val false [.lit (.int .i64 x0)]), (1, .val false [.sl false 8 (CV.frzEs (x1.map Pt.row))]), (2, .val false [.lit (.int .i64 x2)])], []⟩ (by kernel_rfl) ?_
        cases h4 : (!v4.Has)
        · have H := bifF h4 H
          obtain ⟨r5, er5, H⟩ := bind_some H
          obtain ⟨v6, ev6, H⟩ := bind_some H
          obtain ⟨r7, er7, H⟩ := bind_some H
          refine Tr.draws mixed 19 (by kernel_rfl) ⟨52, 0, [(33, .val false [.lit (.bool r7)]), (6, .val false [.lit (.int .i64 0)])], []⟩ (fun cx => ?_) ?_
          · refine AT.runU tOk [(0, []), (1, [])] 17 [] [1, 0] rfl (by kernel_rfl) (fun cx => ?_)
            refine AT.indexF tOk 2 (t := 43) (ty := 0) (x := (.tmp 34)) (y := (.tmp 35)) (d := 36) (g := none) ⟨(.slot 34), [], 0, false, 8, (CV.frzEs (x1.map Pt.row))⟩ x2 (Pt.row v4) _ (by kernel_rfl) (by kernel_rfl) (by kernel_rfl) (by kernel_rfl) (by kernel_rfl) (by kernel_rfl) rfl (idx_isF ev4) rfl (fun cx => ?_)
            refine AT.runU tOk [(3, []), (4, []), (5, []), (6, [])] 12 [] [6, 5, 4, 3, 2, 1, 0] rfl (by kernel_rfl) (fun cx => ?_)
            refine AT.to ⟨52, 0, [(40, .val false [.lit (.bool (!v4.Has))]), (39, .val false [.lit (.bool (!v4.Has))]), (38, .val false [.lit (.bool v4.Has)]), (37, .fad (((Pt.row v4).drop 2))), (36, .fad ((Pt.row v4))), (35, .val false [.lit (.int .i64 x2)]), (34, .val false [.sl false 8 (CV.frzEs (x1.map Pt.row))]), (29, .val false [.lit (.bool false)]), (6, .val false [.lit (.int .i64 0)]), (0, .val false [.lit (.int .i64 x0)]), (1, .val false [.sl false 8 (CV.frzEs (x1.map Pt.row))]), (2, .val false [.lit (.int .i64 x2)])], []⟩ (by kernel_rfl) ?_
            rw [h4]
            refine AT.runU tOk [(7, []), (8, []), (9, []), (11, []), (12, [])] 7 [] [12, 11, 9, 8, 7, 6, 5, 4, 3, 2, 1, 0] rfl (by kernel_rfl) (fun cx => ?_)
            refine AT.indexF tOk 13 (t := 43) (ty := 0) (x := (.tmp 45)) (y := (.tmp 46)) (d := 47) (g := (some (6, false))) ⟨(.slot 45), [], 0, false, 8, (CV.frzEs (x1.map Pt.row))⟩ x2 (Pt.row v6) _ (by kernel_rfl) (by kernel_rfl) (by kernel_rfl) (by kernel_rfl) (by kernel_rfl) (by kernel_rfl) rfl (idx_isF ev6) rfl (fun cx => ?_)
            refine AT.runU tOk [(14, []), (15, [])] 4 [] [15, 14, 13, 12, 11, 9, 8, 7, 6, 5, 4, 3, 2, 1, 0] rfl (by kernel_rfl) (fun cx => ?_)
            refine AT.big1 tOk 10 (by kernel_rfl) (by kernel_rfl) ?_
            refine LAt.callU tOk [.rd, .rd, .rd] (f := 28) (av := #[.tmp 41, .tmp 42, .tmp 43]) (ats := #[3, 43, 3]) (d := (some 44)) (ty := 39) (g := (some (6, false))) (by kernel_rfl) (by kernel_rfl) (by kernel_rfl) [] (impl_SayVec n x0 x1 x2 r5 er5) (by kernel_rfl) (.inl rfl) ?_
            refine LAt.fin (by kernel_rfl) (And.intro (And.intro (by kernel_rfl) (by kernel_rfl)) ?_)
            refine AT.big1 tOk 16 (by kernel_rfl) (by kernel_rfl) ?_
            refine LAt.callU tOk [.rd, .rd] (f := 94) (av := #[.tmp 44, .tmp 49]) (ats := #[39, 39]) (d := (some 50)) (ty := 4) (g := (some (6, false))) (by kernel_rfl) (by kernel_rfl) (by kernel_rfl) [] (impl_LessVec n r5 v6.Heard r7 er7) (by kernel_rfl) (.inl rfl) ?_
            refine LAt.fin (by kernel_rfl) (And.intro (And.intro (by kernel_rfl) (by kernel_rfl)) ?_)
            refine AT.runU tOk [(17, []), (18, [])] 0 [] [18, 17, 16, 10, 15, 14, 13, 12, 11, 9, 8, 7, 6, 5, 4, 3, 2, 1, 0] rfl (by kernel_rfl) (fun cx => ?_)
            exact AT.done [33, 6] [] _ (by kernel_rfl) (by kernel_rfl) rfl
          · refine Tr.to ⟨52, 0, [(33, .val false [.lit (.bool r7)]), (6, .val false [.lit (.int .i64 0)])], []⟩ (by kernel_rfl) ?_
            cases h5 : r7
            · have H := bifF h5 H
              refine Tr.cond (b := false) (by kernel_rfl) (fun h => nomatch h) (fun _ => ?_)
              refine Tr.skip ?_
              show Tr _ _ _ _ _
              refine Tr.rs ?_
              refine LAt.runU tOk 1 (by kernel_rfl) ?_
              refine LAt.doneU [6] [] (by kernel_rfl) ?_
              refine Tr.ret ?_
              have H := Option.some.inj H
              subst H
              exact Fin.of _ [(false, [.lit (.int .i64 3)])] (by kernel_rfl) rfl rfl
            · have H := bifT h5 H
              refine Tr.cond (b := true) (by kernel_rfl) (fun _ => ?_) (fun h => nomatch h)
              refine Tr.rs ?_
              refine LAt.runU tOk 1 (by kernel_rfl) ?_
              refine LAt.doneU [6] [] (by kernel_rfl) ?_
              refine Tr.ret ?_
              have H := Option.some.inj H
              subst H
              exact Fin.of _ [(false, [.lit (.int .i64 2)])] (by kernel_rfl) rfl rfl
        · have H := bifT h4 H
          refine Tr.draws mixed 19 (by kernel_rfl) ⟨52, 0, [(33, .val false [.lit (.bool true)]), (6, .val false [.lit (.int .i64 0)])], []⟩ (fun cx => ?_) ?_
          · refine AT.runU tOk [(0, []), (1, [])] 17 [] [1, 0] rfl (by kernel_rfl) (fun cx => ?_)
            refine AT.indexF tOk 2 (t := 43) (ty := 0) (x := (.tmp 34)) (y := (.tmp 35)) (d := 36) (g := none) ⟨(.slot 34), [], 0, false, 8, (CV.frzEs (x1.map Pt.row))⟩ x2 (Pt.row v4) _ (by kernel_rfl) (by kernel_rfl) (by kernel_rfl) (by kernel_rfl) (by kernel_rfl) (by kernel_rfl) rfl (idx_isF ev4) rfl (fun cx => ?_)
            refine AT.runU tOk [(3, []), (4, []), (5, []), (6, [])] 12 [] [6, 5, 4, 3, 2, 1, 0] rfl (by kernel_rfl) (fun cx => ?_)
            refine AT.to ⟨52, 0, [(40, .val false [.lit (.bool (!v4.Has))]), (39, .val false [.lit (.bool (!v4.Has))]), (38, .val false [.lit (.bool v4.Has)]), (37, .fad (((Pt.row v4).drop 2))), (36, .fad ((Pt.row v4))), (35, .val false [.lit (.int .i64 x2)]), (34, .val false [.sl false 8 (CV.frzEs (x1.map Pt.row))]), (29, .val false [.lit (.bool false)]), (6, .val false [.lit (.int .i64 0)]), (0, .val false [.lit (.int .i64 x0)]), (1, .val false [.sl false 8 (CV.frzEs (x1.map Pt.row))]), (2, .val false [.lit (.int .i64 x2)])], []⟩ (by kernel_rfl) ?_
            rw [h4]
            refine AT.runU tOk [(7, []), (8, []), (9, []), (10, []), (11, []), (12, []), (13, []), (14, []), (15, []), (16, []), (17, []), (18, [])] 0 [] [18, 17, 16, 15, 14, 13, 12, 11, 10, 9, 8, 7, 6, 5, 4, 3, 2, 1, 0] rfl (by kernel_rfl) (fun cx => ?_)
            exact AT.done [33, 6] [] _ (by kernel_rfl) (by kernel_rfl) rfl
          · refine Tr.cond (b := true) (by kernel_rfl) (fun _ => ?_) (fun h => nomatch h)
            refine Tr.rs ?_
            refine LAt.runU tOk 1 (by kernel_rfl) ?_
            refine LAt.doneU [6] [] (by kernel_rfl) ?_
            refine Tr.ret ?_
            have H := Option.some.inj H
            subst H
            exact Fin.of _ [(false, [.lit (.int .i64 2)])] (by kernel_rfl) rfl rfl
      · have H := bifT h3 H
        refine Tr.cond (b := true) (by kernel_rfl) (fun _ => ?_) (fun h => nomatch h)
        refine Tr.rs ?_
        refine LAt.runU tOk 1 (by kernel_rfl) ?_
        refine LAt.doneU [6] [] (by kernel_rfl) ?_
        refine Tr.ret ?_
        have H := Option.some.inj H
        subst H
        exact Fin.of _ [(false, [.lit (.int .i64 1)])] (by kernel_rfl) rfl rfl
    · have H := bifT h2 H
      refine Tr.cond (b := true) (by kernel_rfl) (fun _ => ?_) (fun h => nomatch h)
      refine Tr.rs ?_
      refine LAt.runU tOk 1 (by kernel_rfl) ?_
      refine LAt.doneU [6, 0, 1, 2] [] (by kernel_rfl) ?_
      refine Tr.ret ?_
      have H := Option.some.inj H
      subst H
      exact Fin.of _ [(false, [.lit (.int .i64 4)])] (by kernel_rfl) rfl rfl
  · have H := bifT h1 H
    refine LAt.runU tOk 7 (by kernel_rfl) ?_
    refine LAt.doneU [22, 6, 0, 1, 2] [] (by kernel_rfl) ?_
    refine Tr.cond (b := true) (by kernel_rfl) (fun _ => ?_) (fun h => nomatch h)
    refine Tr.rs ?_
    refine LAt.runU tOk 1 (by kernel_rfl) ?_
    refine LAt.doneU [6, 0, 1, 2] [] (by kernel_rfl) ?_
    refine Tr.ret ?_
    have H := Option.some.inj H
    subst H
    exact Fin.of _ [(false, [.lit (.int .i64 4)])] (by kernel_rfl) rfl rfl

def impl_Sends_J1 (n : Nat) (y3 : Int) : Option (Int) :=
  (some y3)
def impl_Sends_L2 (n : Nat) : Nat → Int → (List Pt) → Int → Int → Option ((Int) ⊕ (Int))
  | 0, _, _, _, _ => none
  | mo4 + 1, x0, x1, y1, y2 => (bif (decide (y1 < (x1.length : Int))) then (bif (decide (y1 < 6)) then ((impl_RoleOfF n x0 x1 y1).bind fun r5 => (bif (r5 == 1) then (bif (decide ((0 : Int) ≤ y1)) then (impl_Sends_L2 n mo4 x0 x1 (IntKind.wrap .i64 (y1 + 1)) (IntKind.wrap .i64 (BitVec.ofInt (IntKind.bits .i64) y2 ||| BitVec.ofInt (IntKind.bits .i64) (IntKind.wrap .i64 (1 * 2 ^ min ((y1 : Int)).toNat (IntKind.bits .i64)))).toNat)) else none) else (bif (r5 == 2) then (bif (decide ((0 : Int) ≤ y1)) then (impl_Sends_L2 n mo4 x0 x1 (IntKind.wrap .i64 (y1 + 1)) (IntKind.wrap .i64 (BitVec.ofInt (IntKind.bits .i64) y2 ||| BitVec.ofInt (IntKind.bits .i64) (IntKind.wrap .i64 (1 * 2 ^ min ((y1 : Int)).toNat (IntKind.bits .i64)))).toNat)) else none) else (impl_Sends_L2 n mo4 x0 x1 (IntKind.wrap .i64 (y1 + 1)) y2)))) else (some (Sum.inl y2))) else (some (Sum.inl y2)))
def impl_SendsF (n : Nat) (x0 : Int) (x1 : (List Pt)) : Option (Int) :=
  ((impl_Sends_L2 n n x0 x1 0 0).bind fun o => match o with | .inl y3 => (impl_Sends_J1 n y3) | .inr r => some r)
/-- loop.example/g00326/impl.Sends -/
theorem impl_Sends (n : Nat) (x0 : Int) (x1 : (List Pt)) (r : Int) (H : impl_SendsF n x0 x1 = some r) : LCall Try.prog 32 [.val false [.lit (.int .i64 x0)], .val false [.sl false 8 (CV.frzEs (x1.map Pt.row))]] [.val false [.lit (.int .i64 r)]] [] := by
  refine LCall.of_body tOk Try.func32 rfl (c := (.seq (.region 0 (rg Try.f32 0) false) (.seq (.region 1 (rg Try.f32 1) false) (.seq (.seq (.region 2 (rg Try.f32 2) false) (.block 0 (.loop (.seq (.seq (.region 3 (rg Try.f32 3) false) (.cond (.tmp 15) .skip (.exit 0))) (.seq (.block 1 (.seq (.region 5 (rg Try.f32 5) false) (.seq (.region 6 (rg Try.f32 6) false) (.cond (.tmp 27) (.region 7 (rg Try.f32 7) false) .skip)))) (.region 4 (rg Try.f32 4) false)))))) (.seq (.region 8 (rg Try.f32 8) false) .ret))))) (by kernel_rfl) (Nat.le_of_ble_eq_true (by kernel_rfl)) 0 (rs := [.tmp 4]) rfl [] .nil [(false, [.lit (.int .i64 r)])] [] [] fun cx => ?_
  show Tr _ _ _ ⟨33, 0, [(0, .val false [.lit (.int .i64 x0)]), (1, .val false [.sl false 8 (CV.frzEs (x1.map Pt.row))])], []⟩ _
  unfold impl_SendsF at H
  refine Tr.rs ?_
  refine LAt.runU tOk 1 (by kernel_rfl) ?_
  refine LAt.doneU [4, 0, 1] [] (by kernel_rfl) ?_
  refine Tr.rs ?_
  refine LAt.runU tOk 1 (by kernel_rfl) ?_
  refine LAt.doneU [5, 4, 0, 1] [] (by kernel_rfl) ?_
  refine Tr.seq ?_
  refine Tr.rs ?_
  refine LAt.runU tOk 1 (by kernel_rfl) ?_
  refine LAt.doneU [6, 5, 4, 0, 1] [] (by kernel_rfl) ?_
  obtain ⟨o4, eo4, Ho4⟩ := bind_some H
  clear H
  refine Tr.mid (ι := Int) (fun v => ⟨33, 0, [(5, .val false [.lit (.int .i64 v)]), (4, .val false [.lit (.int .i64 0)])], []⟩) (fun v => impl_Sends_J1 n v = some r) ?_ ?_
  · refine Tr.block ?_
    refine Tr.loop (ι := Nat × (Int × Int)) (fun v => ⟨33, 0, [(6, .val false [.lit (.int .i64 v.2.1)]), (5, .val false [.lit (.int .i64 v.2.2)]), (4, .val false [.lit (.int .i64 0)]), (0, .val false [.lit (.int .i64 x0)]), (1, .val false [.sl false 8 (CV.frzEs (x1.map Pt.row))])], []⟩) (fun v => impl_Sends_L2 n v.1 x0 x1 v.2.1 v.2.2 = some o4) (fun v => v.1) (n, (0, 0)) eo4 (St.sub_of [6, 5, 4, 0, 1] [] (by kernel_rfl)) ?_
    rintro ⟨mo4, y1, y2⟩ H
    have H : impl_Sends_L2 n mo4 x0 x1 y1 y2 = some o4 := H
    obtain _ | mo4 := mo4
    · cases (show (none : Option _) = some o4 from H)
    · rw [impl_Sends_L2] at H
      refine Tr.seq ?_
      refine Tr.rs ?_
      refine LAt.runU tOk 2 (by kernel_rfl) ?_
      refine LAt.lenE tOk (t := 43) (ty := 3) (e := 41) (x := (.tmp 9)) (d := 10) (g := none) ⟨(.slot 9), [], 0, false, 8, (CV.frzEs (x1.map Pt.row))⟩ (x1).length _ (by kernel_rfl) (by kernel_rfl) (by kernel_rfl) (by kernel_rfl) (by kernel_rfl) (frz_len _ _) rfl ?_
      refine LAt.runU tOk 2 (by kernel_rfl) ?_
      refine LAt.to ⟨33, 0, [(12, .val false [.lit (.bool (decide (y1 < (x1.length : Int))))]), (11, .val false [.lit (.bool (decide (y1 < (x1.length : Int))))]), (10, .val false [.lit (.int .i64 (x1.length : Int))]), (9, .val false [.sl false 8 (CV.frzEs (x1.map Pt.row))]), (8, .val false [.lit (.int .i64 y1)]), (6, .val false [.lit (.int .i64 y1)]), (5, .val false [.lit (.int .i64 y2)]), (4, .val false [.lit (.int .i64 0)]), (0, .val false [.lit (.int .i64 x0)]), (1, .val false [.sl false 8 (CV.frzEs (x1.map Pt.row))])], []⟩ (by kernel_rfl) ?_
      cases h1 : (decide (y1 < (x1.length : Int)))
      · have H := bifF h1 H
        refine LAt.runU tOk 3 (by kernel_rfl) ?_
        refine LAt.doneU [15, 14, 13, 12, 11, 10, 9, 8, 6, 5, 4, 0, 1] [] (by kernel_rfl) ?_
        refine Tr.cond (b := false) (by kernel_rfl) (fun h => nomatch h) (fun _ => ?_)
        refine Tr.exit ?_
        refine And.intro (fun _ => ?_) (fun h => absurd rfl h)
        have H := Option.some.inj H
        subst H
        have H := Ho4
        dsimp only at H
        exact Exists.intro y2 (And.intro H (St.sub_of [5, 4] [] (by kernel_rfl)))
      · have H := bifT h1 H
        refine LAt.runU tOk 3 (by kernel_rfl) ?_
        refine LAt.doneU [15, 14, 13, 12, 11, 10, 9, 8, 6, 5, 4, 0, 1] [] (by kernel_rfl) ?_
        refine Tr.to ⟨33, 0, [(15, .val false [.lit (.bool (decide (y1 < 6)))]), (14, .val false [.lit (.bool (decide (y1 < 6)))]), (13, .val false [.lit (.int .i64 y1)]), (12, .val false [.lit (.bool true)]), (11, .val false [.lit (.bool true)]), (10, .val false [.lit (.int .i64 (x1.length : Int))]), (9, .val false [.sl false 8 (CV.frzEs (x1.map Pt.row))]), (8, .val false [.lit (.int .i64 y1)]), (6, .val false [.lit (.int .i64 y1)]), (5, .val false [.lit (.int .i64 y2)]), (4, .val false [.lit (.int .i64 0)]), (0, .val false [.lit (.int .i64 x0)]), (1, .val false [.sl false 8 (CV.frzEs (x1.map Pt.row))])], []⟩ (by kernel_rfl) ?_
        cases h2 : (decide (y1 < 6))
        · have H := bifF h2 H
          refine Tr.cond (b := false) (by kernel_rfl) (fun h => nomatch h) (fun _ => ?_)
          refine Tr.exit ?_
          refine And.intro (fun _ => ?_) (fun h => absurd rfl h)
          have H := Option.some.inj H
          subst H
          have H := Ho4
          dsimp only at H
          exact Exists.intro y2 (And.intro H (St.sub_of [5, 4] [] (by kernel_rfl)))
        · have H := bifT h2 H
          refine Tr.cond (b := true) (by kernel_rfl) (fun _ => ?_) (fun h => nomatch h)
          refine Tr.skip ?_
          show Tr _ _ _ _ _
          refine Tr.seq ?_
          refine Tr.block ?_
          refine Tr.rs ?_
          refine LAt.runU tOk 3 (by kernel_rfl) ?_
          obtain ⟨r5, er5, H⟩ := bind_some H
          refine LAt.callU tOk [.rd, .rd, .rd] (f := 100) (av := #[.tmp 18, .tmp 19, .tmp 20]) (ats := #[3, 43, 3]) (d := (some 21)) (ty := 3) (g := none) (by kernel_rfl) (by kernel_rfl) (by kernel_rfl) [] (impl_RoleOf n x0 x1 y1 r5 er5) (by kernel_rfl) (.inl rfl) ?_
          refine LAt.runU tOk 1 (by kernel_rfl) ?_
          refine LAt.doneU [7, 21, 20, 19, 18, 15, 14, 13, 12, 11, 10, 9, 8, 6, 5, 4, 0, 1] [] (by kernel_rfl) ?_
          refine Tr.rs ?_
          refine LAt.runU tOk 3 (by kernel_rfl) ?_
          refine LAt.to ⟨33, 0, [(24, .val false [.lit (.bool (r5 == 1))]), (23, .val false [.lit (.bool (r5 == 1))]), (22, .val false [.lit (.int .i64 r5)]), (7, .val false [.lit (.int .i64 r5)]), (21, .val false [.lit (.int .i64 r5)]), (20, .val false [.lit (.int .i64 y1)]), (19, .val false [.sl false 8 (CV.frzEs (x1.map Pt.row))]), (18, .val false [.lit (.int .i64 x0)]), (15, .val false [.lit (.bool true)]), (14, .val false [.lit (.bool true)]), (13, .val false [.lit (.int .i64 y1)]), (12, .val false [.lit (.bool true)]), (11, .val false [.lit (.bool true)]), (10, .val false [.lit (.int .i64 (x1.length : Int))]), (9, .val false [.sl false 8 (CV.frzEs (x1.map Pt.row))]), (8, .val false [.lit (.int .i64 y1)]), (6, .val false [.lit (.int .i64 y1)]), (5, .val false [.lit (.int .i64 y2)]), (4, .val false [.lit (.int .i64 0)]), (0, .val false [.lit (.int .i64 x0)]), (1, .val false [.sl false 8 (CV.frzEs (x1.map Pt.row))])], []⟩ (by kernel_rfl) ?_
          cases h3 : (r5 == 1)
          · have H := bifF h3 H
            refine LAt.runU tOk 3 (by kernel_rfl) ?_
            refine LAt.doneU [27, 26, 25, 24, 23, 22, 7, 21, 20, 19, 18, 15, 14, 13, 12, 11, 10, 9, 8, 6, 5, 4, 0, 1] [] (by kernel_rfl) ?_
            refine Tr.to ⟨33, 0, [(27, .val false [.lit (.bool (r5 == 2))]), (26, .val false [.lit (.bool (r5 == 2))]), (25, .val false [.lit (.int .i64 r5)]), (24, .val false [.lit (.bool false)]), (23, .val false [.lit (.bool false)]), (22, .val false [.lit (.int .i64 r5)]), (7, .val false [.lit (.int .i64 r5)]), (21, .val false [.lit (.int .i64 r5)]), (20, .val false [.lit (.int .i64 y1)]), (19, .val false [.sl false 8 (CV.frzEs (x1.map Pt.row))]), (18, .val false [.lit (.int .i64 x0)]), (15, .val false [.lit (.bool true)]), (14, .val false [.lit (.bool true)]), (13, .val false [.lit (.int .i64 y1)]), (12, .val false [.lit (.bool true)]), (11, .val false [.lit (.bool true)]), (10, .val false [.lit (.int .i64 (x1.length : Int))]), (9, .val false [.sl false 8 (CV.frzEs (x1.map Pt.row))]), (8, .val false [.lit (.int .i64 y1)]), (6, .val false [.lit (.int .i64 y1)]), (5, .val false [.lit (.int .i64 y2)]), (4, .val false [.lit (.int .i64 0)]), (0, .val false [.lit (.int .i64 x0)]), (1, .val false [.sl false 8 (CV.frzEs (x1.map Pt.row))])], []⟩ (by kernel_rfl) ?_
            cases h4 : (r5 == 2)
            · have H := bifF h4 H
              refine Tr.cond (b := false) (by kernel_rfl) (fun h => nomatch h) (fun _ => ?_)
              refine Tr.skip ?_
              show Tr _ _ _ _ _
              refine Tr.at ?_
              refine LAt.runU tOk 3 (by kernel_rfl) ?_
              refine LAt.doneU [6, 17, 16, 27, 26, 25, 24, 23, 22, 7, 21, 20, 19, 18, 15, 14, 13, 12, 11, 10, 9, 8, 5, 4, 0, 1] [] (by kernel_rfl) ?_
              exact Exists.intro (mo4, ((IntKind.wrap .i64 (y1 + 1)), y2)) (And.intro H (And.intro (Nat.lt_succ_self mo4) (St.sub_of [6, 5, 4, 0, 1] [] (by kernel_rfl))))
            · have H := bifT h4 H
              refine Tr.cond (b := true) (by kernel_rfl) (fun _ => ?_) (fun h => nomatch h)
              refine Tr.at ?_
              refine LAt.runU tOk 2 (by kernel_rfl) ?_
              obtain ⟨hg6, H⟩ := guard_some H
              refine LAt.binC tOk (op := .shl) (t := 3) (ty := 3) (ty' := 3) (x := (.const (.int .i64 1))) (y := (.tmp 29)) (d := 30) (g := none) (.int .i64 1) (.int .i64 y1) (.int .i64 (IntKind.wrap .i64 (1 * 2 ^ min ((y1 : Int)).toNat (IntKind.bits .i64)))) _ (by kernel_rfl) (by kernel_rfl) (by kernel_rfl) (by kernel_rfl) (by kernel_rfl) (φ := (0 : Int) ≤ y1) (by kernel_rfl) (of_decide_eq_true hg6) rfl ?_
              refine LAt.runU tOk 2 (by kernel_rfl) ?_
              refine LAt.doneU [5, 31, 30, 29, 28, 27, 26, 25, 24, 23, 22, 7, 21, 20, 19, 18, 15, 14, 13, 12, 11, 10, 9, 8, 6, 4, 0, 1] [] (by kernel_rfl) ?_
              show Tr _ _ _ _ _
              refine Tr.at ?_
              refine LAt.runU tOk 3 (by kernel_rfl) ?_
              refine LAt.doneU [6, 17, 16, 5, 31, 30, 29, 28, 27, 26, 25, 24, 23, 22, 7, 21, 20, 19, 18, 15, 14, 13, 12, 11, 10, 9, 8, 4, 0, 1] [] (by kernel_rfl) ?_
              exact Exists.intro (mo4, ((IntKind.wrap .i64 (y1 + 1)), (IntKind.wrap .i64 (BitVec.ofInt (IntKind.bits .i64) y2 ||| BitVec.ofInt (IntKind.bits .i64) (IntKind.wrap .i64 (1 * 2 ^ min ((y1 : Int)).toNat (IntKind.bits .i64)))).toNat))) (And.intro H (And.intro (Nat.lt_succ_self mo4) (St.sub_of [6, 5, 4, 0, 1] [] (by kernel_rfl))))
          · have H := bifT h3 H
            refine LAt.runU tOk 3 (by kernel_rfl) ?_
            refine LAt.doneU [27, 26, 25, 24, 23, 22, 7, 21, 20, 19, 18, 15, 14, 13, 12, 11, 10, 9, 8, 6, 5, 4, 0, 1] [] (by kernel_rfl) ?_
            refine Tr.cond (b := true) (by kernel_rfl) (fun _ => ?_) (fun h => nomatch h)
            refine Tr.at ?_
            refine LAt.runU tOk 2 (by kernel_rfl) ?_
            obtain ⟨hg7, H⟩ := guard_some H
            refine LAt.binC tOk (op := .shl) (t := 3) (ty := 3) (ty' := 3) (x := (.const (.int .i64 1))) (y := (.tmp 29)) (d := 30) (g := none) (.int .i64 1) (.int .i64 y1) (.int .i64 (IntKind.wrap .i64 (1 * 2 ^ min ((y1 : Int)).toNat (IntKind.bits .i64)))) _ (by kernel_rfl) (by kernel_rfl) (by kernel_rfl) (by kernel_rfl) (by kernel_rfl) (φ := (0 : Int) ≤ y1) (by kernel_rfl) (of_decide_eq_true hg7) rfl ?_
            refine LAt.runU tOk 2 (by kernel_rfl) ?_
            refine LAt.doneU [5, 31, 30, 29, 28, 27, 26, 25, 24, 23, 22, 7, 21, 20, 19, 18, 15, 14, 13, 12, 11, 10, 9, 8, 6, 4, 0, 1] [] (by kernel_rfl) ?_
            show Tr _ _ _ _ _
            refine Tr.at ?_
            refine LAt.runU tOk 3 (by kernel_rfl) ?_
            refine LAt.doneU [6, 17, 16, 5, 31, 30, 29, 28, 27, 26, 25, 24, 23, 22, 7, 21, 20, 19, 18, 15, 14, 13, 12, 11, 10, 9, 8, 4, 0, 1] [] (by kernel_rfl) ?_
            exact Exists.intro (mo4, ((IntKind.wrap .i64 (y1 + 1)), (IntKind.wrap .i64 (BitVec.ofInt (IntKind.bits .i64) y2 ||| BitVec.ofInt (IntKind.bits .i64) (IntKind.wrap .i64 (1 * 2 ^ min ((y1 : Int)).toNat (IntKind.bits .i64)))).toNat))) (And.intro H (And.intro (Nat.lt_succ_self mo4) (St.sub_of [6, 5, 4, 0, 1] [] (by kernel_rfl))))
  · rintro y3 H
    have H : (impl_Sends_J1 n y3) = some r := H
    unfold impl_Sends_J1 at H
    show Tr _ _ _ _ _
    refine Tr.rs ?_
    refine LAt.runU tOk 2 (by kernel_rfl) ?_
    refine LAt.doneU [4] [] (by kernel_rfl) ?_
    refine Tr.ret ?_
    have H := Option.some.inj H
    subst H
    exact Fin.of _ [(false, [.lit (.int .i64 y3)])] (by kernel_rfl) rfl rfl

def spec_RoleOfF (n : Nat) (x0 : Int) (x1 : (List Pt)) (x2 : Int) : Option (Int) :=
  ((spec_l1InF n x2 0 (IntKind.wrap .i64 ((x1.length : Int) - 1))).bind fun r1 => (bif (!r1) then (some 4) else ((idx x1 x2).bind fun v2 => (bif (!v2.Up) then (some 4) else ((spec_BestVecF n x0 x1).bind fun r3 => (bif (r3.2 == x2) then (some 1) else ((idx x1 x2).bind fun v4 => (bif (!v4.Has) then (some 2) else ((spec_SayVecF n x0 x1 x2).bind fun r5 => ((idx x1 x2).bind fun v6 => ((spec_LessVecF n r5 v6.Heard).bind fun r7 => (bif r7 then (some 2) else (some 3)))))))))))))
/-- loop.example/g00326/spec.RoleOf -/
theorem spec_RoleOf (n : Nat) (x0 : Int) (x1 : (List Pt)) (x2 : Int) (r : Int) (H : spec_RoleOfF n x0 x1 x2 = some r) : LCall Try.prog 101 [.val false [.lit (.int .i64 x0)], .val false [.sl false 8 (CV.frzEs (x1.map Pt.row))], .val false [.lit (.int .i64 x2)]] [.val false [.lit (.int .i64 r)]] [] := by
  refine LCall.of_body tOk Try.func101 rfl (c := (.seq (.region 0 (rg Try.f101 0) false) (.seq (.seq (.region 1 (rg Try.f101 1) false) (.cond (.tmp 22) (.seq (.region 2 (rg Try.f101 2) false) .ret) .skip)) (.seq (.region 3 (rg Try.f101 3) false) (.seq (.block 0 (.seq (.region 4 (rg Try.f101 4) false) (.cond (.tmp 29) (.seq (.region 5 (rg Try.f101 5) false) .ret) (.seq (.region 6 (rg Try.f101 6) true) (.cond (.tmp 33) (.seq (.region 7 (rg Try.f101 7) false) .ret) .skip))))) (.seq (.region 8 (rg Try.f101 8) false) .ret)))))) (by kernel_rfl) (Nat.le_of_ble_eq_true (by kernel_rfl)) 0 (rs := [.tmp 6]) rfl [] .nil [(false, [.lit (.int .i64 r)])] [] [] fun cx => ?_
  show Tr _ _ _ ⟨52, 0, [(0, .val false [.lit (.int .i64 x0)]), (1, .val false [.sl false 8 (CV.frzEs (x1.map Pt.row))]), (2, .val false [.lit (.int .i64 x2)])], []⟩ _
  unfold spec_RoleOfF at H
  refine Tr.rs ?_
  refine LAt.runU tOk 1 (by kernel_rfl) ?_
  refine LAt.doneU [6, 0, 1, 2] [] (by kernel_rfl) ?_
  refine Tr.seq ?_
  refine Tr.rs ?_
  refine LAt.runU tOk 2 (by kernel_rfl) ?_
  refine LAt.lenE tOk (t := 43) (ty := 3) (e := 41) (x := (.tmp 10)) (d := 11) (g := none) ⟨(.slot 10), [], 0, false, 8, (CV.frzEs (x1.map Pt.row))⟩ (x1).length _ (by kernel_rfl) (by kernel_rfl) (by kernel_rfl) (by kernel_rfl) (by kernel_rfl) (frz_len _ _) rfl ?_
  refine LAt.runU tOk 1 (by kernel_rfl) ?_
  obtain ⟨r1, er1, H⟩ := bind_some H
  refine LAt.callU tOk [.rd, .rd, .rd] (f := 76) (av := #[.tmp 9, .const (.int .i64 0), .tmp 12]) (ats := #[3, 3, 3]) (d := (some 13)) (ty := 4) (g := none) (by kernel_rfl) (by kernel_rfl) (by kernel_rfl) [] (spec_l1In n x2 0 (IntKind.wrap .i64 ((x1.length : Int) - 1)) r1 er1) (by kernel_rfl) (.inl rfl) ?_
  refine LAt.runU tOk 2 (by kernel_rfl) ?_
  refine LAt.to ⟨52, 0, [(15, .val false [.lit (.bool (!r1))]), (14, .val false [.lit (.bool (!r1))]), (13, .val false [.lit (.bool r1)]), (12, .val false [.lit (.int .i64 (IntKind.wrap .i64 ((x1.length : Int) - 1)))]), (11, .val false [.lit (.int .i64 (x1.length : Int))]), (10, .val false [.sl false 8 (CV.frzEs (x1.map Pt.row))]), (9, .val false [.lit (.int .i64 x2)]), (6, .val false [.lit (.int .i64 0)]), (0, .val false [.lit (.int .i64 x0)]), (1, .val false [.sl false 8 (CV.frzEs (x1.map Pt.row))]), (2, .val false [.lit (.int .i64 x2)])], []⟩ (by kernel_rfl) ?_
  cases h1 : (!r1)
  · have H := bifF h1 H
    refine LAt.runU tOk 2 (by kernel_rfl) ?_
    obtain ⟨v2, ev2, H⟩ := bind_some H
    refine LAt.indexF tOk (t := 43) (ty := 0) (x := (.tmp 16)) (y := (.tmp 17)) (d := 18) (g := (some (6, false))) ⟨(.slot 16), [], 0, false, 8, (CV.frzEs (x1.map Pt.row))⟩ x2 (Pt.row v2) _ (by kernel_rfl) (by kernel_rfl) (by kernel_rfl) (by kernel_rfl) rfl (idx_isF ev2) rfl ?_
    refine LAt.runU tOk 4 (by kernel_rfl) ?_
    refine LAt.doneU [22, 6, 0, 1, 2] [] (by kernel_rfl) ?_
    refine Tr.to ⟨52, 0, [(22, .val false [.lit (.bool (!v2.Up))]), (6, .val false [.lit (.int .i64 0)]), (0, .val false [.lit (.int .i64 x0)]), (1, .val false [.sl false 8 (CV.frzEs (x1.map Pt.row))]), (2, .val false [.lit (.int .i64 x2)])], []⟩ (by kernel_rfl) ?_
    cases h2 : (!v2.Up)
    · have H := bifF h2 H
      refine Tr.cond (b := false) (by kernel_rfl) (fun h => nomatch h) (fun _ => ?_)
      refine Tr.skip ?_
      show Tr _ _ _ _ _
      refine Tr.rs ?_
      refine LAt.runU tOk 2 (by kernel_rfl) ?_
      obtain ⟨r3, er3, H⟩ := bind_some H
      refine LAt.callU tOk [.rd, .rd] (f := 26) (av := #[.tmp 24, .tmp 25]) (ats := #[3, 43]) (d := (some 26)) (ty := 46) (g := none) (by kernel_rfl) (by kernel_rfl) (by kernel_rfl) [] (spec_BestVec n x0 x1 r3 er3) (by kernel_rfl) (.inl rfl) ?_
      refine LAt.movT tOk (ty := 46) (t := 26) (d := 23) (g := none) [(true, (Vec.row r3.1)), (false, [.lit (.int .i64 r3.2)])] _ (by kernel_rfl) (.inl rfl) (by kernel_rfl) (by kernel_rfl) (by kernel_rfl) (by kernel_rfl) rfl ?_
      refine LAt.runU tOk 5 (by kernel_rfl) ?_
      refine LAt.doneU [8, 6, 0, 1, 2] [] (by kernel_rfl) ?_
      refine Tr.seq ?_
      refine Tr.block ?_
      refine Tr.rs ?_
      refine LAt.runU tOk 4 (by kernel_rfl) ?_
      refine LAt.doneU [29, 6, 0, 1, 2] [] (by kernel_rfl) ?_
      refine Tr.to ⟨52, 0, [(29, .val false [.lit (.bool (r3.2 == x2))]), (6, .val false [.lit (.int .i64 0)]), (0, .val false [.lit (.int .i64 x0)]), (1, .val false [.sl false 8 (CV.frzEs (x1.map Pt.row))]), (2, .val false [.lit (.int .i64 x2)])], []⟩ (by kernel_rfl) ?_
      cases h3 : (r3.2 == x2)
      · have H := bifF h3 H
        refine Tr.cond (b := false) (by kernel_rfl) (fun h => nomatch h) (fun _ => ?_)
        obtain ⟨v4, ev4, H⟩ := bind_some H
        refine Tr.to ⟨52, 0, [(29, .val false [.lit (.bool false)]), (6, .val false [.lit (.int .i64 0)]), (0, .val false [.lit (.int .i64 x0)]), (1, .val false [.sl false 8 (CV.frzEs (x1.map Pt.row))]), (2, .val false [.lit (.int .i64 x2)])], []⟩ (by kernel_rfl) ?_
        cases h4 : (!v4.Has)
        · have H := bifF h4 H
          obtain ⟨r5, er5, H⟩ := bind_some H
          obtain ⟨v6, ev6, H⟩ := bind_some H
          obtain ⟨r7, er7, H⟩ := bind_some H
          refine Tr.draws mixed 19 (by kernel_rfl) ⟨52, 0, [(33, .val false [.lit (.bool r7)]), (6, .val false [.lit (.int .i64 0)])], []⟩ (fun cx => ?_) ?_
          · refine AT.runU tOk [(0, []), (1, [])] 17 [] [1, 0] rfl (by kernel_rfl) (fun cx => ?_)
            refine AT.indexF tOk 2 (t := 43) (ty := 0) (x := (.tmp 34)) (y := (.tmp 35)) (d := 36) (g := none) ⟨(.slot 34), [], 0, false, 8, (CV.frzEs (x1.map Pt.row))⟩ x2 (Pt.row v4) _ (by kernel_rfl) (by kernel_rfl) (by kernel_rfl) (by kernel_rfl) (by kernel_rfl) (by kernel_rfl) rfl (idx_isF ev4) rfl (fun cx => ?_)
            refine AT.runU tOk [(3, []), (4, []), (5, []), (6, [])] 12 [] [6, 5, 4, 3, 2, 1, 0] rfl (by kernel_rfl) (fun cx => ?_)
            refine AT.to ⟨52, 0, [(40, .val false [.lit (.bool (!v4.Has))]), (39, .val false [.lit (.bool (!v4.Has))]), (38, .val false [.lit (.bool v4.Has)]), (37, .fad (((Pt.row v4).drop 2))), (36, .fad ((Pt.row v4))), (35, .val false [.lit (.int .i64 x2)]), (34, .val false [.sl false 8 (CV.frzEs (x1.map Pt.row))]), (29, .val false [.lit (.bool false)]), (6, .val false [.lit (.int .i64 0)]), (0, .val false [.lit (.int .i64 x0)]), (1, .val false [.sl false 8 (CV.frzEs (x1.map Pt.row))]), (2, .val false [.lit (.int .i64 x2)])], []⟩ (by kernel_rfl) ?_
            rw [h4]
            refine AT.runU tOk [(7, []), (8, []), (9, []), (11, []), (12, [])] 7 [] [12, 11, 9, 8, 7, 6, 5, 4, 3, 2, 1, 0] rfl (by kernel_rfl) (fun cx => ?_)
            refine AT.indexF tOk 13 (t := 43) (ty := 0) (x := (.tmp 45)) (y := (.tmp 46)) (d := 47) (g := (some (6, false))) ⟨(.slot 45), [], 0, false, 8, (CV.frzEs (x1.map Pt.row))⟩ x2 (Pt.row v6) _ (by kernel_rfl) (by kernel_rfl) (by kernel_rfl) (by kernel_rfl) (by kernel_rfl) (by kernel_rfl) rfl (idx_isF ev6) rfl (fun cx => ?_)
            refine AT.runU tOk [(14, []), (15, [])] 4 [] [15, 14, 13, 12, 11, 9, 8, 7, 6, 5, 4, 3, 2, 1, 0] rfl (by kernel_rfl) (fun cx => ?_)
            refine AT.big1 tOk 10 (by kernel_rfl) (by kernel_rfl) ?_
            refine LAt.callU tOk [.rd, .rd, .rd] (f := 31) (av := #[.tmp 41, .tmp 42, .tmp 43]) (ats := #[3, 43, 3]) (d := (some 44)) (ty := 39) (g := (some (6, false))) (by kernel_rfl) (by kernel_rfl) (by kernel_rfl) [] (spec_SayVec n x0 x1 x2 r5 er5) (by kernel_rfl) (.inl rfl) ?_
            refine LAt.fin (by kernel_rfl) (And.intro (And.intro (by kernel_rfl) (by kernel_rfl)) ?_)
            refine AT.big1 tOk 16 (by kernel_rfl) (by kernel_rfl) ?_
            refine LAt.callU tOk [.rd, .rd] (f := 96) (av := #[.tmp 44, .tmp 49]) (ats := #[39, 39]) (d := (some 50)) (ty := 4) (g := (some (6, false))) (by kernel_rfl) (by kernel_rfl) (by kernel_rfl) [] (spec_LessVec n r5 v6.Heard r7 er7) (by kernel_rfl) (.inl rfl) ?_
            refine LAt.fin (by kernel_rfl) (And.intro (And.intro (by kernel_rfl) (by kernel_rfl)) ?_)
            refine AT.runU tOk [(17, []), (18, [])] 0 [] [18, 17, 16, 10, 15, 14, 13, 12, 11, 9, 8, 7, 6, 5, 4, 3, 2, 1, 0] rfl (by kernel_rfl) (fun cx => ?_)
            exact AT.done [33, 6] [] _ (by kernel_rfl) (by kernel_rfl) rfl
          · refine Tr.to ⟨52, 0, [(33, .val false [.lit (.bool r7)]), (6, .val false [.lit (.int .i64 0)])], []⟩ (by kernel_rfl) ?_
            cases h5 : r7
            · have H := bifF h5 H
              refine Tr.cond (b := false) (by kernel_rfl) (fun h => nomatch h) (fun _ => ?_)
              refine Tr.skip ?_
              show Tr _ _ _ _ _
              refine Tr.rs ?_
              refine LAt.runU tOk 1 (by kernel_rfl) ?_
              refine LAt.doneU [6] [] (by kernel_rfl) ?_
              refine Tr.ret ?_
              have H := Option.some.inj H
              subst H
              exact Fin.of _ [(false, [.lit (.int .i64 3)])] (by kernel_rfl) rfl rfl
            · have H := bifT h5 H
              refine Tr.cond (b := true) (by kernel_rfl) (fun _ => ?_) (fun h => nomatch h)
              refine Tr.rs ?_
              refine LAt.runU tOk 1 (by kernel_rfl) ?_
              refine LAt.doneU [6] [] (by kernel_rfl) ?_
              refine Tr.ret ?_
              have H := Option.some.inj H
              subst H
              exact Fin.of _ [(false, [.lit (.int .i64 2)])] (by kernel_rfl) rfl rfl
        · have H := bifT h4 H
          refine Tr.draws mixed 19 (by kernel_rfl) ⟨52, 0, [(33, .val false [.lit (.bool true)]), (6, .val false [.lit (.int .i64 0)])], []⟩ (fun cx => ?_) ?_
          · refine AT.runU tOk [(0, []), (1, [])] 17 [] [1, 0] rfl (by kernel_rfl) (fun cx => ?_)
            refine AT.indexF tOk 2 (t := 43) (ty := 0) (x := (.tmp 34)) (y := (.tmp 35)) (d := 36) (g := none) ⟨(.slot 34), [], 0, false, 8, (CV.frzEs (x1.map Pt.row))⟩ x2 (Pt.row v4) _ (by kernel_rfl) (by kernel_rfl) (by kernel_rfl) (by kernel_rfl) (by kernel_rfl) (by kernel_rfl) rfl (idx_isF ev4) rfl (fun cx => ?_)
            refine AT.runU tOk [(3, []), (4, []), (5, []), (6, [])] 12 [] [6, 5, 4, 3, 2, 1, 0] rfl (by kernel_rfl) (fun cx => ?_)
            refine AT.to ⟨52, 0, [(40, .val false [.lit (.bool (!v4.Has))]), (39, .val false [.lit (.bool (!v4.Has))]), (38, .val false [.lit (.bool v4.Has)]), (37, .fad (((Pt.row v4).drop 2))), (36, .fad ((Pt.row v4))), (35, .val false [.lit (.int .i64 x2)]), (34, .val false [.sl false 8 (CV.frzEs (x1.map Pt.row))]), (29, .val false [.lit (.bool false)]), (6, .val false [.lit (.int .i64 0)]), (0, .val false [.lit (.int .i64 x0)]), (1, .val false [.sl false 8 (CV.frzEs (x1.map Pt.row))]), (2, .val false [.lit (.int .i64 x2)])], []⟩ (by kernel_rfl) ?_
            rw [h4]
            refine AT.runU tOk [(7, []), (8, []), (9, []), (10, []), (11, []), (12, []), (13, []), (14, []), (15, []), (16, []), (17, []), (18, [])] 0 [] [18, 17, 16, 15, 14, 13, 12, 11, 10, 9, 8, 7, 6, 5, 4, 3, 2, 1, 0] rfl (by kernel_rfl) (fun cx => ?_)
            exact AT.done [33, 6] [] _ (by kernel_rfl) (by kernel_rfl) rfl
          · refine Tr.cond (b := true) (by kernel_rfl) (fun _ => ?_) (fun h => nomatch h)
            refine Tr.rs ?_
            refine LAt.runU tOk 1 (by kernel_rfl) ?_
            refine LAt.doneU [6] [] (by kernel_rfl) ?_
            refine Tr.ret ?_
            have H := Option.some.inj H
            subst H
            exact Fin.of _ [(false, [.lit (.int .i64 2)])] (by kernel_rfl) rfl rfl
      · have H := bifT h3 H
        refine Tr.cond (b := true) (by kernel_rfl) (fun _ => ?_) (fun h => nomatch h)
        refine Tr.rs ?_
        refine LAt.runU tOk 1 (by kernel_rfl) ?_
        refine LAt.doneU [6] [] (by kernel_rfl) ?_
        refine Tr.ret ?_
        have H := Option.some.inj H
        subst H
        exact Fin.of _ [(false, [.lit (.int .i64 1)])] (by kernel_rfl) rfl rfl
    · have H := bifT h2 H
      refine Tr.cond (b := true) (by kernel_rfl) (fun _ => ?_) (fun h => nomatch h)
      refine Tr.rs ?_
      refine LAt.runU tOk 1 (by kernel_rfl) ?_
      refine LAt.doneU [6, 0, 1, 2] [] (by kernel_rfl) ?_
      refine Tr.ret ?_
      have H := Option.some.inj H
      subst H
      exact Fin.of _ [(false, [.lit (.int .i64 4)])] (by kernel_rfl) rfl rfl
  · have H := bifT h1 H
    refine LAt.runU tOk 7 (by kernel_rfl) ?_
    refine LAt.doneU [22, 6, 0, 1, 2] [] (by kernel_rfl) ?_
    refine Tr.cond (b := true) (by kernel_rfl) (fun _ => ?_) (fun h => nomatch h)
    refine Tr.rs ?_
    refine LAt.runU tOk 1 (by kernel_rfl) ?_
    refine LAt.doneU [6, 0, 1, 2] [] (by kernel_rfl) ?_
    refine Tr.ret ?_
    have H := Option.some.inj H
    subst H
    exact Fin.of _ [(false, [.lit (.int .i64 4)])] (by kernel_rfl) rfl rfl

def spec_Sends_J1 (n : Nat) (y3 : Int) : Option (Int) :=
  (some y3)
def spec_Sends_L2 (n : Nat) : Nat → Int → (List Pt) → Int → Int → Option ((Int) ⊕ (Int))
  | 0, _, _, _, _ => none
  | mo4 + 1, x0, x1, y1, y2 => (bif (decide (y1 < (x1.length : Int))) then (bif (decide (y1 < 6)) then ((spec_RoleOfF n x0 x1 y1).bind fun r5 => (bif (decide (r5 ≤ 2)) then (bif (decide ((0 : Int) ≤ (IntKind.wrap .u64 y1))) then (spec_Sends_L2 n mo4 x0 x1 (IntKind.wrap .i64 (y1 + 1)) (IntKind.wrap .i64 (BitVec.ofInt (IntKind.bits .i64) y2 ||| BitVec.ofInt (IntKind.bits .i64) (IntKind.wrap .i64 (1 * 2 ^ min (((IntKind.wrap .u64 y1) : Int)).toNat (IntKind.bits .i64)))).toNat)) else none) else (spec_Sends_L2 n mo4 x0 x1 (IntKind.wrap .i64 (y1 + 1)) y2))) else (some (Sum.inl y2))) else (some (Sum.inl y2)))
def spec_SendsF (n : Nat) (x0 : Int) (x1 : (List Pt)) : Option (Int) :=
  ((spec_Sends_L2 n n x0 x1 0 0).bind fun o => match o with | .inl y3 => (spec_Sends_J1 n y3) | .inr r => some r)
/-- loop.example/g00326/spec.Sends -/
theorem spec_Sends (n : Nat) (x0 : Int) (x1 : (List Pt)) (r : Int) (H : spec_SendsF n x0 x1 = some r) : LCall Try.prog 33 [.val false [.lit (.int .i64 x0)], .val false [.sl false 8 (CV.frzEs (x1.map Pt.row))]] [.val false [.lit (.int .i64 r)]] [] := by
  refine LCall.of_body tOk Try.func33 rfl (c := (.seq (.region 0 (rg Try.f33 0) false) (.seq (.region 1 (rg Try.f33 1) false) (.seq (.seq (.region 2 (rg Try.f33 2) false) (.block 0 (.loop (.seq (.seq (.region 3 (rg Try.f33 3) false) (.cond (.tmp 14) .skip (.exit 0))) (.seq (.block 1 (.seq (.region 5 (rg Try.f33 5) false) (.cond (.tmp 21) (.region 6 (rg Try.f33 6) false) .skip))) (.region 4 (rg Try.f33 4) false)))))) (.seq (.region 7 (rg Try.f33 7) false) .ret))))) (by kernel_rfl) (Nat.le_of_ble_eq_true (by kernel_rfl)) 0 (rs := [.tmp 4]) rfl [] .nil [(false, [.lit (.int .i64 r)])] [] [] fun cx => ?_
  show Tr _ _ _ ⟨28, 0, [(0, .val false [.lit (.int .i64 x0)]), (1, .val false [.sl false 8 (CV.frzEs (x1.map Pt.row))])], []⟩ _
  unfold spec_SendsF at H
  refine Tr.rs ?_
  refine LAt.runU tOk 1 (by kernel_rfl) ?_
  refine LAt.doneU [4, 0, 1] [] (by kernel_rfl) ?_
  refine Tr.rs ?_
  refine LAt.runU tOk 1 (by kernel_rfl) ?_
  refine LAt.doneU [5, 4, 0, 1] [] (by kernel_rfl) ?_
  refine Tr.seq ?_
  refine Tr.rs ?_
  refine LAt.runU tOk 1 (by kernel_rfl) ?_
  refine LAt.doneU [6, 5, 4, 0, 1] [] (by kernel_rfl) ?_
  obtain ⟨o4, eo4, Ho4⟩ := bind_some H
  clear H
  refine Tr.mid (ι := Int) (fun v => ⟨28, 0, [(5, .val false [.lit (.int .i64 v)]), (4, .val false [.lit (.int .i64 0)])], []⟩) (fun v => spec_Sends_J1 n v = some r) ?_ ?_
  · refine Tr.block ?_
    refine Tr.loop (ι := Nat × (Int × Int)) (fun v => ⟨28, 0, [(6, .val false [.lit (.int .i64 v.2.1)]), (5, .val false [.lit (.int .i64 v.2.2)]), (4, .val false [.lit (.int .i64 0)]), (0, .val false [.lit (.int .i64 x0)]), (1, .val false [.sl false 8 (CV.frzEs (x1.map Pt.row))])], []⟩) (fun v => spec_Sends_L2 n v.1 x0 x1 v.2.1 v.2.2 = some o4) (fun v => v.1) (n, (0, 0)) eo4 (St.sub_of [6, 5, 4, 0, 1] [] (by kernel_rfl)) ?_
    rintro ⟨mo4, y1, y2⟩ H
    have H : spec_Sends_L2 n mo4 x0 x1 y1 y2 = some o4 := H
    obtain _ | mo4 := mo4
    · cases (show (none : Option _) = some o4 from H)
    · rw [spec_Sends_L2] at H
      refine Tr.seq ?_
      refine Tr.rs ?_
      refine LAt.runU tOk 2 (by kernel_rfl) ?_
      refine LAt.lenE tOk (t := 43) (ty := 3) (e := 41) (x := (.tmp 8)) (d := 9) (g := none) ⟨(.slot 8), [], 0, false, 8, (CV.frzEs (x1.map Pt.row))⟩ (x1).length _ (by kernel_rfl) (by kernel_rfl) (by kernel_rfl) (by kernel_rfl) (by kernel_rfl) (frz_len _ _) rfl ?_
      refine LAt.runU tOk 2 (by kernel_rfl) ?_
      refine LAt.to ⟨28, 0, [(11, .val false [.lit (.bool (decide (y1 < (x1.length : Int))))]), (10, .val false [.lit (.bool (decide (y1 < (x1.length : Int))))]), (9, .val false [.lit (.int .i64 (x1.length : Int))]), (8, .val false [.sl false 8 (CV.frzEs (x1.map Pt.row))]), (7, .val false [.lit (.int .i64 y1)]), (6, .val false [.lit (.int .i64 y1)]), (5, .val false [.lit (.int .i64 y2)]), (4, .val false [.lit (.int .i64 0)]), (0, .val false [.lit (.int .i64 x0)]), (1, .val false [.sl false 8 (CV.frzEs (x1.map Pt.row))])], []⟩ (by kernel_rfl) ?_
      cases h1 : (decide (y1 < (x1.length : Int)))
      · have H := bifF h1 H
        refine LAt.runU tOk 3 (by kernel_rfl) ?_
        refine LAt.doneU [14, 13, 12, 11, 10, 9, 8, 7, 6, 5, 4, 0, 1] [] (by kernel_rfl) ?_
        refine Tr.cond (b := false) (by kernel_rfl) (fun h => nomatch h) (fun _ => ?_)
        refine Tr.exit ?_
        refine And.intro (fun _ => ?_) (fun h => absurd rfl h)
        have H := Option.some.inj H
        subst H
        have H := Ho4
        dsimp only at H
        exact Exists.intro y2 (And.intro H (St.sub_of [5, 4] [] (by kernel_rfl)))
      · have H := bifT h1 H
        refine LAt.runU tOk 3 (by kernel_rfl) ?_
        refine LAt.doneU [14, 13, 12, 11, 10, 9, 8, 7, 6, 5, 4, 0, 1] [] (by kernel_rfl) ?_
        refine Tr.to ⟨28, 0, [(14, .val false [.lit (.bool (decide (y1 < 6)))]), (13, .val false [.lit (.bool (decide (y1 < 6)))]), (12, .val false [.lit (.int .i64 y1)]), (11, .val false [.lit (.bool true)]), (10, .val false [.lit (.bool true)]), (9, .val false [.lit (.int .i64 (x1.length : Int))]), (8, .val false [.sl false 8 (CV.frzEs (x1.map Pt.row))]), (7, .val false [.lit (.int .i64 y1)]), (6, .val false [.lit (.int .i64 y1)]), (5, .val false [.lit (.int .i64 y2)]), (4, .val false [.lit (.int .i64 0)]), (0, .val false [.lit (.int .i64 x0)]), (1, .val false [.sl false 8 (CV.frzEs (x1.map Pt.row))])], []⟩ (by kernel_rfl) ?_
        cases h2 : (decide (y1 < 6))
        · have H := bifF h2 H
          refine Tr.cond (b := false) (by kernel_rfl) (fun h => nomatch h) (fun _ => ?_)
          refine Tr.exit ?_
          refine And.intro (fun _ => ?_) (fun h => absurd rfl h)
          have H := Option.some.inj H
          subst H
          have H := Ho4
          dsimp only at H
          exact Exists.intro y2 (And.intro H (St.sub_of [5, 4] [] (by kernel_rfl)))
        · have H := bifT h2 H
          refine Tr.cond (b := true) (by kernel_rfl) (fun _ => ?_) (fun h => nomatch h)
          refine Tr.skip ?_
          show Tr _ _ _ _ _
          refine Tr.seq ?_
          refine Tr.block ?_
          refine Tr.rs ?_
          refine LAt.runU tOk 3 (by kernel_rfl) ?_
          obtain ⟨r5, er5, H⟩ := bind_some H
          refine LAt.callU tOk [.rd, .rd, .rd] (f := 101) (av := #[.tmp 17, .tmp 18, .tmp 19]) (ats := #[3, 43, 3]) (d := (some 20)) (ty := 3) (g := none) (by kernel_rfl) (by kernel_rfl) (by kernel_rfl) [] (spec_RoleOf n x0 x1 y1 r5 er5) (by kernel_rfl) (.inl rfl) ?_
          refine LAt.runU tOk 1 (by kernel_rfl) ?_
          refine LAt.doneU [21, 20, 19, 18, 17, 14, 13, 12, 11, 10, 9, 8, 7, 6, 5, 4, 0, 1] [] (by kernel_rfl) ?_
          refine Tr.to ⟨28, 0, [(21, .val false [.lit (.bool (decide (r5 ≤ 2)))]), (20, .val false [.lit (.int .i64 r5)]), (19, .val false [.lit (.int .i64 y1)]), (18, .val false [.sl false 8 (CV.frzEs (x1.map Pt.row))]), (17, .val false [.lit (.int .i64 x0)]), (14, .val false [.lit (.bool true)]), (13, .val false [.lit (.bool true)]), (12, .val false [.lit (.int .i64 y1)]), (11, .val false [.lit (.bool true)]), (10, .val false [.lit (.bool true)]), (9, .val false [.lit (.int .i64 (x1.length : Int))]), (8, .val false [.sl false 8 (CV.frzEs (x1.map Pt.row))]), (7, .val false [.lit (.int .i64 y1)]), (6, .val false [.lit (.int .i64 y1)]), (5, .val false [.lit (.int .i64 y2)]), (4, .val false [.lit (.int .i64 0)]), (0, .val false [.lit (.int .i64 x0)]), (1, .val false [.sl false 8 (CV.frzEs (x1.map Pt.row))])], []⟩ (by kernel_rfl) ?_
          cases h3 : (decide (r5 ≤ 2))
          · have H := bifF h3 H
            refine Tr.cond (b := false) (by kernel_rfl) (fun h => nomatch h) (fun _ => ?_)
            refine Tr.skip ?_
            show Tr _ _ _ _ _
            refine Tr.at ?_
            refine LAt.runU tOk 3 (by kernel_rfl) ?_
            refine LAt.doneU [6, 16, 15, 21, 20, 19, 18, 17, 14, 13, 12, 11, 10, 9, 8, 7, 5, 4, 0, 1] [] (by kernel_rfl) ?_
            exact Exists.intro (mo4, ((IntKind.wrap .i64 (y1 + 1)), y2)) (And.intro H (And.intro (Nat.lt_succ_self mo4) (St.sub_of [6, 5, 4, 0, 1] [] (by kernel_rfl))))
          · have H := bifT h3 H
            refine Tr.cond (b := true) (by kernel_rfl) (fun _ => ?_) (fun h => nomatch h)
            refine Tr.at ?_
            refine LAt.runU tOk 3 (by kernel_rfl) ?_
            obtain ⟨hg6, H⟩ := guard_some H
            refine LAt.binC tOk (op := .shl) (t := 3) (ty := 136) (ty' := 3) (x := (.const (.int .i64 1))) (y := (.tmp 24)) (d := 25) (g := none) (.int .i64 1) (.int .u64 (IntKind.wrap .u64 y1)) (.int .i64 (IntKind.wrap .i64 (1 * 2 ^ min (((IntKind.wrap .u64 y1) : Int)).toNat (IntKind.bits .i64)))) _ (by kernel_rfl) (by kernel_rfl) (by kernel_rfl) (by kernel_rfl) (by kernel_rfl) (φ := (0 : Int) ≤ (IntKind.wrap .u64 y1)) (by kernel_rfl) (of_decide_eq_true hg6) rfl ?_
            refine LAt.runU tOk 2 (by kernel_rfl) ?_
            refine LAt.doneU [5, 26, 25, 24, 23, 22, 21, 20, 19, 18, 17, 14, 13, 12, 11, 10, 9, 8, 7, 6, 4, 0, 1] [] (by kernel_rfl) ?_
            show Tr _ _ _ _ _
            refine Tr.at ?_
            refine LAt.runU tOk 3 (by kernel_rfl) ?_
            refine LAt.doneU [6, 16, 15, 5, 26, 25, 24, 23, 22, 21, 20, 19, 18, 17, 14, 13, 12, 11, 10, 9, 8, 7, 4, 0, 1] [] (by kernel_rfl) ?_
            exact Exists.intro (mo4, ((IntKind.wrap .i64 (y1 + 1)), (IntKind.wrap .i64 (BitVec.ofInt (IntKind.bits .i64) y2 ||| BitVec.ofInt (IntKind.bits .i64) (IntKind.wrap .i64 (1 * 2 ^ min (((IntKind.wrap .u64 y1) : Int)).toNat (IntKind.bits .i64)))).toNat))) (And.intro H (And.intro (Nat.lt_succ_self mo4) (St.sub_of [6, 5, 4, 0, 1] [] (by kernel_rfl))))
  · rintro y3 H
    have H : (spec_Sends_J1 n y3) = some r := H
    unfold spec_Sends_J1 at H
    show Tr _ _ _ _ _
    refine Tr.rs ?_
    refine LAt.runU tOk 2 (by kernel_rfl) ?_
    refine LAt.doneU [4] [] (by kernel_rfl) ?_
    refine Tr.ret ?_
    have H := Option.some.inj H
    subst H
    exact Fin.of _ [(false, [.lit (.int .i64 y3)])] (by kernel_rfl) rfl rfl

def laws_FnRolesBentF (n : Nat) (x0 : (List Int)) : Option (Bool) :=
  ((laws_bigF n x0).bind fun r1 => (bif r1 then (some true) else ((spec_DrawPtOkF n x0).bind fun r2 => ((spec_DrawBestVecF n x0).bind fun r3 => ((impl_BestVecF n r3.1 r3.2).bind fun r4 => ((spec_BestVecF n r3.1 r3.2).bind fun r5 => ((spec_DrawSayVecF n x0).bind fun r6 => ((impl_SayVecF n r6.1 r6.2.1 r6.2.2).bind fun r7 => ((impl_PtOkF n r2).bind fun r8 => ((spec_PtOkF n r2).bind fun r9 => (bif (r8 == r9) then (bif ((r4.1.Root == r5.1.Root) && ((r4.1.Cost == r5.1.Cost) && ((r4.1.Hops == r5.1.Hops) && ((r4.1.Bridge == r5.1.Bridge) && ((r4.1.Port == r5.1.Port) && true))))) then (bif (r4.2 == r5.2) then ((spec_SayVecF n r6.1 r6.2.1 r6.2.2).bind fun r10 => (bif ((r7.Root == r10.Root) && ((r7.Cost == r10.Cost) && ((r7.Hops == r10.Hops) && ((r7.Bridge == r10.Bridge) && ((r7.Port == r10.Port) && true))))) then (bif (r7.Port == r6.2.2) then ((impl_SendsF n r3.1 r3.2).bind fun r11 => ((spec_SendsF n r3.1 r3.2).bind fun r12 => (some (r11 == r12)))) else (some false)) else (some false))) else (some false)) else (some false)) else (some false))))))))))))
/-- loop.example/g00326/laws.FnRolesBent -/
theorem laws_FnRolesBent (n : Nat) (x0 : (List Int)) (r : Bool) (H : laws_FnRolesBentF n x0 = some r) : LCall Try.prog 4 [.val false [.sl false 1 (CV.frzEs (x0.map byteRow))]] [.val false [.lit (.bool r)]] [] := by
  refine LCall.of_body tOk Try.func4 rfl (c := (.seq (.region 0 (rg Try.f4 0) false) (.seq (.seq (.region 1 (rg Try.f4 1) false) (.cond (.tmp 15) (.seq (.region 2 (rg Try.f4 2) false) .ret) .skip)) (.seq (.region 3 (rg Try.f4 3) false) (.seq (.region 4 (rg Try.f4 4) false) (.seq (.region 5 (rg Try.f4 5) false) (.seq (.region 6 (rg Try.f4 6) false) (.seq (.region 7 (rg Try.f4 7) false) (.seq (.region 8 (rg Try.f4 8) false) (.seq (.region 9 (rg Try.f4 9) true) .ret)))))))))) (by kernel_rfl) (Nat.le_of_ble_eq_true (by kernel_rfl)) 0 (rs := [.tmp 2]) rfl [] .nil [(false, [.lit (.bool r)])] [] [] fun cx => ?_
  show Tr _ _ _ ⟨83, 0, [(0, .val false [.sl false 1 (CV.frzEs (x0.map byteRow))])], []⟩ _
  unfold laws_FnRolesBentF at H
  refine Tr.rs ?_
  refine LAt.runU tOk 1 (by kernel_rfl) ?_
  refine LAt.doneU [2, 0] [] (by kernel_rfl) ?_
  refine Tr.seq ?_
  refine Tr.rs ?_
  refine LAt.runU tOk 1 (by kernel_rfl) ?_
  obtain ⟨r1, er1, H⟩ := bind_some H
  refine LAt.callU tOk [.rd] (f := 22) (av := #[.tmp 14]) (ats := #[36]) (d := (some 15)) (ty := 4) (g := none) (by kernel_rfl) (by kernel_rfl) (by kernel_rfl) [] (laws_big n x0 r1 er1) (by kernel_rfl) (.inl rfl) ?_
  refine LAt.doneU [15, 2, 0] [] (by kernel_rfl) ?_
  refine Tr.to ⟨83, 0, [(15, .val false [.lit (.bool r1)]), (2, .val false [.lit (.bool false)]), (0, .val false [.sl false 1 (CV.frzEs (x0.map byteRow))])], []⟩ (by kernel_rfl) ?_
  cases h1 : r1
  · have H := bifF h1 H
    refine Tr.cond (b := false) (by kernel_rfl) (fun h => nomatch h) (fun _ => ?_)
    refine Tr.skip ?_
    show Tr _ _ _ _ _
    refine Tr.rs ?_
    refine LAt.runU tOk 1 (by kernel_rfl) ?_
    obtain ⟨r2, er2, H⟩ := bind_some H
    refine LAt.callU tOk [.rd] (f := 23) (av := #[.tmp 16]) (ats := #[36]) (d := (some 17)) (ty := 41) (g := none) (by kernel_rfl) (by kernel_rfl) (by kernel_rfl) [] (spec_DrawPtOk n x0 r2 er2) (by kernel_rfl) (.inl rfl) ?_
    refine LAt.runU tOk 2 (by kernel_rfl) ?_
    refine LAt.doneU [3, 2, 0] [3] (by kernel_rfl) ?_
    refine Tr.rs ?_
    refine LAt.runU tOk 1 (by kernel_rfl) ?_
    obtain ⟨r3, er3, H⟩ := bind_some H
    refine LAt.callU tOk [.rd] (f := 24) (av := #[.tmp 19]) (ats := #[36]) (d := (some 20)) (ty := 44) (g := none) (by kernel_rfl) (by kernel_rfl) (by kernel_rfl) [] (spec_DrawBestVec n x0 r3 er3) (by kernel_rfl) (.inl rfl) ?_
    refine LAt.movT tOk (ty := 44) (t := 20) (d := 18) (g := none) [(false, [.lit (.int .i64 r3.1)]), (false, [.sl true 8 (r3.2.map Pt.row)])] _ (by kernel_rfl) (.inl rfl) (by kernel_rfl) (by kernel_rfl) (by kernel_rfl) (by kernel_rfl) rfl ?_
    refine LAt.runU tOk 3 (by kernel_rfl) ?_
    refine LAt.moveU (T := lk tab) (ty := 43) (x := (.tmp 22)) (d := 5) (g := none) false [.sl true 8 (r3.2.map Pt.row)] (by kernel_rfl) (by kernel_rfl) (by kernel_rfl) (by kernel_rfl) (by kernel_rfl) ?_
    refine LAt.doneU [5, 4, 3, 2, 0] [3] (by kernel_rfl) ?_
    refine Tr.rs ?_
    refine LAt.runU tOk 2 (by kernel_rfl) ?_
    obtain ⟨r4, er4, H⟩ := bind_some H
    refine LAt.callU tOk [.rd, .rd] (f := 25) (av := #[.tmp 24, .tmp 25]) (ats := #[3, 43]) (d := (some 26)) (ty := 46) (g := none) (by kernel_rfl) (by kernel_rfl) (by kernel_rfl) [.slot 5] (impl_BestVec n r3.1 r3.2 r4 er4) (by kernel_rfl) (.inr (rets_cons (Vec.row_mine _) (rets_cons (mine_cons mine_lit mine_nil) rets_nil))) ?_
    refine LAt.movT tOk (ty := 46) (t := 26) (d := 23) (g := none) [(true, (Vec.row r4.1)), (false, [.lit (.int .i64 r4.2)])] _ (by kernel_rfl) (.inl rfl) (by kernel_rfl) (by kernel_rfl) (by kernel_rfl) (by kernel_rfl) rfl ?_
    refine LAt.runU tOk 5 (by kernel_rfl) ?_
    refine LAt.doneU [7, 6, 5, 4, 3, 2, 0] [6, 3] (by kernel_rfl) ?_
    refine Tr.rs ?_
    refine LAt.runU tOk 2 (by kernel_rfl) ?_
    obtain ⟨r5, er5, H⟩ := bind_some H
    refine LAt.callU tOk [.rd, .rd] (f := 26) (av := #[.tmp 30, .tmp 31]) (ats := #[3, 43]) (d := (some 32)) (ty := 46) (g := none) (by kernel_rfl) (by kernel_rfl) (by kernel_rfl) [.slot 5] (spec_BestVec n r3.1 r3.2 r5 er5) (by kernel_rfl) (.inr (rets_cons (Vec.row_mine _) (rets_cons (mine_cons mine_lit mine_nil) rets_nil))) ?_
    refine LAt.movT tOk (ty := 46) (t := 32) (d := 29) (g := none) [(true, (Vec.row r5.1)), (false, [.lit (.int .i64 r5.2)])] _ (by kernel_rfl) (.inl rfl) (by kernel_rfl) (by kernel_rfl) (by kernel_rfl) (by kernel_rfl) rfl ?_
    refine LAt.runU tOk 5 (by kernel_rfl) ?_
    refine LAt.doneU [9, 8, 7, 6, 5, 4, 3, 2, 0] [8, 6, 3] (by kernel_rfl) ?_
    refine Tr.rs ?_
    refine LAt.runU tOk 1 (by kernel_rfl) ?_
    obtain ⟨r6, er6, H⟩ := bind_some H
    refine LAt.callU tOk [.rd] (f := 27) (av := #[.tmp 36]) (ats := #[36]) (d := (some 37)) (ty := 48) (g := none) (by kernel_rfl) (by kernel_rfl) (by kernel_rfl) [] (spec_DrawSayVec n x0 r6 er6) (by kernel_rfl) (.inl rfl) ?_
    refine LAt.movT tOk (ty := 48) (t := 37) (d := 35) (g := none) [(false, [.lit (.int .i64 r6.1)]), (false, [.sl true 8 (r6.2.1.map Pt.row)]), (false, [.lit (.int .i64 r6.2.2)])] _ (by kernel_rfl) (.inl rfl) (by kernel_rfl) (by kernel_rfl) (by kernel_rfl) (by kernel_rfl) rfl ?_
    refine LAt.runU tOk 4 (by kernel_rfl) ?_
    refine LAt.moveU (T := lk tab) (ty := 43) (x := (.tmp 39)) (d := 11) (g := none) false [.sl true 8 (r6.2.1.map Pt.row)] (by kernel_rfl) (by kernel_rfl) (by kernel_rfl) (by kernel_rfl) (by kernel_rfl) ?_
    refine LAt.runU tOk 1 (by kernel_rfl) ?_
    refine LAt.doneU [12, 11, 10, 9, 8, 7, 6, 5, 4, 3, 2] [8, 6, 3] (by kernel_rfl) ?_
    refine Tr.rs ?_
    refine LAt.runU tOk 3 (by kernel_rfl) ?_
    obtain ⟨r7, er7, H⟩ := bind_some H
    refine LAt.callU tOk [.rd, .rd, .rd] (f := 28) (av := #[.tmp 41, .tmp 42, .tmp 43]) (ats := #[3, 43, 3]) (d := (some 44)) (ty := 39) (g := none) (by kernel_rfl) (by kernel_rfl) (by kernel_rfl) [.slot 11] (impl_SayVec n r6.1 r6.2.1 r6.2.2 r7 er7) (by kernel_rfl) (.inr (rets_cons (Vec.row_mine _) rets_nil)) ?_
    refine LAt.runU tOk 2 (by kernel_rfl) ?_
    refine LAt.doneU [13, 12, 11, 10, 9, 8, 7, 6, 5, 4, 3, 2] [13, 8, 6, 3] (by kernel_rfl) ?_
    obtain ⟨r8, er8, H⟩ := bind_some H
    obtain ⟨r9, er9, H⟩ := bind_some H
    refine Tr.to ⟨83, 0, [(13, .adr (.box 13) [(0, 0)] 5 0), (12, .val false [.lit (.int .i64 r6.2.2)]), (11, .val false [.sl true 8 (r6.2.1.map Pt.row)]), (10, .val false [.lit (.int .i64 r6.1)]), (9, .val false [.lit (.int .i64 r5.2)]), (8, .adr (.box 8) [(0, 0)] 5 0), (7, .val false [.lit (.int .i64 r4.2)]), (6, .adr (.box 6) [(0, 0)] 5 0), (5, .val false [.sl true 8 (r3.2.map Pt.row)]), (4, .val false [.lit (.int .i64 r3.1)]), (3, .adr (.box 3) [(0, 0)] 8 0), (2, .val false [.lit (.bool false)])], [(13, (Vec.row r7)), (8, (Vec.row r5.1)), (6, (Vec.row r4.1)), (3, (Pt.row r2))]⟩ (by kernel_rfl) ?_
    cases h2 : (r8 == r9)
    · have H := bifF h2 H
      refine Tr.draws mixed 39 (by kernel_rfl) ⟨83, 0, [(2, .val false [.lit (.bool false)])], []⟩ (fun cx => ?_) ?_
      · refine AT.runU tOk [(0, [1, 3]), (2, [3])] 37 [⟨[3], 41, 3, 47⟩, ⟨[1, 3], 41, 3, 45⟩] [2, 0] rfl (by kernel_rfl) (fun cx => ?_)
        refine AT.big1 tOk 1 (by kernel_rfl) (by kernel_rfl) ?_
        refine LAt.callU tOk [.rd] (f := 29) (av := #[.tmp 45]) (ats := #[41]) (d := (some 46)) (ty := 4) (g := none) (by kernel_rfl) (by kernel_rfl) (by kernel_rfl) [] (impl_PtOk n r2 r8 er8) (by kernel_rfl) (.inl rfl) ?_
        refine LAt.fin (by kernel_rfl) (And.intro (And.intro (by kernel_rfl) (by kernel_rfl)) ?_)
        refine AT.big1 tOk 3 (by kernel_rfl) (by kernel_rfl) ?_
        refine LAt.callU tOk [.rd] (f := 30) (av := #[.tmp 47]) (ats := #[41]) (d := (some 48)) (ty := 4) (g := none) (by kernel_rfl) (by kernel_rfl) (by kernel_rfl) [] (spec_PtOk n r2 r9 er9) (by kernel_rfl) (.inl rfl) ?_
        refine LAt.fin (by kernel_rfl) (And.intro (And.intro (by kernel_rfl) (by kernel_rfl)) ?_)
        refine AT.runU tOk [(4, []), (5, [])] 33 [⟨[3], 41, 3, 47⟩, ⟨[1, 3], 41, 3, 45⟩] [5, 4, 3, 1, 2, 0] rfl (by kernel_rfl) (fun cx => ?_)
        refine AT.to ⟨83, 0, [(50, .val false [.lit (.bool (r8 == r9))]), (49, .val false [.lit (.bool (r8 == r9))]), (48, .val false [.lit (.bool r9)]), (46, .val false [.lit (.bool r8)]), (47, .val true (Pt.row r2)), (45, .val true (Pt.row r2)), (13, .adr (.box 13) [(0, 0)] 5 0), (12, .val false [.lit (.int .i64 r6.2.2)]), (11, .val false [.sl true 8 (r6.2.1.map Pt.row)]), (10, .val false [.lit (.int .i64 r6.1)]), (9, .val false [.lit (.int .i64 r5.2)]), (8, .adr (.box 8) [(0, 0)] 5 0), (7, .val false [.lit (.int .i64 r4.2)]), (6, .adr (.box 6) [(0, 0)] 5 0), (5, .val false [.sl true 8 (r3.2.map Pt.row)]), (4, .val false [.lit (.int .i64 r3.1)]), (3, .adr (.box 3) [(0, 0)] 8 0), (2, .val false [.lit (.bool false)])], [(13, (Vec.row r7)), (8, (Vec.row r5.1)), (6, (Vec.row r4.1)), (3, (Pt.row r2))]⟩ (by kernel_rfl) ?_
        rw [h2]
        refine AT.runU tOk [(6, []), (7, []), (8, []), (9, []), (10, []), (11, []), (12, []), (13, []), (14, []), (15, []), (16, []), (17, []), (18, []), (19, []), (20, []), (21, []), (22, []), (23, []), (24, []), (25, []), (26, []), (27, []), (28, []), (29, []), (30, []), (31, []), (32, []), (33, []), (34, []), (35, []), (36, []), (37, []), (38, [])] 0 [⟨[3], 41, 3, 47⟩, ⟨[1, 3], 41, 3, 45⟩] [38, 37, 36, 35, 34, 33, 32, 31, 30, 29, 28, 27, 26, 25, 24, 23, 22, 21, 20, 19, 18, 17, 16, 15, 14, 13, 12, 11, 10, 9, 8, 7, 6, 5, 4, 3, 1, 2, 0] rfl (by kernel_rfl) (fun cx => ?_)
        exact AT.done [2] [] _ (by kernel_rfl) (by kernel_rfl) rfl
      · refine Tr.ret ?_
        have H := Option.some.inj H
        subst H
        exact Fin.of _ [(false, [.lit (.bool false)])] (by kernel_rfl) rfl rfl
    · have H := bifT h2 H
      refine Tr.to ⟨83, 0, [(13, .adr (.box 13) [(0, 0)] 5 0), (12, .val false [.lit (.int .i64 r6.2.2)]), (11, .val false [.sl true 8 (r6.2.1.map Pt.row)]), (10, .val false [.lit (.int .i64 r6.1)]), (9, .val false [.lit (.int .i64 r5.2)]), (8, .adr (.box 8) [(0, 0)] 5 0), (7, .val false [.lit (.int .i64 r4.2)]), (6, .adr (.box 6) [(0, 0)] 5 0), (5, .val false [.sl true 8 (r3.2.map Pt.row)]), (4, .val false [.lit (.int .i64 r3.1)]), (3, .adr (.box 3) [(0, 0)] 8 0), (2, .val false [.lit (.bool false)])], [(13, (Vec.row r7)), (8, (Vec.row r5.1)), (6, (Vec.row r4.1)), (3, (Pt.row r2))]⟩ (by kernel_rfl) ?_
      cases h3 : ((r4.1.Root == r5.1.Root) && ((r4.1.Cost == r5.1.Cost) && ((r4.1.Hops == r5.1.Hops) && ((r4.1.Bridge == r5.1.Bridge) && ((r4.1.Port == r5.1.Port) && true)))))
      · have H := bifF h3 H
        refine Tr.draws mixed 39 (by kernel_rfl) ⟨83, 0, [(2, .val false [.lit (.bool false)])], []⟩ (fun cx => ?_) ?_
        · refine AT.runU tOk [(0, [1, 3, 8]), (2, [3, 8])] 37 [⟨[3, 8], 41, 3, 47⟩, ⟨[1, 3, 8], 41, 3, 45⟩] [2, 0] rfl (by kernel_rfl) (fun cx => ?_)
          refine AT.big1 tOk 1 (by kernel_rfl) (by kernel_rfl) ?_
          refine LAt.callU tOk [.rd] (f := 29) (av := #[.tmp 45]) (ats := #[41]) (d := (some 46)) (ty := 4) (g := none) (by kernel_rfl) (by kernel_rfl) (by kernel_rfl) [] (impl_PtOk n r2 r8 er8) (by kernel_rfl) (.inl rfl) ?_
          refine LAt.fin (by kernel_rfl) (And.intro (And.intro (by kernel_rfl) (by kernel_rfl)) ?_)
          refine AT.big1 tOk 3 (by kernel_rfl) (by kernel_rfl) ?_
          refine LAt.callU tOk [.rd] (f := 30) (av := #[.tmp 47]) (ats := #[41]) (d := (some 48)) (ty := 4) (g := none) (by kernel_rfl) (by kernel_rfl) (by kernel_rfl) [] (spec_PtOk n r2 r9 er9) (by kernel_rfl) (.inl rfl) ?_
          refine LAt.fin (by kernel_rfl) (And.intro (And.intro (by kernel_rfl) (by kernel_rfl)) ?_)
          refine AT.runU tOk [(4, []), (5, [])] 33 [⟨[3, 8], 41, 3, 47⟩, ⟨[1, 3, 8], 41, 3, 45⟩] [5, 4, 3, 1, 2, 0] rfl (by kernel_rfl) (fun cx => ?_)
          refine AT.to ⟨83, 0, [(50, .val false [.lit (.bool (r8 == r9))]), (49, .val false [.lit (.bool (r8 == r9))]), (48, .val false [.lit (.bool r9)]), (46, .val false [.lit (.bool r8)]), (47, .val true (Pt.row r2)), (45, .val true (Pt.row r2)), (13, .adr (.box 13) [(0, 0)] 5 0), (12, .val false [.lit (.int .i64 r6.2.2)]), (11, .val false [.sl true 8 (r6.2.1.map Pt.row)]), (10, .val false [.lit (.int .i64 r6.1)]), (9, .val false [.lit (.int .i64 r5.2)]), (8, .adr (.box 8) [(0, 0)] 5 0), (7, .val false [.lit (.int .i64 r4.2)]), (6, .adr (.box 6) [(0, 0)] 5 0), (5, .val false [.sl true 8 (r3.2.map Pt.row)]), (4, .val false [.lit (.int .i64 r3.1)]), (3, .adr (.box 3) [(0, 0)] 8 0), (2, .val false [.lit (.bool false)])], [(13, (Vec.row r7)), (8, (Vec.row r5.1)), (6, (Vec.row r4.1)), (3, (Pt.row r2))]⟩ (by kernel_rfl) ?_
          rw [h2]
          refine AT.runU tOk [(6, [8]), (7, [8])] 31 [⟨[8], 39, 8, 52⟩, ⟨[8], 39, 6, 51⟩, ⟨[3, 8], 41, 3, 47⟩, ⟨[1, 3, 8], 41, 3, 45⟩] [7, 6, 5, 4, 3, 1, 2, 0] rfl (by kernel_rfl) (fun cx => ?_)
          refine AT.big1 tOk 8 (by kernel_rfl) (by kernel_rfl) ?_
          refine LAt.eqSG false (t := 39) (ty := 39) (ty' := 4) (x := (.tmp 51)) (y := (.tmp 52)) (d := 53) (g := (some (5, true))) ((r4.1.Root == r5.1.Root) && ((r4.1.Cost == r5.1.Cost) && ((r4.1.Hops == r5.1.Hops) && ((r4.1.Bridge == r5.1.Bridge) && ((r4.1.Port == r5.1.Port) && true))))) _ (by kernel_rfl) (by kernel_rfl) (by kernel_rfl) (by kernel_rfl) rfl ?_
          refine LAt.fin (by kernel_rfl) (And.intro (And.intro (by kernel_rfl) (by kernel_rfl)) ?_)
          refine AT.runU tOk [(9, []), (10, [])] 28 [⟨[8], 39, 8, 52⟩, ⟨[8], 39, 6, 51⟩, ⟨[3, 8], 41, 3, 47⟩, ⟨[1, 3, 8], 41, 3, 45⟩] [10, 9, 8, 7, 6, 5, 4, 3, 1, 2, 0] rfl (by kernel_rfl) (fun cx => ?_)
          refine AT.to ⟨83, 0, [(55, .val false [.lit (.bool ((r4.1.Root == r5.1.Root) && ((r4.1.Cost == r5.1.Cost) && ((r4.1.Hops == r5.1.Hops) && ((r4.1.Bridge == r5.1.Bridge) && ((r4.1.Port == r5.1.Port) && true))))))]), (54, .val false [.lit (.bool ((r4.1.Root == r5.1.Root) && ((r4.1.Cost == r5.1.Cost) && ((r4.1.Hops == r5.1.Hops) && ((r4.1.Bridge == r5.1.Bridge) && ((r4.1.Port == r5.1.Port) && true))))))]), (53, .val false [.lit (.bool ((r4.1.Root == r5.1.Root) && ((r4.1.Cost == r5.1.Cost) && ((r4.1.Hops == r5.1.Hops) && ((r4.1.Bridge == r5.1.Bridge) && ((r4.1.Port == r5.1.Port) && true))))))]), (52, .val true (Vec.row r5.1)), (51, .val true (Vec.row r4.1)), (50, .val false [.lit (.bool true)]), (49, .val false [.lit (.bool true)]), (48, .val false [.lit (.bool r9)]), (46, .val false [.lit (.bool r8)]), (47, .val true (Pt.row r2)), (45, .val true (Pt.row r2)), (13, .adr (.box 13) [(0, 0)] 5 0), (12, .val false [.lit (.int .i64 r6.2.2)]), (11, .val false [.sl true 8 (r6.2.1.map Pt.row)]), (10, .val false [.lit (.int .i64 r6.1)]), (9, .val false [.lit (.int .i64 r5.2)]), (8, .adr (.box 8) [(0, 0)] 5 0), (7, .val false [.lit (.int .i64 r4.2)]), (6, .adr (.box 6) [(0, 0)] 5 0), (5, .val false [.sl true 8 (r3.2.map Pt.row)]), (4, .val false [.lit (.int .i64 r3.1)]), (3, .adr (.box 3) [(0, 0)] 8 0), (2, .val false [.lit (.bool false)])], [(13, (Vec.row r7)), (8, (Vec.row r5.1)), (6, (Vec.row r4.1)), (3, (Pt.row r2))]⟩ (by kernel_rfl) ?_
          rw [h3]
          refine AT.runU tOk [(11, []), (12, []), (13, []), (14, []), (15, []), (16, []), (17, []), (18, []), (19, []), (20, []), (21, []), (22, []), (23, []), (24, []), (25, []), (26, []), (27, []), (28, []), (29, []), (30, []), (31, []), (32, []), (33, []), (34, []), (35, []), (36, []), (37, []), (38, [])] 0 [⟨[8], 39, 8, 52⟩, ⟨[8], 39, 6, 51⟩, ⟨[3, 8], 41, 3, 47⟩, ⟨[1, 3, 8], 41, 3, 45⟩] [38, 37, 36, 35, 34, 33, 32, 31, 30, 29, 28, 27, 26, 25, 24, 23, 22, 21, 20, 19, 18, 17, 16, 15, 14, 13, 12, 11, 10, 9, 8, 7, 6, 5, 4, 3, 1, 2, 0] rfl (by kernel_rfl) (fun cx => ?_)
          exact AT.done [2] [] _ (by kernel_rfl) (by kernel_rfl) rfl
        · refine Tr.ret ?_
          have H := Option.some.inj H
          subst H
          exact Fin.of _ [(false, [.lit (.bool false)])] (by kernel_rfl) rfl rfl
      · have H := bifT h3 H
        refine Tr.to ⟨83, 0, [(13, .adr (.box 13) [(0, 0)] 5 0), (12, .val false [.lit (.int .i64 r6.2.2)]), (11, .val false [.sl true 8 (r6.2.1.map Pt.row)]), (10, .val false [.lit (.int .i64 r6.1)]), (9, .val false [.lit (.int .i64 r5.2)]), (8, .adr (.box 8) [(0, 0)] 5 0), (7, .val false [.lit (.int .i64 r4.2)]), (6, .adr (.box 6) [(0, 0)] 5 0), (5, .val false [.sl true 8 (r3.2.map Pt.row)]), (4, .val false [.lit (.int .i64 r3.1)]), (3, .adr (.box 3) [(0, 0)] 8 0), (2, .val false [.lit (.bool false)])], [(13, (Vec.row r7)), (8, (Vec.row r5.1)), (6, (Vec.row r4.1)), (3, (Pt.row r2))]⟩ (by kernel_rfl) ?_
        cases h4 : (r4.2 == r5.2)
        · have H := bifF h4 H
          refine Tr.draws mixed 39 (by kernel_rfl) ⟨83, 0, [(2, .val false [.lit (.bool false)])], []⟩ (fun cx => ?_) ?_
          · refine AT.runU tOk [(0, [1, 3, 8]), (2, [3, 8])] 37 [⟨[3, 8], 41, 3, 47⟩, ⟨[1, 3, 8], 41, 3, 45⟩] [2, 0] rfl (by kernel_rfl) (fun cx => ?_)
            refine AT.big1 tOk 1 (by kernel_rfl) (by kernel_rfl) ?_
            refine LAt.callU tOk [.rd] (f := 29) (av := #[.tmp 45]) (ats := #[41]) (d := (some 46)) (ty := 4) (g := none) (by kernel_rfl) (by kernel_rfl) (by kernel_rfl) [] (impl_PtOk n r2 r8 er8) (by kernel_rfl) (.inl rfl) ?_
            refine LAt.fin (by kernel_rfl) (And.intro (And.intro (by kernel_rfl) (by kernel_rfl)) ?_)
            refine AT.big1 tOk 3 (by kernel_rfl) (by kernel_rfl) ?_
            refine LAt.callU tOk [.rd] (f := 30) (av := #[.tmp 47]) (ats := #[41]) (d := (some 48)) (ty := 4) (g := none) (by kernel_rfl) (by kernel_rfl) (by kernel_rfl) [] (spec_PtOk n r2 r9 er9) (by kernel_rfl) (.inl rfl) ?_
            refine LAt.fin (by kernel_rfl) (And.intro (And.intro (by kernel_rfl) (by kernel_rfl)) ?_)
            refine AT.runU tOk [(4, []), (5, [])] 33 [⟨[3, 8], 41, 3, 47⟩, ⟨[1, 3, 8], 41, 3, 45⟩] [5, 4, 3, 1, 2, 0] rfl (by kernel_rfl) (fun cx => ?_)
            refine AT.to ⟨83, 0, [(50, .val false [.lit (.bool (r8 == r9))]), (49, .val false [.lit (.bool (r8 == r9))]), (48, .val false [.lit (.bool r9)]), (46, .val false [.lit (.bool r8)]), (47, .val true (Pt.row r2)), (45, .val true (Pt.row r2)), (13, .adr (.box 13) [(0, 0)] 5 0), (12, .val false [.lit (.int .i64 r6.2.2)]), (11, .val false [.sl true 8 (r6.2.1.map Pt.row)]), (10, .val false [.lit (.int .i64 r6.1)]), (9, .val false [.lit (.int .i64 r5.2)]), (8, .adr (.box 8) [(0, 0)] 5 0), (7, .val false [.lit (.int .i64 r4.2)]), (6, .adr (.box 6) [(0, 0)] 5 0), (5, .val false [.sl true 8 (r3.2.map Pt.row)]), (4, .val false [.lit (.int .i64 r3.1)]), (3, .adr (.box 3) [(0, 0)] 8 0), (2, .val false [.lit (.bool false)])], [(13, (Vec.row r7)), (8, (Vec.row r5.1)), (6, (Vec.row r4.1)), (3, (Pt.row r2))]⟩ (by kernel_rfl) ?_
            rw [h2]
            refine AT.runU tOk [(6, [8]), (7, [8])] 31 [⟨[8], 39, 8, 52⟩, ⟨[8], 39, 6, 51⟩, ⟨[3, 8], 41, 3, 47⟩, ⟨[1, 3, 8], 41, 3, 45⟩] [7, 6, 5, 4, 3, 1, 2, 0] rfl (by kernel_rfl) (fun cx => ?_)
            refine AT.big1 tOk 8 (by kernel_rfl) (by kernel_rfl) ?_
            refine LAt.eqSG false (t := 39) (ty := 39) (ty' := 4) (x := (.tmp 51)) (y := (.tmp 52)) (d := 53) (g := (some (5, true))) ((r4.1.Root == r5.1.Root) && ((r4.1.Cost == r5.1.Cost) && ((r4.1.Hops == r5.1.Hops) && ((r4.1.Bridge == r5.1.Bridge) && ((r4.1.Port == r5.1.Port) && true))))) _ (by kernel_rfl) (by kernel_rfl) (by kernel_rfl) (by kernel_rfl) rfl ?_
            refine LAt.fin (by kernel_rfl) (And.intro (And.intro (by kernel_rfl) (by kernel_rfl)) ?_)
            refine AT.runU tOk [(9, []), (10, [])] 28 [⟨[8], 39, 8, 52⟩, ⟨[8], 39, 6, 51⟩, ⟨[3, 8], 41, 3, 47⟩, ⟨[1, 3, 8], 41, 3, 45⟩] [10, 9, 8, 7, 6, 5, 4, 3, 1, 2, 0] rfl (by kernel_rfl) (fun cx => ?_)
            refine AT.to ⟨83, 0, [(55, .val false [.lit (.bool ((r4.1.Root == r5.1.Root) && ((r4.1.Cost == r5.1.Cost) && ((r4.1.Hops == r5.1.Hops) && ((r4.1.Bridge == r5.1.Bridge) && ((r4.1.Port == r5.1.Port) && true))))))]), (54, .val false [.lit (.bool ((r4.1.Root == r5.1.Root) && ((r4.1.Cost == r5.1.Cost) && ((r4.1.Hops == r5.1.Hops) && ((r4.1.Bridge == r5.1.Bridge) && ((r4.1.Port == r5.1.Port) && true))))))]), (53, .val false [.lit (.bool ((r4.1.Root == r5.1.Root) && ((r4.1.Cost == r5.1.Cost) && ((r4.1.Hops == r5.1.Hops) && ((r4.1.Bridge == r5.1.Bridge) && ((r4.1.Port == r5.1.Port) && true))))))]), (52, .val true (Vec.row r5.1)), (51, .val true (Vec.row r4.1)), (50, .val false [.lit (.bool true)]), (49, .val false [.lit (.bool true)]), (48, .val false [.lit (.bool r9)]), (46, .val false [.lit (.bool r8)]), (47, .val true (Pt.row r2)), (45, .val true (Pt.row r2)), (13, .adr (.box 13) [(0, 0)] 5 0), (12, .val false [.lit (.int .i64 r6.2.2)]), (11, .val false [.sl true 8 (r6.2.1.map Pt.row)]), (10, .val false [.lit (.int .i64 r6.1)]), (9, .val false [.lit (.int .i64 r5.2)]), (8, .adr (.box 8) [(0, 0)] 5 0), (7, .val false [.lit (.int .i64 r4.2)]), (6, .adr (.box 6) [(0, 0)] 5 0), (5, .val false [.sl true 8 (r3.2.map Pt.row)]), (4, .val false [.lit (.int .i64 r3.1)]), (3, .adr (.box 3) [(0, 0)] 8 0), (2, .val false [.lit (.bool false)])], [(13, (Vec.row r7)), (8, (Vec.row r5.1)), (6, (Vec.row r4.1)), (3, (Pt.row r2))]⟩ (by kernel_rfl) ?_
            rw [h3]
            refine AT.runU tOk [(11, []), (12, []), (13, []), (14, []), (15, [])] 23 [⟨[8], 39, 8, 52⟩, ⟨[8], 39, 6, 51⟩, ⟨[3, 8], 41, 3, 47⟩, ⟨[1, 3, 8], 41, 3, 45⟩] [15, 14, 13, 12, 11, 10, 9, 8, 7, 6, 5, 4, 3, 1, 2, 0] rfl (by kernel_rfl) (fun cx => ?_)
            refine AT.to ⟨83, 0, [(60, .val false [.lit (.bool (r4.2 == r5.2))]), (59, .val false [.lit (.bool (r4.2 == r5.2))]), (58, .val false [.lit (.bool (r4.2 == r5.2))]), (57, .val false [.lit (.int .i64 r5.2)]), (56, .val false [.lit (.int .i64 r4.2)]), (55, .val false [.lit (.bool true)]), (54, .val false [.lit (.bool true)]), (53, .val false [.lit (.bool true)]), (52, .val true (Vec.row r5.1)), (51, .val true (Vec.row r4.1)), (50, .val false [.lit (.bool true)]), (49, .val false [.lit (.bool true)]), (48, .val false [.lit (.bool r9)]), (46, .val false [.lit (.bool r8)]), (47, .val true (Pt.row r2)), (45, .val true (Pt.row r2)), (13, .adr (.box 13) [(0, 0)] 5 0), (12, .val false [.lit (.int .i64 r6.2.2)]), (11, .val false [.sl true 8 (r6.2.1.map Pt.row)]), (10, .val false [.lit (.int .i64 r6.1)]), (9, .val false [.lit (.int .i64 r5.2)]), (8, .adr (.box 8) [(0, 0)] 5 0), (7, .val false [.lit (.int .i64 r4.2)]), (6, .adr (.box 6) [(0, 0)] 5 0), (5, .val false [.sl true 8 (r3.2.map Pt.row)]), (4, .val false [.lit (.int .i64 r3.1)]), (3, .adr (.box 3) [(0, 0)] 8 0), (2, .val false [.lit (.bool false)])], [(13, (Vec.row r7)), (8, (Vec.row r5.1)), (6, (Vec.row r4.1)), (3, (Pt.row r2))]⟩ (by kernel_rfl) ?_
            rw [h4]
            refine AT.runU tOk [(16, []), (17, []), (18, []), (19, []), (20, []), (21, []), (22, []), (23, []), (24, []), (25, []), (26, []), (27, []), (28, []), (29, []), (30, []), (31, []), (32, []), (33, []), (34, []), (35, []), (36, []), (37, []), (38, [])] 0 [⟨[8], 39, 8, 52⟩, ⟨[8], 39, 6, 51⟩, ⟨[3, 8], 41, 3, 47⟩, ⟨[1, 3, 8], 41, 3, 45⟩] [38, 37, 36, 35, 34, 33, 32, 31, 30, 29, 28, 27, 26, 25, 24, 23, 22, 21, 20, 19, 18, 17, 16, 15, 14, 13, 12, 11, 10, 9, 8, 7, 6, 5, 4, 3, 1, 2, 0] rfl (by kernel_rfl) (fun cx => ?_)
            exact AT.done [2] [] _ (by kernel_rfl) (by kernel_rfl) rfl
          · refine Tr.ret ?_
            have H := Option.some.inj H
            subst H
            exact Fin.of _ [(false, [.lit (.bool false)])] (by kernel_rfl) rfl rfl
        · have H := bifT h4 H
          obtain ⟨r10, er10, H⟩ := bind_some H
          refine Tr.to ⟨83, 0, [(13, .adr (.box 13) [(0, 0)] 5 0), (12, .val false [.lit (.int .i64 r6.2.2)]), (11, .val false [.sl true 8 (r6.2.1.map Pt.row)]), (10, .val false [.lit (.int .i64 r6.1)]), (9, .val false [.lit (.int .i64 r5.2)]), (8, .adr (.box 8) [(0, 0)] 5 0), (7, .val false [.lit (.int .i64 r4.2)]), (6, .adr (.box 6) [(0, 0)] 5 0), (5, .val false [.sl true 8 (r3.2.map Pt.row)]), (4, .val false [.lit (.int .i64 r3.1)]), (3, .adr (.box 3) [(0, 0)] 8 0), (2, .val false [.lit (.bool false)])], [(13, (Vec.row r7)), (8, (Vec.row r5.1)), (6, (Vec.row r4.1)), (3, (Pt.row r2))]⟩ (by kernel_rfl) ?_
          cases h5 : ((r7.Root == r10.Root) && ((r7.Cost == r10.Cost) && ((r7.Hops == r10.Hops) && ((r7.Bridge == r10.Bridge) && ((r7.Port == r10.Port) && true)))))
          · have H := bifF h5 H
            refine Tr.draws mixed 39 (by kernel_rfl) ⟨83, 0, [(2, .val false [.lit (.bool false)])], []⟩ (fun cx => ?_) ?_
            · refine AT.runU tOk [(0, [1, 3, 8, 20, 21]), (2, [3, 8, 20, 21])] 37 [⟨[3, 8, 20, 21], 41, 3, 47⟩, ⟨[1, 3, 8, 20, 21], 41, 3, 45⟩] [2, 0] rfl (by kernel_rfl) (fun cx => ?_)
              refine AT.big1 tOk 1 (by kernel_rfl) (by kernel_rfl) ?_
              refine LAt.callU tOk [.rd] (f := 29) (av := #[.tmp 45]) (ats := #[41]) (d := (some 46)) (ty := 4) (g := none) (by kernel_rfl) (by kernel_rfl) (by kernel_rfl) [] (impl_PtOk n r2 r8 er8) (by kernel_rfl) (.inl rfl) ?_
              refine LAt.fin (by kernel_rfl) (And.intro (And.intro (by kernel_rfl) (by kernel_rfl)) ?_)
              refine AT.big1 tOk 3 (by kernel_rfl) (by kernel_rfl) ?_
              refine LAt.callU tOk [.rd] (f := 30) (av := #[.tmp 47]) (ats := #[41]) (d := (some 48)) (ty := 4) (g := none) (by kernel_rfl) (by kernel_rfl) (by kernel_rfl) [] (spec_PtOk n r2 r9 er9) (by kernel_rfl) (.inl rfl) ?_
              refine LAt.fin (by kernel_rfl) (And.intro (And.intro (by kernel_rfl) (by kernel_rfl)) ?_)
              refine AT.runU tOk [(4, []), (5, [])] 33 [⟨[3, 8, 20, 21], 41, 3, 47⟩, ⟨[1, 3, 8, 20, 21], 41, 3, 45⟩] [5, 4, 3, 1, 2, 0] rfl (by kernel_rfl) (fun cx => ?_)
              refine AT.to ⟨83, 0, [(50, .val false [.lit (.bool (r8 == r9))]), (49, .val false [.lit (.bool (r8 == r9))]), (48, .val false [.lit (.bool r9)]), (46, .val false [.lit (.bool r8)]), (47, .val true (Pt.row r2)), (45, .val true (Pt.row r2)), (13, .adr (.box 13) [(0, 0)] 5 0), (12, .val false [.lit (.int .i64 r6.2.2)]), (11, .val false [.sl true 8 (r6.2.1.map Pt.row)]), (10, .val false [.lit (.int .i64 r6.1)]), (9, .val false [.lit (.int .i64 r5.2)]), (8, .adr (.box 8) [(0, 0)] 5 0), (7, .val false [.lit (.int .i64 r4.2)]), (6, .adr (.box 6) [(0, 0)] 5 0), (5, .val false [.sl true 8 (r3.2.map Pt.row)]), (4, .val false [.lit (.int .i64 r3.1)]), (3, .adr (.box 3) [(0, 0)] 8 0), (2, .val false [.lit (.bool false)])], [(13, (Vec.row r7)), (8, (Vec.row r5.1)), (6, (Vec.row r4.1)), (3, (Pt.row r2))]⟩ (by kernel_rfl) ?_
              rw [h2]
              refine AT.runU tOk [(6, [8, 20, 21]), (7, [8, 20, 21])] 31 [⟨[8, 20, 21], 39, 8, 52⟩, ⟨[8, 20, 21], 39, 6, 51⟩, ⟨[3, 8, 20, 21], 41, 3, 47⟩, ⟨[1, 3, 8, 20, 21], 41, 3, 45⟩] [7, 6, 5, 4, 3, 1, 2, 0] rfl (by kernel_rfl) (fun cx => ?_)
              refine AT.big1 tOk 8 (by kernel_rfl) (by kernel_rfl) ?_
              refine LAt.eqSG false (t := 39) (ty := 39) (ty' := 4) (x := (.tmp 51)) (y := (.tmp 52)) (d := 53) (g := (some (5, true))) ((r4.1.Root == r5.1.Root) && ((r4.1.Cost == r5.1.Cost) && ((r4.1.Hops == r5.1.Hops) && ((r4.1.Bridge == r5.1.Bridge) && ((r4.1.Port == r5.1.Port) && true))))) _ (by kernel_rfl) (by kernel_rfl) (by kernel_rfl) (by kernel_rfl) rfl ?_
              refine LAt.fin (by kernel_rfl) (And.intro (And.intro (by kernel_rfl) (by kernel_rfl)) ?_)
              refine AT.runU tOk [(9, []), (10, [])] 28 [⟨[8, 20, 21], 39, 8, 52⟩, ⟨[8, 20, 21], 39, 6, 51⟩, ⟨[3, 8, 20, 21], 41, 3, 47⟩, ⟨[1, 3, 8, 20, 21], 41, 3, 45⟩] [10, 9, 8, 7, 6, 5, 4, 3, 1, 2, 0] rfl (by kernel_rfl) (fun cx => ?_)
              refine AT.to ⟨83, 0, [(55, .val false [.lit (.bool ((r4.1.Root == r5.1.Root) && ((r4.1.Cost == r5.1.Cost) && ((r4.1.Hops == r5.1.Hops) && ((r4.1.Bridge == r5.1.Bridge) && ((r4.1.Port == r5.1.Port) && true))))))]), (54, .val false [.lit (.bool ((r4.1.Root == r5.1.Root) && ((r4.1.Cost == r5.1.Cost) && ((r4.1.Hops == r5.1.Hops) && ((r4.1.Bridge == r5.1.Bridge) && ((r4.1.Port == r5.1.Port) && true))))))]), (53, .val false [.lit (.bool ((r4.1.Root == r5.1.Root) && ((r4.1.Cost == r5.1.Cost) && ((r4.1.Hops == r5.1.Hops) && ((r4.1.Bridge == r5.1.Bridge) && ((r4.1.Port == r5.1.Port) && true))))))]), (52, .val true (Vec.row r5.1)), (51, .val true (Vec.row r4.1)), (50, .val false [.lit (.bool true)]), (49, .val false [.lit (.bool true)]), (48, .val false [.lit (.bool r9)]), (46, .val false [.lit (.bool r8)]), (47, .val true (Pt.row r2)), (45, .val true (Pt.row r2)), (13, .adr (.box 13) [(0, 0)] 5 0), (12, .val false [.lit (.int .i64 r6.2.2)]), (11, .val false [.sl true 8 (r6.2.1.map Pt.row)]), (10, .val false [.lit (.int .i64 r6.1)]), (9, .val false [.lit (.int .i64 r5.2)]), (8, .adr (.box 8) [(0, 0)] 5 0), (7, .val false [.lit (.int .i64 r4.2)]), (6, .adr (.box 6) [(0, 0)] 5 0), (5, .val false [.sl true 8 (r3.2.map Pt.row)]), (4, .val false [.lit (.int .i64 r3.1)]), (3, .adr (.box 3) [(0, 0)] 8 0), (2, .val false [.lit (.bool false)])], [(13, (Vec.row r7)), (8, (Vec.row r5.1)), (6, (Vec.row r4.1)), (3, (Pt.row r2))]⟩ (by kernel_rfl) ?_
              rw [h3]
              refine AT.runU tOk [(11, []), (12, []), (13, []), (14, []), (15, [])] 23 [⟨[8, 20, 21], 39, 8, 52⟩, ⟨[8, 20, 21], 39, 6, 51⟩, ⟨[3, 8, 20, 21], 41, 3, 47⟩, ⟨[1, 3, 8, 20, 21], 41, 3, 45⟩] [15, 14, 13, 12, 11, 10, 9, 8, 7, 6, 5, 4, 3, 1, 2, 0] rfl (by kernel_rfl) (fun cx => ?_)
              refine AT.to ⟨83, 0, [(60, .val false [.lit (.bool (r4.2 == r5.2))]), (59, .val false [.lit (.bool (r4.2 == r5.2))]), (58, .val false [.lit (.bool (r4.2 == r5.2))]), (57, .val false [.lit (.int .i64 r5.2)]), (56, .val false [.lit (.int .i64 r4.2)]), (55, .val false [.lit (.bool true)]), (54, .val false [.lit (.bool true)]), (53, .val false [.lit (.bool true)]), (52, .val true (Vec.row r5.1)), (51, .val true (Vec.row r4.1)), (50, .val false [.lit (.bool true)]), (49, .val false [.lit (.bool true)]), (48, .val false [.lit (.bool r9)]), (46, .val false [.lit (.bool r8)]), (47, .val true (Pt.row r2)), (45, .val true (Pt.row r2)), (13, .adr (.box 13) [(0, 0)] 5 0), (12, .val false [.lit (.int .i64 r6.2.2)]), (11, .val false [.sl true 8 (r6.2.1.map Pt.row)]), (10, .val false [.lit (.int .i64 r6.1)]), (9, .val false [.lit (.int .i64 r5.2)]), (8, .adr (.box 8) [(0, 0)] 5 0), (7, .val false [.lit (.int .i64 r4.2)]), (6, .adr (.box 6) [(0, 0)] 5 0), (5, .val false [.sl true 8 (r3.2.map Pt.row)]), (4, .val false [.lit (.int .i64 r3.1)]), (3, .adr (.box 3) [(0, 0)] 8 0), (2, .val false [.lit (.bool false)])], [(13, (Vec.row r7)), (8, (Vec.row r5.1)), (6, (Vec.row r4.1)), (3, (Pt.row r2))]⟩ (by kernel_rfl) ?_
              rw [h4]
              refine AT.runU tOk [(16, [21]), (17, []), (18, []), (19, [])] 19 [⟨[21], 39, 13, 61⟩, ⟨[8, 20, 21], 39, 8, 52⟩, ⟨[8, 20, 21], 39, 6, 51⟩, ⟨[3, 8, 20, 21], 41, 3, 47⟩, ⟨[1, 3, 8, 20, 21], 41, 3, 45⟩] [19, 18, 17, 16, 15, 14, 13, 12, 11, 10, 9, 8, 7, 6, 5, 4, 3, 1, 2, 0] rfl (by kernel_rfl) (fun cx => ?_)
              refine AT.big1 tOk 20 (by kernel_rfl) (by kernel_rfl) ?_
              refine LAt.callU tOk [.rd, .rd, .rd] (f := 31) (av := #[.tmp 62, .tmp 63, .tmp 64]) (ats := #[3, 43, 3]) (d := (some 65)) (ty := 39) (g := (some (15, true))) (by kernel_rfl) (by kernel_rfl) (by kernel_rfl) [.slot 11] (spec_SayVec n r6.1 r6.2.1 r6.2.2 r10 er10) (by kernel_rfl) (.inr (rets_cons (Vec.row_mine _) rets_nil)) ?_
              refine LAt.fin (by kernel_rfl) (And.intro (And.intro (by kernel_rfl) (by kernel_rfl)) ?_)
              refine AT.big1 tOk 21 (by kernel_rfl) (by kernel_rfl) ?_
              refine LAt.eqSG false (t := 39) (ty := 39) (ty' := 4) (x := (.tmp 61)) (y := (.tmp 65)) (d := 66) (g := (some (15, true))) ((r7.Root == r10.Root) && ((r7.Cost == r10.Cost) && ((r7.Hops == r10.Hops) && ((r7.Bridge == r10.Bridge) && ((r7.Port == r10.Port) && true))))) _ (by kernel_rfl) (by kernel_rfl) (by kernel_rfl) (by kernel_rfl) rfl ?_
              refine LAt.fin (by kernel_rfl) (And.intro (And.intro (by kernel_rfl) (by kernel_rfl)) ?_)
              refine AT.runU tOk [(22, []), (23, [])] 15 [⟨[21], 39, 13, 61⟩, ⟨[8, 20, 21], 39, 8, 52⟩, ⟨[8, 20, 21], 39, 6, 51⟩, ⟨[3, 8, 20, 21], 41, 3, 47⟩, ⟨[1, 3, 8, 20, 21], 41, 3, 45⟩] [23, 22, 21, 20, 19, 18, 17, 16, 15, 14, 13, 12, 11, 10, 9, 8, 7, 6, 5, 4, 3, 1, 2, 0] rfl (by kernel_rfl) (fun cx => ?_)
              refine AT.to ⟨83, 0, [(68, .val false [.lit (.bool ((r7.Root == r10.Root) && ((r7.Cost == r10.Cost) && ((r7.Hops == r10.Hops) && ((r7.Bridge == r10.Bridge) && ((r7.Port == r10.Port) && true))))))]), (67, .val false [.lit (.bool ((r7.Root == r10.Root) && ((r7.Cost == r10.Cost) && ((r7.Hops == r10.Hops) && ((r7.Bridge == r10.Bridge) && ((r7.Port == r10.Port) && true))))))]), (66, .val false [.lit (.bool ((r7.Root == r10.Root) && ((r7.Cost == r10.Cost) && ((r7.Hops == r10.Hops) && ((r7.Bridge == r10.Bridge) && ((r7.Port == r10.Port) && true))))))]), (65, .val true (Vec.row r10)), (64, .val false [.lit (.int .i64 r6.2.2)]), (63, .ref (.slot 11) [] 0 0 1 false), (62, .val false [.lit (.int .i64 r6.1)]), (61, .val true (Vec.row r7)), (60, .val false [.lit (.bool true)]), (59, .val false [.lit (.bool true)]), (58, .val false [.lit (.bool true)]), (57, .val false [.lit (.int .i64 r5.2)]), (56, .val false [.lit (.int .i64 r4.2)]), (55, .val false [.lit (.bool true)]), (54, .val false [.lit (.bool true)]), (53, .val false [.lit (.bool true)]), (52, .val true (Vec.row r5.1)), (51, .val true (Vec.row r4.1)), (50, .val false [.lit (.bool true)]), (49, .val false [.lit (.bool true)]), (48, .val false [.lit (.bool r9)]), (46, .val false [.lit (.bool r8)]), (47, .val true (Pt.row r2)), (45, .val true (Pt.row r2)), (13, .adr (.box 13) [(0, 0)] 5 0), (12, .val false [.lit (.int .i64 r6.2.2)]), (11, .val false [.sl true 8 (r6.2.1.map Pt.row)]), (10, .val false [.lit (.int .i64 r6.1)]), (9, .val false [.lit (.int .i64 r5.2)]), (8, .adr (.box 8) [(0, 0)] 5 0), (7, .val false [.lit (.int .i64 r4.2)]), (6, .adr (.box 6) [(0, 0)] 5 0), (5, .val false [.sl true 8 (r3.2.map Pt.row)]), (4, .val false [.lit (.int .i64 r3.1)]), (3, .adr (.box 3) [(0, 0)] 8 0), (2, .val false [.lit (.bool false)])], [(13, (Vec.row r7)), (8, (Vec.row r5.1)), (6, (Vec.row r4.1)), (3, (Pt.row r2))]⟩ (by kernel_rfl) ?_
              rw [h5]
              refine AT.runU tOk [(24, []), (25, []), (26, []), (27, []), (28, []), (29, []), (30, []), (31, []), (32, []), (33, []), (34, []), (35, []), (36, []), (37, []), (38, [])] 0 [⟨[21], 39, 13, 61⟩, ⟨[8, 20, 21], 39, 8, 52⟩, ⟨[8, 20, 21], 39, 6, 51⟩, ⟨[3, 8, 20, 21], 41, 3, 47⟩, ⟨[1, 3, 8, 20, 21], 41, 3, 45⟩] [38, 37, 36, 35, 34, 33, 32, 31, 30, 29, 28, 27, 26, 25, 24, 23, 22, 21, 20, 19, 18, 17, 16, 15, 14, 13, 12, 11, 10, 9, 8, 7, 6, 5, 4, 3, 1, 2, 0] rfl (by kernel_rfl) (fun cx => ?_)
              exact AT.done [2] [] _ (by kernel_rfl) (by kernel_rfl) rfl
            · refine Tr.ret ?_
              have H := Option.some.inj H
              subst H
              exact Fin.of _ [(false, [.lit (.bool false)])] (by kernel_rfl) rfl rfl
          · have H := bifT h5 H
            refine Tr.to ⟨83, 0, [(13, .adr (.box 13) [(0, 0)] 5 0), (12, .val false [.lit (.int .i64 r6.2.2)]), (11, .val false [.sl true 8 (r6.2.1.map Pt.row)]), (10, .val false [.lit (.int .i64 r6.1)]), (9, .val false [.lit (.int .i64 r5.2)]), (8, .adr (.box 8) [(0, 0)] 5 0), (7, .val false [.lit (.int .i64 r4.2)]), (6, .adr (.box 6) [(0, 0)] 5 0), (5, .val false [.sl true 8 (r3.2.map Pt.row)]), (4, .val false [.lit (.int .i64 r3.1)]), (3, .adr (.box 3) [(0, 0)] 8 0), (2, .val false [.lit (.bool false)])], [(13, (Vec.row r7)), (8, (Vec.row r5.1)), (6, (Vec.row r4.1)), (3, (Pt.row r2))]⟩ (by kernel_rfl) ?_
            cases h6 : (r7.Port == r6.2.2)
            · have H := bifF h6 H
              refine Tr.draws mixed 39 (by kernel_rfl) ⟨83, 0, [(2, .val false [.lit (.bool false)])], []⟩ (fun cx => ?_) ?_
              · refine AT.runU tOk [(0, [1, 3, 8, 20, 21]), (2, [3, 8, 20, 21])] 37 [⟨[3, 8, 20, 21], 41, 3, 47⟩, ⟨[1, 3, 8, 20, 21], 41, 3, 45⟩] [2, 0] rfl (by kernel_rfl) (fun cx => ?_)
                refine AT.big1 tOk 1 (by kernel_rfl) (by kernel_rfl) ?_
                refine LAt.callU tOk [.rd] (f := 29) (av := #[.tmp 45]) (ats := #[41]) (d := (some 46)) (ty := 4) (g := none) (by kernel_rfl) (by kernel_rfl) (by kernel_rfl) [] (impl_PtOk n r2 r8 er8) (by kernel_rfl) (.inl rfl) ?_
                refine LAt.fin (by kernel_rfl) (And.intro (And.intro (by kernel_rfl) (by kernel_rfl)) ?_)
                refine AT.big1 tOk 3 (by kernel_rfl) (by kernel_rfl) ?_
                refine LAt.callU tOk [.rd] (f := 30) (av := #[.tmp 47]) (ats := #[41]) (d := (some 48)) (ty := 4) (g := none) (by kernel_rfl) (by kernel_rfl) (by kernel_rfl) [] (spec_PtOk n r2 r9 er9) (by kernel_rfl) (.inl rfl) ?_
                refine LAt.fin (by kernel_rfl) (And.intro (And.intro (by kernel_rfl) (by kernel_rfl)) ?_)
                refine AT.runU tOk [(4, []), (5, [])] 33 [⟨[3, 8, 20, 21], 41, 3, 47⟩, ⟨[1, 3, 8, 20, 21], 41, 3, 45⟩] [5, 4, 3, 1, 2, 0] rfl (by kernel_rfl) (fun cx => ?_)
                refine AT.to ⟨83, 0, [(50, .val false [.lit (.bool (r8 == r9))]), (49, .val false [.lit (.bool (r8 == r9))]), (48, .val false [.lit (.bool r9)]), (46, .val false [.lit (.bool r8)]), (47, .val true (Pt.row r2)), (45, .val true (Pt.row r2)), (13, .adr (.box 13) [(0, 0)] 5 0), (12, .val false [.lit (.int .i64 r6.2.2)]), (11, .val false [.sl true 8 (r6.2.1.map Pt.row)]), (10, .val false [.lit (.int .i64 r6.1)]), (9, .val false [.lit (.int .i64 r5.2)]), (8, .adr (.box 8) [(0, 0)] 5 0), (7, .val false [.lit (.int .i64 r4.2)]), (6, .adr (.box 6) [(0, 0)] 5 0), (5, .val false [.sl true 8 (r3.2.map Pt.row)]), (4, .val false [.lit (.int .i64 r3.1)]), (3, .adr (.box 3) [(0, 0)] 8 0), (2, .val false [.lit (.bool false)])], [(13, (Vec.row r7)), (8, (Vec.row r5.1)), (6, (Vec.row r4.1)), (3, (Pt.row r2))]⟩ (by kernel_rfl) ?_
                rw [h2]
                refine AT.runU tOk [(6, [8, 20, 21]), (7, [8, 20, 21])] 31 [⟨[8, 20, 21], 39, 8, 52⟩, ⟨[8, 20, 21], 39, 6, 51⟩, ⟨[3, 8, 20, 21], 41, 3, 47⟩, ⟨[1, 3, 8, 20, 21], 41, 3, 45⟩] [7, 6, 5, 4, 3, 1, 2, 0] rfl (by kernel_rfl) (fun cx => ?_)
                refine AT.big1 tOk 8 (by kernel_rfl) (by kernel_rfl) ?_
                refine LAt.eqSG false (t := 39) (ty := 39) (ty' := 4) (x := (.tmp 51)) (y := (.tmp 52)) (d := 53) (g := (some (5, true))) ((r4.1.Root == r5.1.Root) && ((r4.1.Cost == r5.1.Cost) && ((r4.1.Hops == r5.1.Hops) && ((r4.1.Bridge == r5.1.Bridge) && ((r4.1.Port == r5.1.Port) && true))))) _ (by kernel_rfl) (by kernel_rfl) (by kernel_rfl) (by kernel_rfl) rfl ?_
                refine LAt.fin (by kernel_rfl) (And.intro (And.intro (by kernel_rfl) (by kernel_rfl)) ?_)
                refine AT.runU tOk [(9, []), (10, [])] 28 [⟨[8, 20, 21], 39, 8, 52⟩, ⟨[8, 20, 21], 39, 6, 51⟩, ⟨[3, 8, 20, 21], 41, 3, 47⟩, ⟨[1, 3, 8, 20, 21], 41, 3, 45⟩] [10, 9, 8, 7, 6, 5, 4, 3, 1, 2, 0] rfl (by kernel_rfl) (fun cx => ?_)
                refine AT.to ⟨83, 0, [(55, .val false [.lit (.bool ((r4.1.Root == r5.1.Root) && ((r4.1.Cost == r5.1.Cost) && ((r4.1.Hops == r5.1.Hops) && ((r4.1.Bridge == r5.1.Bridge) && ((r4.1.Port == r5.1.Port) && true))))))]), (54, .val false [.lit (.bool ((r4.1.Root == r5.1.Root) && ((r4.1.Cost == r5.1.Cost) && ((r4.1.Hops == r5.1.Hops) && ((r4.1.Bridge == r5.1.Bridge) && ((r4.1.Port == r5.1.Port) && true))))))]), (53, .val false [.lit (.bool ((r4.1.Root == r5.1.Root) && ((r4.1.Cost == r5.1.Cost) && ((r4.1.Hops == r5.1.Hops) && ((r4.1.Bridge == r5.1.Bridge) && ((r4.1.Port == r5.1.Port) && true))))))]), (52, .val true (Vec.row r5.1)), (51, .val true (Vec.row r4.1)), (50, .val false [.lit (.bool true)]), (49, .val false [.lit (.bool true)]), (48, .val false [.lit (.bool r9)]), (46, .val false [.lit (.bool r8)]), (47, .val true (Pt.row r2)), (45, .val true (Pt.row r2)), (13, .adr (.box 13) [(0, 0)] 5 0), (12, .val false [.lit (.int .i64 r6.2.2)]), (11, .val false [.sl true 8 (r6.2.1.map Pt.row)]), (10, .val false [.lit (.int .i64 r6.1)]), (9, .val false [.lit (.int .i64 r5.2)]), (8, .adr (.box 8) [(0, 0)] 5 0), (7, .val false [.lit (.int .i64 r4.2)]), (6, .adr (.box 6) [(0, 0)] 5 0), (5, .val false [.sl true 8 (r3.2.map Pt.row)]), (4, .val false [.lit (.int .i64 r3.1)]), (3, .adr (.box 3) [(0, 0)] 8 0), (2, .val false [.lit (.bool false)])], [(13, (Vec.row r7)), (8, (Vec.row r5.1)), (6, (Vec.row r4.1)), (3, (Pt.row r2))]⟩ (by kernel_rfl) ?_
                rw [h3]
                refine AT.runU tOk [(11, []), (12, []), (13, []), (14, []), (15, [])] 23 [⟨[8, 20, 21], 39, 8, 52⟩, ⟨[8, 20, 21], 39, 6, 51⟩, ⟨[3, 8, 20, 21], 41, 3, 47⟩, ⟨[1, 3, 8, 20, 21], 41, 3, 45⟩] [15, 14, 13, 12, 11, 10, 9, 8, 7, 6, 5, 4, 3, 1, 2, 0] rfl (by kernel_rfl) (fun cx => ?_)
                refine AT.to ⟨83, 0, [(60, .val false [.lit (.bool (r4.2 == r5.2))]), (59, .val false [.lit (.bool (r4.2 == r5.2))]), (58, .val false [.lit (.bool (r4.2 == r5.2))]), (57, .val false [.lit (.int .i64 r5.2)]), (56, .val false [.lit (.int .i64 r4.2)]), (55, .val false [.lit (.bool true)]), (54, .val false [.lit (.bool true)]), (53, .val false [.lit (.bool true)]), (52, .val true (Vec.row r5.1)), (51, .val true (Vec.row r4.1)), (50, .val false [.lit (.bool true)]), (49, .val false [.lit (.bool true)]), (48, .val false [.lit (.bool r9)]), (46, .val false [.lit (.bool r8)]), (47, .val true (Pt.row r2)), (45, .val true (Pt.row r2)), (13, .adr (.box 13) [(0, 0)] 5 0), (12, .val false [.lit (.int .i64 r6.2.2)]), (11, .val false [.sl true 8 (r6.2.1.map Pt.row)]), (10, .val false [.lit (.int .i64 r6.1)]), (9, .val false [.lit (.int .i64 r5.2)]), (8, .adr (.box 8) [(0, 0)] 5 0), (7, .val false [.lit (.int .i64 r4.2)]), (6, .adr (.box 6) [(0, 0)] 5 0), (5, .val false [.sl true 8 (r3.2.map Pt.row)]), (4, .val false [.lit (.int .i64 r3.1)]), (3, .adr (.box 3) [(0, 0)] 8 0), (2, .val false [.lit (.bool false)])], [(13, (Vec.row r7)), (8, (Vec.row r5.1)), (6, (Vec.row r4.1)), (3, (Pt.row r2))]⟩ (by kernel_rfl) ?_
                rw [h4]
                refine AT.runU tOk [(16, [21]), (17, []), (18, []), (19, [])] 19 [⟨[21], 39, 13, 61⟩, ⟨[8, 20, 21], 39, 8, 52⟩, ⟨[8, 20, 21], 39, 6, 51⟩, ⟨[3, 8, 20, 21], 41, 3, 47⟩, ⟨[1, 3, 8, 20, 21], 41, 3, 45⟩] [19, 18, 17, 16, 15, 14, 13, 12, 11, 10, 9, 8, 7, 6, 5, 4, 3, 1, 2, 0] rfl (by kernel_rfl) (fun cx => ?_)
                refine AT.big1 tOk 20 (by kernel_rfl) (by kernel_rfl) ?_
                refine LAt.callU tOk [.rd, .rd, .rd] (f := 31) (av := #[.tmp 62, .tmp 63, .tmp 64]) (ats := #[3, 43, 3]) (d := (some 65)) (ty := 39) (g := (some (15, true))) (by kernel_rfl) (by kernel_rfl) (by kernel_rfl) [.slot 11] (spec_SayVec n r6.1 r6.2.1 r6.2.2 r10 er10) (by kernel_rfl) (.inr (rets_cons (Vec.row_mine _) rets_nil)) ?_
                refine LAt.fin (by kernel_rfl) (And.intro (And.intro (by kernel_rfl) (by kernel_rfl)) ?_)
                refine AT.big1 tOk 21 (by kernel_rfl) (by kernel_rfl) ?_
                refine LAt.eqSG false (t := 39) (ty := 39) (ty' := 4) (x := (.tmp 61)) (y := (.tmp 65)) (d := 66) (g := (some (15, true))) ((r7.Root == r10.Root) && ((r7.Cost == r10.Cost) && ((r7.Hops == r10.Hops) && ((r7.Bridge == r10.Bridge) && ((r7.Port == r10.Port) && true))))) _ (by kernel_rfl) (by kernel_rfl) (by kernel_rfl) (by kernel_rfl) rfl ?_
                refine LAt.fin (by kernel_rfl) (And.intro (And.intro (by kernel_rfl) (by kernel_rfl)) ?_)
                refine AT.runU tOk [(22, []), (23, [])] 15 [⟨[21], 39, 13, 61⟩, ⟨[8, 20, 21], 39, 8, 52⟩, ⟨[8, 20, 21], 39, 6, 51⟩, ⟨[3, 8, 20, 21], 41, 3, 47⟩, ⟨[1, 3, 8, 20, 21], 41, 3, 45⟩] [23, 22, 21, 20, 19, 18, 17, 16, 15, 14, 13, 12, 11, 10, 9, 8, 7, 6, 5, 4, 3, 1, 2, 0] rfl (by kernel_rfl) (fun cx => ?_)
                refine AT.to ⟨83, 0, [(68, .val false [.lit (.bool ((r7.Root == r10.Root) && ((r7.Cost == r10.Cost) && ((r7.Hops == r10.Hops) && ((r7.Bridge == r10.Bridge) && ((r7.Port == r10.Port) && true))))))]), (67, .val false [.lit (.bool ((r7.Root == r10.Root) && ((r7.Cost == r10.Cost) && ((r7.Hops == r10.Hops) && ((r7.Bridge == r10.Bridge) && ((r7.Port == r10.Port) && true))))))]), (66, .val false [.lit (.bool ((r7.Root == r10.Root) && ((r7.Cost == r10.Cost) && ((r7.Hops == r10.Hops) && ((r7.Bridge == r10.Bridge) && ((r7.Port == r10.Port) && true))))))]), (65, .val true (Vec.row r10)), (64, .val false [.lit (.int .i64 r6.2.2)]), (63, .ref (.slot 11) [] 0 0 1 false), (62, .val false [.lit (.int .i64 r6.1)]), (61, .val true (Vec.row r7)), (60, .val false [.lit (.bool true)]), (59, .val false [.lit (.bool true)]), (58, .val false [.lit (.bool true)]), (57, .val false [.lit (.int .i64 r5.2)]), (56, .val false [.lit (.int .i64 r4.2)]), (55, .val false [.lit (.bool true)]), (54, .val false [.lit (.bool true)]), (53, .val false [.lit (.bool true)]), (52, .val true (Vec.row r5.1)), (51, .val true (Vec.row r4.1)), (50, .val false [.lit (.bool true)]), (49, .val false [.lit (.bool true)]), (48, .val false [.lit (.bool r9)]), (46, .val false [.lit (.bool r8)]), (47, .val true (Pt.row r2)), (45, .val true (Pt.row r2)), (13, .adr (.box 13) [(0, 0)] 5 0), (12, .val false [.lit (.int .i64 r6.2.2)]), (11, .val false [.sl true 8 (r6.2.1.map Pt.row)]), (10, .val false [.lit (.int .i64 r6.1)]), (9, .val false [.lit (.int .i64 r5.2)]), (8, .adr (.box 8) [(0, 0)] 5 0), (7, .val false [.lit (.int .i64 r4.2)]), (6, .adr (.box 6) [(0, 0)] 5 0), (5, .val false [.sl true 8 (r3.2.map Pt.row)]), (4, .val false [.lit (.int .i64 r3.1)]), (3, .adr (.box 3) [(0, 0)] 8 0), (2, .val false [.lit (.bool false)])], [(13, (Vec.row r7)), (8, (Vec.row r5.1)), (6, (Vec.row r4.1)), (3, (Pt.row r2))]⟩ (by kernel_rfl) ?_
                rw [h5]
                refine AT.runU tOk [(24, []), (25, []), (26, []), (27, []), (28, []), (29, [])] 9 [⟨[], 3, 69, 70⟩, ⟨[21], 39, 13, 61⟩, ⟨[8, 20, 21], 39, 8, 52⟩, ⟨[8, 20, 21], 39, 6, 51⟩, ⟨[3, 8, 20, 21], 41, 3, 47⟩, ⟨[1, 3, 8, 20, 21], 41, 3, 45⟩] [29, 28, 27, 26, 25, 24, 23, 22, 21, 20, 19, 18, 17, 16, 15, 14, 13, 12, 11, 10, 9, 8, 7, 6, 5, 4, 3, 1, 2, 0] rfl (by kernel_rfl) (fun cx => ?_)
                refine AT.to ⟨83, 0, [(74, .val false [.lit (.bool (r7.Port == r6.2.2))]), (73, .val false [.lit (.bool (r7.Port == r6.2.2))]), (72, .val false [.lit (.bool (r7.Port == r6.2.2))]), (71, .val false [.lit (.int .i64 r6.2.2)]), (70, .val false [.lit (.int .i64 r7.Port)]), (69, .adr (.box 13) [(0, 0)] 5 4), (68, .val false [.lit (.bool true)]), (67, .val false [.lit (.bool true)]), (66, .val false [.lit (.bool true)]), (65, .val true (Vec.row r10)), (64, .val false [.lit (.int .i64 r6.2.2)]), (63, .ref (.slot 11) [] 0 0 1 false), (62, .val false [.lit (.int .i64 r6.1)]), (61, .val true (Vec.row r7)), (60, .val false [.lit (.bool true)]), (59, .val false [.lit (.bool true)]), (58, .val false [.lit (.bool true)]), (57, .val false [.lit (.int .i64 r5.2)]), (56, .val false [.lit (.int .i64 r4.2)]), (55, .val false [.lit (.bool true)]), (54, .val false [.lit (.bool true)]), (53, .val false [.lit (.bool true)]), (52, .val true (Vec.row r5.1)), (51, .val true (Vec.row r4.1)), (50, .val false [.lit (.bool true)]), (49, .val false [.lit (.bool true)]), (48, .val false [.lit (.bool r9)]), (46, .val false [.lit (.bool r8)]), (47, .val true (Pt.row r2)), (45, .val true (Pt.row r2)), (13, .adr (.box 13) [(0, 0)] 5 0), (12, .val false [.lit (.int .i64 r6.2.2)]), (11, .val false [.sl true 8 (r6.2.1.map Pt.row)]), (10, .val false [.lit (.int .i64 r6.1)]), (9, .val false [.lit (.int .i64 r5.2)]), (8, .adr (.box 8) [(0, 0)] 5 0), (7, .val false [.lit (.int .i64 r4.2)]), (6, .adr (.box 6) [(0, 0)] 5 0), (5, .val false [.sl true 8 (r3.2.map Pt.row)]), (4, .val false [.lit (.int .i64 r3.1)]), (3, .adr (.box 3) [(0, 0)] 8 0), (2, .val false [.lit (.bool false)])], [(13, (Vec.row r7)), (8, (Vec.row r5.1)), (6, (Vec.row r4.1)), (3, (Pt.row r2))]⟩ (by kernel_rfl) ?_
                rw [h6]
                refine AT.runU tOk [(30, []), (31, []), (32, []), (33, []), (34, []), (35, []), (36, []), (37, []), (38, [])] 0 [⟨[], 3, 69, 70⟩, ⟨[21], 39, 13, 61⟩, ⟨[8, 20, 21], 39, 8, 52⟩, ⟨[8, 20, 21], 39, 6, 51⟩, ⟨[3, 8, 20, 21], 41, 3, 47⟩, ⟨[1, 3, 8, 20, 21], 41, 3, 45⟩] [38, 37, 36, 35, 34, 33, 32, 31, 30, 29, 28, 27, 26, 25, 24, 23, 22, 21, 20, 19, 18, 17, 16, 15, 14, 13, 12, 11, 10, 9, 8, 7, 6, 5, 4, 3, 1, 2, 0] rfl (by kernel_rfl) (fun cx => ?_)
                exact AT.done [2] [] _ (by kernel_rfl) (by kernel_rfl) rfl
              · refine Tr.ret ?_
                have H := Option.some.inj H
                subst H
                exact Fin.of _ [(false, [.lit (.bool false)])] (by kernel_rfl) rfl rfl
            · have H := bifT h6 H
              obtain ⟨r11, er11, H⟩ := bind_some H
              obtain ⟨r12, er12, H⟩ := bind_some H
              refine Tr.draws mixed 39 (by kernel_rfl) ⟨83, 0, [(2, .val false [.lit (.bool (r11 == r12))])], []⟩ (fun cx => ?_) ?_
              · refine AT.runU tOk [(0, [1, 3, 8, 20, 21, 32, 35]), (2, [3, 8, 20, 21, 32, 35])] 37 [⟨[3, 8, 20, 21, 32, 35], 41, 3, 47⟩, ⟨[1, 3, 8, 20, 21, 32, 35], 41, 3, 45⟩] [2, 0] rfl (by kernel_rfl) (fun cx => ?_)
                refine AT.big1 tOk 1 (by kernel_rfl) (by kernel_rfl) ?_
                refine LAt.callU tOk [.rd] (f := 29) (av := #[.tmp 45]) (ats := #[41]) (d := (some 46)) (ty := 4) (g := none) (by kernel_rfl) (by kernel_rfl) (by kernel_rfl) [] (impl_PtOk n r2 r8 er8) (by kernel_rfl) (.inl rfl) ?_
                refine LAt.fin (by kernel_rfl) (And.intro (And.intro (by kernel_rfl) (by kernel_rfl)) ?_)
                refine AT.big1 tOk 3 (by kernel_rfl) (by kernel_rfl) ?_
                refine LAt.callU tOk [.rd] (f := 30) (av := #[.tmp 47]) (ats := #[41]) (d := (some 48)) (ty := 4) (g := none) (by kernel_rfl) (by kernel_rfl) (by kernel_rfl) [] (spec_PtOk n r2 r9 er9) (by kernel_rfl) (.inl rfl) ?_
                refine LAt.fin (by kernel_rfl) (And.intro (And.intro (by kernel_rfl) (by kernel_rfl)) ?_)
                refine AT.runU tOk [(4, []), (5, [])] 33 [⟨[3, 8, 20, 21, 32, 35], 41, 3, 47⟩, ⟨[1, 3, 8, 20, 21, 32, 35], 41, 3, 45⟩] [5, 4, 3, 1, 2, 0] rfl (by kernel_rfl) (fun cx => ?_)
                refine AT.to ⟨83, 0, [(50, .val false [.lit (.bool (r8 == r9))]), (49, .val false [.lit (.bool (r8 == r9))]), (48, .val false [.lit (.bool r9)]), (46, .val false [.lit (.bool r8)]), (47, .val true (Pt.row r2)), (45, .val true (Pt.row r2)), (13, .adr (.box 13) [(0, 0)] 5 0), (12, .val false [.lit (.int .i64 r6.2.2)]), (11, .val false [.sl true 8 (r6.2.1.map Pt.row)]), (10, .val false [.lit (.int .i64 r6.1)]), (9, .val false [.lit (.int .i64 r5.2)]), (8, .adr (.box 8) [(0, 0)] 5 0), (7, .val false [.lit (.int .i64 r4.2)]), (6, .adr (.box 6) [(0, 0)] 5 0), (5, .val false [.sl true 8 (r3.2.map Pt.row)]), (4, .val false [.lit (.int .i64 r3.1)]), (3, .adr (.box 3) [(0, 0)] 8 0), (2, .val false [.lit (.bool false)])], [(13, (Vec.row r7)), (8, (Vec.row r5.1)), (6, (Vec.row r4.1)), (3, (Pt.row r2))]⟩ (by kernel_rfl) ?_
                rw [h2]
                refine AT.runU tOk [(6, [8, 20, 21, 32, 35]), (7, [8, 20, 21, 32, 35])] 31 [⟨[8, 20, 21, 32, 35], 39, 8, 52⟩, ⟨[8, 20, 21, 32, 35], 39, 6, 51⟩, ⟨[3, 8, 20, 21, 32, 35], 41, 3, 47⟩, ⟨[1, 3, 8, 20, 21, 32, 35], 41, 3, 45⟩] [7, 6, 5, 4, 3, 1, 2, 0] rfl (by kernel_rfl) (fun cx => ?_)
                refine AT.big1 tOk 8 (by kernel_rfl) (by kernel_rfl) ?_
                refine LAt.eqSG false (t := 39) (ty := 39) (ty' := 4) (x := (.tmp 51)) (y := (.tmp 52)) (d := 53) (g := (some (5, true))) ((r4.1.Root == r5.1.Root) && ((r4.1.Cost == r5.1.Cost) && ((r4.1.Hops == r5.1.Hops) && ((r4.1.Bridge == r5.1.Bridge) && ((r4.1.Port == r5.1.Port) && true))))) _ (by kernel_rfl) (by kernel_rfl) (by kernel_rfl) (by kernel_rfl) rfl ?_
                refine LAt.fin (by kernel_rfl) (And.intro (And.intro (by kernel_rfl) (by kernel_rfl)) ?_)
                refine AT.runU tOk [(9, []), (10, [])] 28 [⟨[8, 20, 21, 32, 35], 39, 8, 52⟩, ⟨[8, 20, 21, 32, 35], 39, 6, 51⟩, ⟨[3, 8, 20, 21, 32, 35], 41, 3, 47⟩, ⟨[1, 3, 8, 20, 21, 32, 35], 41, 3, 45⟩] [10, 9, 8, 7, 6, 5, 4, 3, 1, 2, 0] rfl (by kernel_rfl) (fun cx => ?_)
                refine AT.to ⟨83, 0, [(55, .val false [.lit (.bool ((r4.1.Root == r5.1.Root) && ((r4.1.Cost == r5.1.Cost) && ((r4.1.Hops == r5.1.Hops) && ((r4.1.Bridge == r5.1.Bridge) && ((r4.1.Port == r5.1.Port) && true))))))]), (54, .val false [.lit (.bool ((r4.1.Root == r5.1.Root) && ((r4.1.Cost == r5.1.Cost) && ((r4.1.Hops == r5.1.Hops) && ((r4.1.Bridge == r5.1.Bridge) && ((r4.1.Port == r5.1.Port) && true))))))]), (53, .val false [.lit (.bool ((r4.1.Root == r5.1.Root) && ((r4.1.Cost == r5.1.Cost) && ((r4.1.Hops == r5.1.Hops) && ((r4.1.Bridge == r5.1.Bridge) && ((r4.1.Port == r5.1.Port) && true))))))]), (52, .val true (Vec.row r5.1)), (51, .val true (Vec.row r4.1)), (50, .val false [.lit (.bool true)]), (49, .val false [.lit (.bool true)]), (48, .val false [.lit (.bool r9)]), (46, .val false [.lit (.bool r8)]), (47, .val true (Pt.row r2)), (45, .val true (Pt.row r2)), (13, .adr (.box 13) [(0, 0)] 5 0), (12, .val false [.lit (.int .i64 r6.2.2)]), (11, .val false [.sl true 8 (r6.2.1.map Pt.row)]), (10, .val false [.lit (.int .i64 r6.1)]), (9, .val false [.lit (.int .i64 r5.2)]), (8, .adr (.box 8) [(0, 0)] 5 0), (7, .val false [.lit (.int .i64 r4.2)]), (6, .adr (.box 6) [(0, 0)] 5 0), (5, .val false [.sl true 8 (r3.2.map Pt.row)]), (4, .val false [.lit (.int .i64 r3.1)]), (3, .adr (.box 3) [(0, 0)] 8 0), (2, .val false [.lit (.bool false)])], [(13, (Vec.row r7)), (8, (Vec.row r5.1)), (6, (Vec.row r4.1)), (3, (Pt.row r2))]⟩ (by kernel_rfl) ?_
                rw [h3]
                refine AT.runU tOk [(11, []), (12, []), (13, []), (14, []), (15, [])] 23 [⟨[8, 20, 21, 32, 35], 39, 8, 52⟩, ⟨[8, 20, 21, 32, 35], 39, 6, 51⟩, ⟨[3, 8, 20, 21, 32, 35], 41, 3, 47⟩, ⟨[1, 3, 8, 20, 21, 32, 35], 41, 3, 45⟩] [15, 14, 13, 12, 11, 10, 9, 8, 7, 6, 5, 4, 3, 1, 2, 0] rfl (by kernel_rfl) (fun cx => ?_)
                refine AT.to ⟨83, 0, [(60, .val false [.lit (.bool (r4.2 == r5.2))]), (59, .val false [.lit (.bool (r4.2 == r5.2))]), (58, .val false [.lit (.bool (r4.2 == r5.2))]), (57, .val false [.lit (.int .i64 r5.2)]), (56, .val false [.lit (.int .i64 r4.2)]), (55, .val false [.lit (.bool true)]), (54, .val false [.lit (.bool true)]), (53, .val false [.lit (.bool true)]), (52, .val true (Vec.row r5.1)), (51, .val true (Vec.row r4.1)), (50, .val false [.lit (.bool true)]), (49, .val false [.lit (.bool true)]), (48, .val false [.lit (.bool r9)]), (46, .val false [.lit (.bool r8)]), (47, .val true (Pt.row r2)), (45, .val true (Pt.row r2)), (13, .adr (.box 13) [(0, 0)] 5 0), (12, .val false [.lit (.int .i64 r6.2.2)]), (11, .val false [.sl true 8 (r6.2.1.map Pt.row)]), (10, .val false [.lit (.int .i64 r6.1)]), (9, .val false [.lit (.int .i64 r5.2)]), (8, .adr (.box 8) [(0, 0)] 5 0), (7, .val false [.lit (.int .i64 r4.2)]), (6, .adr (.box 6) [(0, 0)] 5 0), (5, .val false [.sl true 8 (r3.2.map Pt.row)]), (4, .val false [.lit (.int .i64 r3.1)]), (3, .adr (.box 3) [(0, 0)] 8 0), (2, .val false [.lit (.bool false)])], [(13, (Vec.row r7)), (8, (Vec.row r5.1)), (6, (Vec.row r4.1)), (3, (Pt.row r2))]⟩ (by kernel_rfl) ?_
                rw [h4]
                refine AT.runU tOk [(16, [21, 32, 35]), (17, []), (18, []), (19, [])] 19 [⟨[21, 32, 35], 39, 13, 61⟩, ⟨[8, 20, 21, 32, 35], 39, 8, 52⟩, ⟨[8, 20, 21, 32, 35], 39, 6, 51⟩, ⟨[3, 8, 20, 21, 32, 35], 41, 3, 47⟩, ⟨[1, 3, 8, 20, 21, 32, 35], 41, 3, 45⟩] [19, 18, 17, 16, 15, 14, 13, 12, 11, 10, 9, 8, 7, 6, 5, 4, 3, 1, 2, 0] rfl (by kernel_rfl) (fun cx => ?_)
                refine AT.big1 tOk 20 (by kernel_rfl) (by kernel_rfl) ?_
                refine LAt.callU tOk [.rd, .rd, .rd] (f := 31) (av := #[.tmp 62, .tmp 63, .tmp 64]) (ats := #[3, 43, 3]) (d := (some 65)) (ty := 39) (g := (some (15, true))) (by kernel_rfl) (by kernel_rfl) (by kernel_rfl) [.slot 11] (spec_SayVec n r6.1 r6.2.1 r6.2.2 r10 er10) (by kernel_rfl) (.inr (rets_cons (Vec.row_mine _) rets_nil)) ?_
                refine LAt.fin (by kernel_rfl) (And.intro (And.intro (by kernel_rfl) (by kernel_rfl)) ?_)
                refine AT.big1 tOk 21 (by kernel_rfl) (by kernel_rfl) ?_
                refine LAt.eqSG false (t := 39) (ty := 39) (ty' := 4) (x := (.tmp 61)) (y := (.tmp 65)) (d := 66) (g := (some (15, true))) ((r7.Root == r10.Root) && ((r7.Cost == r10.Cost) && ((r7.Hops == r10.Hops) && ((r7.Bridge == r10.Bridge) && ((r7.Port == r10.Port) && true))))) _ (by kernel_rfl) (by kernel_rfl) (by kernel_rfl) (by kernel_rfl) rfl ?_
                refine LAt.fin (by kernel_rfl) (And.intro (And.intro (by kernel_rfl) (by kernel_rfl)) ?_)
                refine AT.runU tOk [(22, []), (23, [])] 15 [⟨[21, 32, 35], 39, 13, 61⟩, ⟨[8, 20, 21, 32, 35], 39, 8, 52⟩, ⟨[8, 20, 21, 32, 35], 39, 6, 51⟩, ⟨[3, 8, 20, 21, 32, 35], 41, 3, 47⟩, ⟨[1, 3, 8, 20, 21, 32, 35], 41, 3, 45⟩] [23, 22, 21, 20, 19, 18, 17, 16, 15, 14, 13, 12, 11, 10, 9, 8, 7, 6, 5, 4, 3, 1, 2, 0] rfl (by kernel_rfl) (fun cx => ?_)
                refine AT.to ⟨83, 0, [(68, .val false [.lit (.bool ((r7.Root == r10.Root) && ((r7.Cost == r10.Cost) && ((r7.Hops == r10.Hops) && ((r7.Bridge == r10.Bridge) && ((r7.Port == r10.Port) && true))))))]), (67, .val false [.lit (.bool ((r7.Root == r10.Root) && ((r7.Cost == r10.Cost) && ((r7.Hops == r10.Hops) && ((r7.Bridge == r10.Bridge) && ((r7.Port == r10.Port) && true))))))]), (66, .val false [.lit (.bool ((r7.Root == r10.Root) && ((r7.Cost == r10.Cost) && ((r7.Hops == r10.Hops) && ((r7.Bridge == r10.Bridge) && ((r7.Port == r10.Port) && true))))))]), (65, .val true (Vec.row r10)), (64, .val false [.lit (.int .i64 r6.2.2)]), (63, .ref (.slot 11) [] 0 0 1 false), (62, .val false [.lit (.int .i64 r6.1)]), (61, .val true (Vec.row r7)), (60, .val false [.lit (.bool true)]), (59, .val false [.lit (.bool true)]), (58, .val false [.lit (.bool true)]), (57, .val false [.lit (.int .i64 r5.2)]), (56, .val false [.lit (.int .i64 r4.2)]), (55, .val false [.lit (.bool true)]), (54, .val false [.lit (.bool true)]), (53, .val false [.lit (.bool true)]), (52, .val true (Vec.row r5.1)), (51, .val true (Vec.row r4.1)), (50, .val false [.lit (.bool true)]), (49, .val false [.lit (.bool true)]), (48, .val false [.lit (.bool r9)]), (46, .val false [.lit (.bool r8)]), (47, .val true (Pt.row r2)), (45, .val true (Pt.row r2)), (13, .adr (.box 13) [(0, 0)] 5 0), (12, .val false [.lit (.int .i64 r6.2.2)]), (11, .val false [.sl true 8 (r6.2.1.map Pt.row)]), (10, .val false [.lit (.int .i64 r6.1)]), (9, .val false [.lit (.int .i64 r5.2)]), (8, .adr (.box 8) [(0, 0)] 5 0), (7, .val false [.lit (.int .i64 r4.2)]), (6, .adr (.box 6) [(0, 0)] 5 0), (5, .val false [.sl true 8 (r3.2.map Pt.row)]), (4, .val false [.lit (.int .i64 r3.1)]), (3, .adr (.box 3) [(0, 0)] 8 0), (2, .val false [.lit (.bool false)])], [(13, (Vec.row r7)), (8, (Vec.row r5.1)), (6, (Vec.row r4.1)), (3, (Pt.row r2))]⟩ (by kernel_rfl) ?_
                rw [h5]
                refine AT.runU tOk [(24, []), (25, [32, 35]), (26, []), (27, []), (28, []), (29, [])] 9 [⟨[32, 35], 3, 69, 70⟩, ⟨[21, 32, 35], 39, 13, 61⟩, ⟨[8, 20, 21, 32, 35], 39, 8, 52⟩, ⟨[8, 20, 21, 32, 35], 39, 6, 51⟩, ⟨[3, 8, 20, 21, 32, 35], 41, 3, 47⟩, ⟨[1, 3, 8, 20, 21, 32, 35], 41, 3, 45⟩] [29, 28, 27, 26, 25, 24, 23, 22, 21, 20, 19, 18, 17, 16, 15, 14, 13, 12, 11, 10, 9, 8, 7, 6, 5, 4, 3, 1, 2, 0] rfl (by kernel_rfl) (fun cx => ?_)
                refine AT.to ⟨83, 0, [(74, .val false [.lit (.bool (r7.Port == r6.2.2))]), (73, .val false [.lit (.bool (r7.Port == r6.2.2))]), (72, .val false [.lit (.bool (r7.Port == r6.2.2))]), (71, .val false [.lit (.int .i64 r6.2.2)]), (70, .val false [.lit (.int .i64 r7.Port)]), (69, .adr (.box 13) [(0, 0)] 5 4), (68, .val false [.lit (.bool true)]), (67, .val false [.lit (.bool true)]), (66, .val false [.lit (.bool true)]), (65, .val true (Vec.row r10)), (64, .val false [.lit (.int .i64 r6.2.2)]), (63, .ref (.slot 11) [] 0 0 1 false), (62, .val false [.lit (.int .i64 r6.1)]), (61, .val true (Vec.row r7)), (60, .val false [.lit (.bool true)]), (59, .val false [.lit (.bool true)]), (58, .val false [.lit (.bool true)]), (57, .val false [.lit (.int .i64 r5.2)]), (56, .val false [.lit (.int .i64 r4.2)]), (55, .val false [.lit (.bool true)]), (54, .val false [.lit (.bool true)]), (53, .val false [.lit (.bool true)]), (52, .val true (Vec.row r5.1)), (51, .val true (Vec.row r4.1)), (50, .val false [.lit (.bool true)]), (49, .val false [.lit (.bool true)]), (48, .val false [.lit (.bool r9)]), (46, .val false [.lit (.bool r8)]), (47, .val true (Pt.row r2)), (45, .val true (Pt.row r2)), (13, .adr (.box 13) [(0, 0)] 5 0), (12, .val false [.lit (.int .i64 r6.2.2)]), (11, .val false [.sl true 8 (r6.2.1.map Pt.row)]), (10, .val false [.lit (.int .i64 r6.1)]), (9, .val false [.lit (.int .i64 r5.2)]), (8, .adr (.box 8) [(0, 0)] 5 0), (7, .val false [.lit (.int .i64 r4.2)]), (6, .adr (.box 6) [(0, 0)] 5 0), (5, .val false [.sl true 8 (r3.2.map Pt.row)]), (4, .val false [.lit (.int .i64 r3.1)]), (3, .adr (.box 3) [(0, 0)] 8 0), (2, .val false [.lit (.bool false)])], [(13, (Vec.row r7)), (8, (Vec.row r5.1)), (6, (Vec.row r4.1)), (3, (Pt.row r2))]⟩ (by kernel_rfl) ?_
                rw [h6]
                refine AT.runU tOk [(30, []), (31, []), (33, []), (34, [])] 5 [⟨[32, 35], 3, 69, 70⟩, ⟨[21, 32, 35], 39, 13, 61⟩, ⟨[8, 20, 21, 32, 35], 39, 8, 52⟩, ⟨[8, 20, 21, 32, 35], 39, 6, 51⟩, ⟨[3, 8, 20, 21, 32, 35], 41, 3, 47⟩, ⟨[1, 3, 8, 20, 21, 32, 35], 41, 3, 45⟩] [34, 33, 31, 30, 29, 28, 27, 26, 25, 24, 23, 22, 21, 20, 19, 18, 17, 16, 15, 14, 13, 12, 11, 10, 9, 8, 7, 6, 5, 4, 3, 1, 2, 0] rfl (by kernel_rfl) (fun cx => ?_)
                refine AT.big1 tOk 32 (by kernel_rfl) (by kernel_rfl) ?_
                refine LAt.callU tOk [.rd, .rd] (f := 32) (av := #[.tmp 75, .tmp 76]) (ats := #[3, 43]) (d := (some 77)) (ty := 3) (g := (some (29, true))) (by kernel_rfl) (by kernel_rfl) (by kernel_rfl) [.slot 5] (impl_Sends n r3.1 r3.2 r11 er11) (by kernel_rfl) (.inr (rets_cons (mine_cons mine_lit mine_nil) rets_nil)) ?_
                refine LAt.fin (by kernel_rfl) (And.intro (And.intro (by kernel_rfl) (by kernel_rfl)) ?_)
                refine AT.big1 tOk 35 (by kernel_rfl) (by kernel_rfl) ?_
                refine LAt.callU tOk [.rd, .rd] (f := 33) (av := #[.tmp 78, .tmp 79]) (ats := #[3, 43]) (d := (some 80)) (ty := 3) (g := (some (29, true))) (by kernel_rfl) (by kernel_rfl) (by kernel_rfl) [.slot 5] (spec_Sends n r3.1 r3.2 r12 er12) (by kernel_rfl) (.inr (rets_cons (mine_cons mine_lit mine_nil) rets_nil)) ?_
                refine LAt.fin (by kernel_rfl) (And.intro (And.intro (by kernel_rfl) (by kernel_rfl)) ?_)
                refine AT.runU tOk [(36, []), (37, []), (38, [])] 0 [⟨[32, 35], 3, 69, 70⟩, ⟨[21, 32, 35], 39, 13, 61⟩, ⟨[8, 20, 21, 32, 35], 39, 8, 52⟩, ⟨[8, 20, 21, 32, 35], 39, 6, 51⟩, ⟨[3, 8, 20, 21, 32, 35], 41, 3, 47⟩, ⟨[1, 3, 8, 20, 21, 32, 35], 41, 3, 45⟩] [38, 37, 36, 35, 32, 34, 33, 31, 30, 29, 28, 27, 26, 25, 24, 23, 22, 21, 20, 19, 18, 17, 16, 15, 14, 13, 12, 11, 10, 9, 8, 7, 6, 5, 4, 3, 1, 2, 0] rfl (by kernel_rfl) (fun cx => ?_)
                exact AT.done [2] [] _ (by kernel_rfl) (by kernel_rfl) rfl
              · refine Tr.ret ?_
                have H := Option.some.inj H
                subst H
                exact Fin.of _ [(false, [.lit (.bool (r11 == r12))])] (by kernel_rfl) rfl rfl
  · have H := bifT h1 H
    refine Tr.cond (b := true) (by kernel_rfl) (fun _ => ?_) (fun h => nomatch h)
    refine Tr.rs ?_
    refine LAt.runU tOk 1 (by kernel_rfl) ?_
    refine LAt.doneU [2, 0] [] (by kernel_rfl) ?_
    refine Tr.ret ?_
    have H := Option.some.inj H
    subst H
    exact Fin.of _ [(false, [.lit (.bool true)])] (by kernel_rfl) rfl rfl
end Go.Proofs.Ytgpcfaiacggoiaa.Tw
