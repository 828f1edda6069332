/- Functions of the program, over trees. -/
import Derived.Test.YtjdedhklbdkeoaaProg
import Derived.Test.YtjdedhklbdkeoaaTlRule
import Derived.Test.YtjdedhklbdkeoaaTlU5
import Derived.Test.YtjdedhklbdkeoaaTwNO2
import Derived.WalkKit
set_option linter.unusedVariables false
set_option linter.unusedSimpArgs false
set_option maxRecDepth 100000
set_option maxHeartbeats 1000000
namespace Go.Proofs.Ytjdedhklbdkeoaa.Tw
open Go Go.TL Go.Proofs


def laws_eqBridgeF (n : Nat) (x0 : Bridge) (x1 : Bridge) : Option (Bool) :=
  (bif (x0.Id != x1.Id) then (some false) else (bif (!(x0.Name.toList == x1.Name.toList)) then (some false) else ((laws_eqPtSF n x0.Ports x1.Ports).bind fun r1 => (bif (!r1) then (some false) else ((laws_eqFentSF n x0.F x1.F).bind fun r2 => (bif (!r2) then (some false) else ((laws_eqVtabF n x0.V x1.V).bind fun r3 => (bif (!r3) then (some false) else (bif (x0.Ticks != x1.Ticks) then (some false) else (bif (x0.Parse != x1.Parse) then (some false) else (bif (x0.Word != x1.Word) then (some false) else (bif (x0.Drops != x1.Drops) then (some false) else (bif (x0.Vers != x1.Vers) then (some false) else (some true))))))))))))))
/-- loop.example/g00326/laws.eqBridge -/
theorem laws_eqBridge (n : Nat) (x0 : Bridge) (x1 : Bridge) (r : Bool) (H : laws_eqBridgeF n x0 x1 = some r) : LCall Try.prog 39 [.val true (CV.frzRow (Bridge.row x0)), .val true (CV.frzRow (Bridge.row x1))] [.val false [.lit (.bool r)]] [] := by
  refine LCall.of_body tOk Try.func39 rfl (c := (.seq (.region 0 (rg Try.f39 0) false) (.seq (.seq (.region 1 (rg Try.f39 1) false) (.cond (.tmp 9) (.seq (.region 2 (rg Try.f39 2) false) .ret) .skip)) (.seq (.seq (.region 3 (rg Try.f39 3) false) (.cond (.tmp 14) (.seq (.region 4 (rg Try.f39 4) false) .ret) .skip)) (.seq (.seq (.region 5 (rg Try.f39 5) false) (.cond (.tmp 20) (.seq (.region 6 (rg Try.f39 6) false) .ret) .skip)) (.seq (.seq (.region 7 (rg Try.f39 7) false) (.cond (.tmp 26) (.seq (.region 8 (rg Try.f39 8) false) .ret) .skip)) (.seq (.seq (.region 9 (rg Try.f39 9) false) (.cond (.tmp 32) (.seq (.region 10 (rg Try.f39 10) false) .ret) .skip)) (.seq (.seq (.region 11 (rg Try.f39 11) false) (.cond (.tmp 37) (.seq (.region 12 (rg Try.f39 12) false) .ret) .skip)) (.seq (.seq (.region 13 (rg Try.f39 13) false) (.cond (.tmp 42) (.seq (.region 14 (rg Try.f39 14) false) .ret) .skip)) (.seq (.seq (.region 15 (rg Try.f39 15) false) (.cond (.tmp 47) (.seq (.region 16 (rg Try.f39 16) false) .ret) .skip)) (.seq (.seq (.region 17 (rg Try.f39 17) false) (.cond (.tmp 52) (.seq (.region 18 (rg Try.f39 18) false) .ret) .skip)) (.seq (.seq (.region 19 (rg Try.f39 19) false) (.cond (.tmp 57) (.seq (.region 20 (rg Try.f39 20) false) .ret) .skip)) (.seq (.region 21 (rg Try.f39 21) false) .ret))))))))))))) kr (Nat.le_of_ble_eq_true kr) 0 (rs := [.tmp 4]) rfl [] .nil [(false, [.lit (.bool r)])] [] [] fun cx => ?_
  show Tr _ _ _ ⟨58, 0, [sV 0 (CV.frzRow (Bridge.row x0)), sV 1 (CV.frzRow (Bridge.row x1))], []⟩ _
  unfold laws_eqBridgeF at H
  refine Tr.rs ?_
  refine LAt.runU tOk 3 kr ?_
  refine LAt.doneM 28 12 kr ?_
  refine Tr.seq ?_
  refine Tr.rs ?_
  refine LAt.runU tOk 5 kr ?_
  refine LAt.doneM 540 12 kr ?_
  refine Tr.to ⟨58, 0, [sB 9 (x0.Id != x1.Id), sB 4 false, sA 3 3 11 0, sA 2 2 11 0], [(3, (CV.frzRow (Bridge.row x1))), (2, (CV.frzRow (Bridge.row x0)))]⟩ kr ?_
  cases h1 : (x0.Id != x1.Id)
  · have H := bifF h1 H
    refine Tr.cond (b := false) kr (fun h => nomatch h) (fun _ => ?_)
    refine Tr.skip ?_
    show Tr _ _ _ _ _
    refine Tr.seq ?_
    refine Tr.rs ?_
    refine LAt.runU tOk 5 kr ?_
    refine LAt.doneM 16412 12 kr ?_
    refine Tr.to ⟨58, 0, [sB 14 (!(x0.Name.toList == x1.Name.toList)), sB 4 false, sA 3 3 11 0, sA 2 2 11 0], [(3, (CV.frzRow (Bridge.row x1))), (2, (CV.frzRow (Bridge.row x0)))]⟩ kr ?_
    cases h2 : (!(x0.Name.toList == x1.Name.toList))
    · have H := bifF h2 H
      refine Tr.cond (b := false) kr (fun h => nomatch h) (fun _ => ?_)
      refine Tr.skip ?_
      show Tr _ _ _ _ _
      refine Tr.seq ?_
      refine Tr.rs ?_
      refine LAt.runU tOk 4 kr ?_
      obtain ⟨r1, er1, H⟩ := bind_some H
      refine LAt.callU tOk [.rd, .rd] (f := 106) (av := #[.tmp 16, .tmp 18]) (ats := #[55, 55]) (d := (some 19)) (ty := 4) (g := none) kr kr kr [] (laws_eqPtS n x0.Ports x1.Ports r1 er1) kr (.inl rfl) ?_
      refine LAt.runU tOk 1 kr ?_
      refine LAt.doneM 1048604 12 kr ?_
      refine Tr.to ⟨58, 0, [sB 20 (!r1), sB 4 false, sA 3 3 11 0, sA 2 2 11 0], [(3, (CV.frzRow (Bridge.row x1))), (2, (CV.frzRow (Bridge.row x0)))]⟩ kr ?_
      cases h3 : (!r1)
      · have H := bifF h3 H
        refine Tr.cond (b := false) kr (fun h => nomatch h) (fun _ => ?_)
        refine Tr.skip ?_
        show Tr _ _ _ _ _
        refine Tr.seq ?_
        refine Tr.rs ?_
        refine LAt.runU tOk 4 kr ?_
        obtain ⟨r2, er2, H⟩ := bind_some H
        refine LAt.callU tOk [.rd, .rd] (f := 107) (av := #[.tmp 22, .tmp 24]) (ats := #[56, 56]) (d := (some 25)) (ty := 4) (g := none) kr kr kr [] (laws_eqFentS n x0.F x1.F r2 er2) kr (.inl rfl) ?_
        refine LAt.runU tOk 1 kr ?_
        refine LAt.doneM 67108892 12 kr ?_
        refine Tr.to ⟨58, 0, [sB 26 (!r2), sB 4 false, sA 3 3 11 0, sA 2 2 11 0], [(3, (CV.frzRow (Bridge.row x1))), (2, (CV.frzRow (Bridge.row x0)))]⟩ kr ?_
        cases h4 : (!r2)
        · have H := bifF h4 H
          refine Tr.cond (b := false) kr (fun h => nomatch h) (fun _ => ?_)
          refine Tr.skip ?_
          show Tr _ _ _ _ _
          refine Tr.seq ?_
          refine Tr.rs ?_
          refine LAt.runU tOk 4 kr ?_
          obtain ⟨r3, er3, H⟩ := bind_some H
          refine LAt.callU tOk [.rd, .rd] (f := 108) (av := #[.tmp 28, .tmp 30]) (ats := #[59, 59]) (d := (some 31)) (ty := 4) (g := none) kr kr kr [] (laws_eqVtab n x0.V x1.V r3 er3) kr (.inl rfl) ?_
          refine LAt.runU tOk 1 kr ?_
          refine LAt.doneM 4294967324 12 kr ?_
          refine Tr.to ⟨58, 0, [sB 32 (!r3), sB 4 false, sA 3 3 11 0, sA 2 2 11 0], [(3, (CV.frzRow (Bridge.row x1))), (2, (CV.frzRow (Bridge.row x0)))]⟩ kr ?_
          cases h5 : (!r3)
          · have H := bifF h5 H
            refine Tr.cond (b := false) kr (fun h => nomatch h) (fun _ => ?_)
            refine Tr.skip ?_
            show Tr _ _ _ _ _
            refine Tr.seq ?_
            refine Tr.rs ?_
            refine LAt.runU tOk 5 kr ?_
            refine LAt.doneM 137438953500 12 kr ?_
            refine Tr.to ⟨58, 0, [sB 37 (x0.Ticks != x1.Ticks), sB 4 false, sA 3 3 11 0, sA 2 2 11 0], [(3, (CV.frzRow (Bridge.row x1))), (2, (CV.frzRow (Bridge.row x0)))]⟩ kr ?_
            cases h6 : (x0.Ticks != x1.Ticks)
            · have H := bifF h6 H
              refine Tr.cond (b := false) kr (fun h => nomatch h) (fun _ => ?_)
              refine Tr.skip ?_
              show Tr _ _ _ _ _
              refine Tr.seq ?_
              refine Tr.rs ?_
              refine LAt.runU tOk 5 kr ?_
              refine LAt.doneM 4398046511132 12 kr ?_
              refine Tr.to ⟨58, 0, [sB 42 (x0.Parse != x1.Parse), sB 4 false, sA 3 3 11 0, sA 2 2 11 0], [(3, (CV.frzRow (Bridge.row x1))), (2, (CV.frzRow (Bridge.row x0)))]⟩ kr ?_
              cases h7 : (x0.Parse != x1.Parse)
              · have H := bifF h7 H
                refine Tr.cond (b := false) kr (fun h => nomatch h) (fun _ => ?_)
                refine Tr.skip ?_
                show Tr _ _ _ _ _
                refine Tr.seq ?_
                refine Tr.rs ?_
                refine LAt.runU tOk 5 kr ?_
                refine LAt.doneM 140737488355356 12 kr ?_
                refine Tr.to ⟨58, 0, [sB 47 (x0.Word != x1.Word), sB 4 false, sA 3 3 11 0, sA 2 2 11 0], [(3, (CV.frzRow (Bridge.row x1))), (2, (CV.frzRow (Bridge.row x0)))]⟩ kr ?_
                cases h8 : (x0.Word != x1.Word)
                · have H := bifF h8 H
                  refine Tr.cond (b := false) kr (fun h => nomatch h) (fun _ => ?_)
                  refine Tr.skip ?_
                  show Tr _ _ _ _ _
                  refine Tr.seq ?_
                  refine Tr.rs ?_
                  refine LAt.runU tOk 5 kr ?_
                  refine LAt.doneM 4503599627370524 12 kr ?_
                  refine Tr.to ⟨58, 0, [sB 52 (x0.Drops != x1.Drops), sB 4 false, sA 3 3 11 0, sA 2 2 11 0], [(3, (CV.frzRow (Bridge.row x1))), (2, (CV.frzRow (Bridge.row x0)))]⟩ kr ?_
                  cases h9 : (x0.Drops != x1.Drops)
                  · have H := bifF h9 H
                    refine Tr.cond (b := false) kr (fun h => nomatch h) (fun _ => ?_)
                    refine Tr.skip ?_
                    show Tr _ _ _ _ _
                    refine Tr.seq ?_
                    refine Tr.rs ?_
                    refine LAt.runU tOk 5 kr ?_
                    refine LAt.doneM 144115188075855888 0 kr ?_
                    refine Tr.to ⟨58, 0, [sB 57 (x0.Vers != x1.Vers), sB 4 false], []⟩ kr ?_
                    cases h10 : (x0.Vers != x1.Vers)
                    · have H := bifF h10 H
                      refine Tr.cond (b := false) kr (fun h => nomatch h) (fun _ => ?_)
                      refine Tr.skip ?_
                      show Tr _ _ _ _ _
                      refine Tr.rs ?_
                      refine LAt.runU tOk 1 kr ?_
                      refine LAt.doneM 16 0 kr ?_
                      refine Tr.ret ?_
                      have H := Option.some.inj H
                      subst H
                      exact Fin.of _ [(false, [cB true])] kr rfl rfl
                    · have H := bifT h10 H
                      refine Tr.cond (b := true) kr (fun _ => ?_) (fun h => nomatch h)
                      refine Tr.rs ?_
                      refine LAt.runU tOk 1 kr ?_
                      refine LAt.doneM 16 0 kr ?_
                      refine Tr.ret ?_
                      have H := Option.some.inj H
                      subst H
                      exact Fin.of _ [(false, [cB false])] kr rfl rfl
                  · have H := bifT h9 H
                    refine Tr.cond (b := true) kr (fun _ => ?_) (fun h => nomatch h)
                    refine Tr.rs ?_
                    refine LAt.runU tOk 1 kr ?_
                    refine LAt.doneM 28 12 kr ?_
                    refine Tr.ret ?_
                    have H := Option.some.inj H
                    subst H
                    exact Fin.of _ [(false, [cB false])] kr rfl rfl
                · have H := bifT h8 H
                  refine Tr.cond (b := true) kr (fun _ => ?_) (fun h => nomatch h)
                  refine Tr.rs ?_
                  refine LAt.runU tOk 1 kr ?_
                  refine LAt.doneM 28 12 kr ?_
                  refine Tr.ret ?_
                  have H := Option.some.inj H
                  subst H
                  exact Fin.of _ [(false, [cB false])] kr rfl rfl
              · have H := bifT h7 H
                refine Tr.cond (b := true) kr (fun _ => ?_) (fun h => nomatch h)
                refine Tr.rs ?_
                refine LAt.runU tOk 1 kr ?_
                refine LAt.doneM 28 12 kr ?_
                refine Tr.ret ?_
                have H := Option.some.inj H
                subst H
                exact Fin.of _ [(false, [cB false])] kr rfl rfl
            · have H := bifT h6 H
              refine Tr.cond (b := true) kr (fun _ => ?_) (fun h => nomatch h)
              refine Tr.rs ?_
              refine LAt.runU tOk 1 kr ?_
              refine LAt.doneM 28 12 kr ?_
              refine Tr.ret ?_
              have H := Option.some.inj H
              subst H
              exact Fin.of _ [(false, [cB false])] kr rfl rfl
          · have H := bifT h5 H
            refine Tr.cond (b := true) kr (fun _ => ?_) (fun h => nomatch h)
            refine Tr.rs ?_
            refine LAt.runU tOk 1 kr ?_
            refine LAt.doneM 28 12 kr ?_
            refine Tr.ret ?_
            have H := Option.some.inj H
            subst H
            exact Fin.of _ [(false, [cB false])] kr rfl rfl
        · have H := bifT h4 H
          refine Tr.cond (b := true) kr (fun _ => ?_) (fun h => nomatch h)
          refine Tr.rs ?_
          refine LAt.runU tOk 1 kr ?_
          refine LAt.doneM 28 12 kr ?_
          refine Tr.ret ?_
          have H := Option.some.inj H
          subst H
          exact Fin.of _ [(false, [cB false])] kr rfl rfl
      · have H := bifT h3 H
        refine Tr.cond (b := true) kr (fun _ => ?_) (fun h => nomatch h)
        refine Tr.rs ?_
        refine LAt.runU tOk 1 kr ?_
        refine LAt.doneM 28 12 kr ?_
        refine Tr.ret ?_
        have H := Option.some.inj H
        subst H
        exact Fin.of _ [(false, [cB false])] kr rfl rfl
    · have H := bifT h2 H
      refine Tr.cond (b := true) kr (fun _ => ?_) (fun h => nomatch h)
      refine Tr.rs ?_
      refine LAt.runU tOk 1 kr ?_
      refine LAt.doneM 28 12 kr ?_
      refine Tr.ret ?_
      have H := Option.some.inj H
      subst H
      exact Fin.of _ [(false, [cB false])] kr rfl rfl
  · have H := bifT h1 H
    refine Tr.cond (b := true) kr (fun _ => ?_) (fun h => nomatch h)
    refine Tr.rs ?_
    refine LAt.runU tOk 1 kr ?_
    refine LAt.doneM 28 12 kr ?_
    refine Tr.ret ?_
    have H := Option.some.inj H
    subst H
    exact Fin.of _ [(false, [cB false])] kr rfl rfl

def laws_eqBridgeS_J1 (n : Nat) : Option (Bool) :=
  (some true)
def laws_eqBridgeS_L2 (n : Nat) : Nat → (List Bridge) → (List Bridge) → Int → Option ((Unit) ⊕ (Bool))
  | 0, _, _, _ => none
  | mo2 + 1, x0, x1, y1 => (bif (decide (y1 < (x0.length : Int))) then ((idx x0 y1).bind fun v3 => ((idx x1 y1).bind fun v4 => ((laws_eqBridgeF n v3 v4).bind fun r5 => (bif (!r5) then (some (Sum.inr false)) else (laws_eqBridgeS_L2 n mo2 x0 x1 (IntKind.wrap .i64 (y1 + 1))))))) else (some (Sum.inl ())))
def laws_eqBridgeSF (n : Nat) (x0 : (List Bridge)) (x1 : (List Bridge)) : Option (Bool) :=
  (bif ((x0.length : Int) != (x1.length : Int)) then (some false) else ((laws_eqBridgeS_L2 n n x0 x1 0).bind fun o => match o with | .inl _ => (laws_eqBridgeS_J1 n) | .inr r => some r))
/-- loop.example/g00326/laws.eqBridgeS -/
theorem laws_eqBridgeS (n : Nat) (x0 : (List Bridge)) (x1 : (List Bridge)) (r : Bool) (H : laws_eqBridgeSF n x0 x1 = some r) : LCall Try.prog 73 [.val false [.sl false 11 (CV.frzEs (x0.map Bridge.row))], .val false [.sl false 11 (CV.frzEs (x1.map Bridge.row))]] [.val false [.lit (.bool r)]] [] := by
  refine LCall.of_body tOk Try.func73 rfl (c := (.seq (.region 0 (rg Try.f73 0) false) (.seq (.seq (.region 1 (rg Try.f73 1) false) (.cond (.tmp 10) (.seq (.region 2 (rg Try.f73 2) false) .ret) .skip)) (.seq (.seq (.region 3 (rg Try.f73 3) false) (.block 0 (.loop (.seq (.seq (.region 4 (rg Try.f73 4) false) (.cond (.tmp 14) .skip (.exit 0))) (.seq (.block 1 (.seq (.region 6 (rg Try.f73 6) true) (.cond (.tmp 26) (.seq (.region 7 (rg Try.f73 7) false) .ret) .skip))) (.region 5 (rg Try.f73 5) false)))))) (.seq (.region 8 (rg Try.f73 8) false) .ret))))) kr (Nat.le_of_ble_eq_true kr) 0 (rs := [.tmp 4]) rfl [] .nil [(false, [.lit (.bool r)])] [] [] fun cx => ?_
  show Tr _ _ _ ⟨27, 0, [sC 0 (cF 11 x0 Bridge.row), sC 1 (cF 11 x1 Bridge.row)], []⟩ _
  unfold laws_eqBridgeSF at H
  refine Tr.rs ?_
  refine LAt.runU tOk 1 kr ?_
  refine LAt.doneM 19 0 kr ?_
  refine Tr.seq ?_
  refine Tr.rs ?_
  refine LAt.runU tOk 1 kr ?_
  refine LAt.lenE tOk (t := 30) (ty := 3) (e := 61) (x := (.tmp 6)) (d := 7) (g := none) ⟨(.slot 6), [], 0, false, 11, (CV.frzEs (x0.map Bridge.row))⟩ (x0).length _ kr kr kr kr kr (frz_len _ _) rfl ?_
  refine LAt.runU tOk 1 kr ?_
  refine LAt.lenE tOk (t := 30) (ty := 3) (e := 61) (x := (.tmp 8)) (d := 9) (g := none) ⟨(.slot 8), [], 0, false, 11, (CV.frzEs (x1.map Bridge.row))⟩ (x1).length _ kr kr kr kr kr (frz_len _ _) rfl ?_
  refine LAt.runU tOk 1 kr ?_
  refine LAt.doneM 1043 0 kr ?_
  refine Tr.to ⟨27, 0, [sB 10 ((x0.length : Int) != (x1.length : Int)), sB 4 false, sC 0 (cF 11 x0 Bridge.row), sC 1 (cF 11 x1 Bridge.row)], []⟩ kr ?_
  cases h1 : ((x0.length : Int) != (x1.length : Int))
  · have H := bifF h1 H
    refine Tr.cond (b := false) kr (fun h => nomatch h) (fun _ => ?_)
    refine Tr.skip ?_
    show Tr _ _ _ _ _
    refine Tr.seq ?_
    refine Tr.rs ?_
    refine LAt.runU tOk 1 kr ?_
    refine LAt.doneM 51 0 kr ?_
    obtain ⟨o2, eo2, Ho2⟩ := bind_some H
    clear H
    refine Tr.mid (ι := Unit) (fun v => ⟨27, 0, [sB 4 false], []⟩) (fun v => laws_eqBridgeS_J1 n = some r) ?_ ?_
    · refine Tr.block ?_
      refine Tr.loop (ι := Nat × (Int)) (fun v => ⟨27, 0, [sI 5 v.2, sB 4 false, sC 0 (cF 11 x0 Bridge.row), sC 1 (cF 11 x1 Bridge.row)], []⟩) (fun v => laws_eqBridgeS_L2 n v.1 x0 x1 v.2 = some o2) (fun v => v.1) (n, 0) eo2 (St.sub_of [5, 4, 0, 1] [] kr) ?_
      rintro ⟨mo2, y1⟩ H
      have H : laws_eqBridgeS_L2 n mo2 x0 x1 y1 = some o2 := H
      obtain _ | mo2 := mo2
      · cases (show (none : Option _) = some o2 from H)
      · rw [laws_eqBridgeS_L2] at H
        refine Tr.seq ?_
        refine Tr.rs ?_
        refine LAt.runU tOk 2 kr ?_
        refine LAt.lenE tOk (t := 30) (ty := 3) (e := 61) (x := (.tmp 12)) (d := 13) (g := none) ⟨(.slot 12), [], 0, false, 11, (CV.frzEs (x0.map Bridge.row))⟩ (x0).length _ kr kr kr kr kr (frz_len _ _) rfl ?_
        refine LAt.runU tOk 1 kr ?_
        refine LAt.doneM 30771 0 kr ?_
        refine Tr.to ⟨27, 0, [sB 14 (decide (y1 < (x0.length : Int))), sI 13 (x0.length : Int), sC 12 (cF 11 x0 Bridge.row), sI 11 y1, sI 5 y1, sB 4 false, sC 0 (cF 11 x0 Bridge.row), sC 1 (cF 11 x1 Bridge.row)], []⟩ kr ?_
        cases h2 : (decide (y1 < (x0.length : Int)))
        · have H := bifF h2 H
          refine Tr.cond (b := false) kr (fun h => nomatch h) (fun _ => ?_)
          refine Tr.exit ?_
          refine And.intro (fun _ => ?_) (fun h => absurd rfl h)
          have H := Option.some.inj H
          subst H
          have H := Ho2
          dsimp only at H
          exact Exists.intro () (And.intro H (St.sub_of [4] [] kr))
        · have H := bifT h2 H
          refine Tr.cond (b := true) kr (fun _ => ?_) (fun h => nomatch h)
          refine Tr.skip ?_
          show Tr _ _ _ _ _
          refine Tr.seq ?_
          refine Tr.block ?_
          obtain ⟨v3, ev3, H⟩ := bind_some H
          obtain ⟨v4, ev4, H⟩ := bind_some H
          obtain ⟨r5, er5, H⟩ := bind_some H
          refine Tr.draws mixed 10 kr ⟨27, 0, [sB 26 (!r5), sB 25 r5, sV 24 (CV.frzRow (Bridge.row v4)), (23, .fad ((CV.frzRow (Bridge.row v4)))), sI 22 y1, sC 21 (cF 11 x1 Bridge.row), sV 20 (CV.frzRow (Bridge.row v3)), (19, .fad ((CV.frzRow (Bridge.row v3)))), sI 18 y1, sC 17 (cF 11 x0 Bridge.row), sB 14 true, sI 13 (x0.length : Int), sC 12 (cF 11 x0 Bridge.row), sI 11 y1, sI 5 y1, sB 4 false, sC 0 (cF 11 x0 Bridge.row), sC 1 (cF 11 x1 Bridge.row)], []⟩ (fun cx => ?_) ?_
          · refine AT.runU tOk [(0, []), (1, [])] 8 [] [1, 0] rfl kr (fun cx => ?_)
            refine AT.indexF tOk 2 (t := 30) (ty := 0) (x := (.tmp 17)) (y := (.tmp 18)) (d := 19) (g := none) ⟨(.slot 17), [], 0, false, 11, (CV.frzEs (x0.map Bridge.row))⟩ y1 (CV.frzRow (Bridge.row v3)) _ kr kr kr kr kr kr rfl (idx_isF ev3) rfl (fun cx => ?_)
            refine AT.runU tOk [(3, []), (4, []), (5, [])] 4 [] [5, 4, 3, 2, 1, 0] rfl kr (fun cx => ?_)
            refine AT.indexF tOk 6 (t := 30) (ty := 0) (x := (.tmp 21)) (y := (.tmp 22)) (d := 23) (g := none) ⟨(.slot 21), [], 0, false, 11, (CV.frzEs (x1.map Bridge.row))⟩ y1 (CV.frzRow (Bridge.row v4)) _ kr kr kr kr kr kr rfl (idx_isF ev4) rfl (fun cx => ?_)
            refine AT.runU tOk [(7, [])] 2 [] [7, 6, 5, 4, 3, 2, 1, 0] rfl kr (fun cx => ?_)
            refine AT.big1 tOk 8 kr kr ?_
            refine LAt.callU tOk [.rd, .rd] (f := 39) (av := #[.tmp 20, .tmp 24]) (ats := #[61, 61]) (d := (some 25)) (ty := 4) (g := none) kr kr kr [] (laws_eqBridge n v3 v4 r5 er5) kr (.inl rfl) ?_
            refine LAt.fin kr (And.intro (And.intro kr kr) ?_)
            refine AT.runU tOk [(9, [])] 0 [] [9, 8, 7, 6, 5, 4, 3, 2, 1, 0] rfl kr (fun cx => ?_)
            exact AT.done [26, 25, 24, 23, 22, 21, 20, 19, 18, 17, 14, 13, 12, 11, 5, 4, 0, 1] [] _ kr kr rfl
          · refine Tr.to ⟨27, 0, [sB 26 (!r5), sB 25 r5, sV 24 (CV.frzRow (Bridge.row v4)), (23, .fad ((CV.frzRow (Bridge.row v4)))), sI 22 y1, sC 21 (cF 11 x1 Bridge.row), sV 20 (CV.frzRow (Bridge.row v3)), (19, .fad ((CV.frzRow (Bridge.row v3)))), sI 18 y1, sC 17 (cF 11 x0 Bridge.row), sB 14 true, sI 13 (x0.length : Int), sC 12 (cF 11 x0 Bridge.row), sI 11 y1, sI 5 y1, sB 4 false, sC 0 (cF 11 x0 Bridge.row), sC 1 (cF 11 x1 Bridge.row)], []⟩ kr ?_
            cases h3 : (!r5)
            · have H := bifF h3 H
              refine Tr.cond (b := false) kr (fun h => nomatch h) (fun _ => ?_)
              refine Tr.skip ?_
              show Tr _ _ _ _ _
              refine Tr.at ?_
              refine LAt.runU tOk 3 kr ?_
              refine LAt.doneM 134215731 0 kr ?_
              exact Exists.intro (mo2, (IntKind.wrap .i64 (y1 + 1))) (And.intro H (And.intro (Nat.lt_succ_self mo2) (St.sub_of [5, 4, 0, 1] [] kr)))
            · have H := bifT h3 H
              refine Tr.cond (b := true) kr (fun _ => ?_) (fun h => nomatch h)
              refine Tr.rs ?_
              refine LAt.runU tOk 1 kr ?_
              refine LAt.doneM 134117427 0 kr ?_
              refine Tr.ret ?_
              have H := Option.some.inj H
              subst H
              have H := Ho2
              dsimp only at H
              have H := Option.some.inj H
              subst H
              exact Fin.of _ [(false, [cB false])] kr rfl rfl
    · rintro _ H
      have H : (laws_eqBridgeS_J1 n) = some r := H
      unfold laws_eqBridgeS_J1 at H
      show Tr _ _ _ _ _
      refine Tr.rs ?_
      refine LAt.runU tOk 1 kr ?_
      refine LAt.doneM 16 0 kr ?_
      refine Tr.ret ?_
      have H := Option.some.inj H
      subst H
      exact Fin.of _ [(false, [cB true])] kr rfl rfl
  · have H := bifT h1 H
    refine Tr.cond (b := true) kr (fun _ => ?_) (fun h => nomatch h)
    refine Tr.rs ?_
    refine LAt.runU tOk 1 kr ?_
    refine LAt.doneM 19 0 kr ?_
    refine Tr.ret ?_
    have H := Option.some.inj H
    subst H
    exact Fin.of _ [(false, [cB false])] kr rfl rfl

def laws_eqLinkF (n : Nat) (x0 : Link) (x1 : Link) : Option (Bool) :=
  (bif (x0.A != x1.A) then (some false) else (bif (x0.P != x1.P) then (some false) else (bif (x0.B != x1.B) then (some false) else (bif (x0.Q != x1.Q) then (some false) else (some true)))))
/-- loop.example/g00326/laws.eqLink -/
theorem laws_eqLink (n : Nat) (x0 : Link) (x1 : Link) (r : Bool) (H : laws_eqLinkF n x0 x1 = some r) : LCall Try.prog 134 [.val true (CV.frzRow (Link.row x0)), .val true (CV.frzRow (Link.row x1))] [.val false [.lit (.bool r)]] [] := by
  refine LCall.of_body tOk Try.func134 rfl (c := (.seq (.region 0 (rg Try.f134 0) false) (.seq (.seq (.region 1 (rg Try.f134 1) false) (.cond (.tmp 9) (.seq (.region 2 (rg Try.f134 2) false) .ret) .skip)) (.seq (.seq (.region 3 (rg Try.f134 3) false) (.cond (.tmp 14) (.seq (.region 4 (rg Try.f134 4) false) .ret) .skip)) (.seq (.seq (.region 5 (rg Try.f134 5) false) (.cond (.tmp 19) (.seq (.region 6 (rg Try.f134 6) false) .ret) .skip)) (.seq (.seq (.region 7 (rg Try.f134 7) false) (.cond (.tmp 24) (.seq (.region 8 (rg Try.f134 8) false) .ret) .skip)) (.seq (.region 9 (rg Try.f134 9) false) .ret))))))) kr (Nat.le_of_ble_eq_true kr) 0 (rs := [.tmp 4]) rfl [] .nil [(false, [.lit (.bool r)])] [] [] fun cx => ?_
  show Tr _ _ _ ⟨25, 0, [sV 0 (Link.row x0), sV 1 (Link.row x1)], []⟩ _
  unfold laws_eqLinkF at H
  refine Tr.rs ?_
  refine LAt.runU tOk 3 kr ?_
  refine LAt.doneM 28 12 kr ?_
  refine Tr.seq ?_
  refine Tr.rs ?_
  refine LAt.runU tOk 5 kr ?_
  refine LAt.doneM 540 12 kr ?_
  refine Tr.to ⟨25, 0, [sB 9 (x0.A != x1.A), sB 4 false, sA 3 3 4 0, sA 2 2 4 0], [(3, (Link.row x1)), (2, (Link.row x0))]⟩ kr ?_
  cases h1 : (x0.A != x1.A)
  · have H := bifF h1 H
    refine Tr.cond (b := false) kr (fun h => nomatch h) (fun _ => ?_)
    refine Tr.skip ?_
    show Tr _ _ _ _ _
    refine Tr.seq ?_
    refine Tr.rs ?_
    refine LAt.runU tOk 5 kr ?_
    refine LAt.doneM 16412 12 kr ?_
    refine Tr.to ⟨25, 0, [sB 14 (x0.P != x1.P), sB 4 false, sA 3 3 4 0, sA 2 2 4 0], [(3, (Link.row x1)), (2, (Link.row x0))]⟩ kr ?_
    cases h2 : (x0.P != x1.P)
    · have H := bifF h2 H
      refine Tr.cond (b := false) kr (fun h => nomatch h) (fun _ => ?_)
      refine Tr.skip ?_
      show Tr _ _ _ _ _
      refine Tr.seq ?_
      refine Tr.rs ?_
      refine LAt.runU tOk 5 kr ?_
      refine LAt.doneM 524316 12 kr ?_
      refine Tr.to ⟨25, 0, [sB 19 (x0.B != x1.B), sB 4 false, sA 3 3 4 0, sA 2 2 4 0], [(3, (Link.row x1)), (2, (Link.row x0))]⟩ kr ?_
      cases h3 : (x0.B != x1.B)
      · have H := bifF h3 H
        refine Tr.cond (b := false) kr (fun h => nomatch h) (fun _ => ?_)
        refine Tr.skip ?_
        show Tr _ _ _ _ _
        refine Tr.seq ?_
        refine Tr.rs ?_
        refine LAt.runU tOk 5 kr ?_
        refine LAt.doneM 16777232 0 kr ?_
        refine Tr.to ⟨25, 0, [sB 24 (x0.Q != x1.Q), sB 4 false], []⟩ kr ?_
        cases h4 : (x0.Q != x1.Q)
        · have H := bifF h4 H
          refine Tr.cond (b := false) kr (fun h => nomatch h) (fun _ => ?_)
          refine Tr.skip ?_
          show Tr _ _ _ _ _
          refine Tr.rs ?_
          refine LAt.runU tOk 1 kr ?_
          refine LAt.doneM 16 0 kr ?_
          refine Tr.ret ?_
          have H := Option.some.inj H
          subst H
          exact Fin.of _ [(false, [cB true])] kr rfl rfl
        · have H := bifT h4 H
          refine Tr.cond (b := true) kr (fun _ => ?_) (fun h => nomatch h)
          refine Tr.rs ?_
          refine LAt.runU tOk 1 kr ?_
          refine LAt.doneM 16 0 kr ?_
          refine Tr.ret ?_
          have H := Option.some.inj H
          subst H
          exact Fin.of _ [(false, [cB false])] kr rfl rfl
      · have H := bifT h3 H
        refine Tr.cond (b := true) kr (fun _ => ?_) (fun h => nomatch h)
        refine Tr.rs ?_
        refine LAt.runU tOk 1 kr ?_
        refine LAt.doneM 28 12 kr ?_
        refine Tr.ret ?_
        have H := Option.some.inj H
        subst H
        exact Fin.of _ [(false, [cB false])] kr rfl rfl
    · have H := bifT h2 H
      refine Tr.cond (b := true) kr (fun _ => ?_) (fun h => nomatch h)
      refine Tr.rs ?_
      refine LAt.runU tOk 1 kr ?_
      refine LAt.doneM 28 12 kr ?_
      refine Tr.ret ?_
      have H := Option.some.inj H
      subst H
      exact Fin.of _ [(false, [cB false])] kr rfl rfl
  · have H := bifT h1 H
    refine Tr.cond (b := true) kr (fun _ => ?_) (fun h => nomatch h)
    refine Tr.rs ?_
    refine LAt.runU tOk 1 kr ?_
    refine LAt.doneM 28 12 kr ?_
    refine Tr.ret ?_
    have H := Option.some.inj H
    subst H
    exact Fin.of _ [(false, [cB false])] kr rfl rfl

def laws_eqLinkS_J1 (n : Nat) : Option (Bool) :=
  (some true)
def laws_eqLinkS_L2 (n : Nat) : Nat → (List Link) → (List Link) → Int → Option ((Unit) ⊕ (Bool))
  | 0, _, _, _ => none
  | mo2 + 1, x0, x1, y1 => (bif (decide (y1 < (x0.length : Int))) then ((idx x0 y1).bind fun v3 => ((idx x1 y1).bind fun v4 => ((laws_eqLinkF n v3 v4).bind fun r5 => (bif (!r5) then (some (Sum.inr false)) else (laws_eqLinkS_L2 n mo2 x0 x1 (IntKind.wrap .i64 (y1 + 1))))))) else (some (Sum.inl ())))
def laws_eqLinkSF (n : Nat) (x0 : (List Link)) (x1 : (List Link)) : Option (Bool) :=
  (bif ((x0.length : Int) != (x1.length : Int)) then (some false) else ((laws_eqLinkS_L2 n n x0 x1 0).bind fun o => match o with | .inl _ => (laws_eqLinkS_J1 n) | .inr r => some r))
/-- loop.example/g00326/laws.eqLinkS -/
theorem laws_eqLinkS (n : Nat) (x0 : (List Link)) (x1 : (List Link)) (r : Bool) (H : laws_eqLinkSF n x0 x1 = some r) : LCall Try.prog 74 [.val false [.sl false 4 (CV.frzEs (x0.map Link.row))], .val false [.sl false 4 (CV.frzEs (x1.map Link.row))]] [.val false [.lit (.bool r)]] [] := by
  refine LCall.of_body tOk Try.func74 rfl (c := (.seq (.region 0 (rg Try.f74 0) false) (.seq (.seq (.region 1 (rg Try.f74 1) false) (.cond (.tmp 10) (.seq (.region 2 (rg Try.f74 2) false) .ret) .skip)) (.seq (.seq (.region 3 (rg Try.f74 3) false) (.block 0 (.loop (.seq (.seq (.region 4 (rg Try.f74 4) false) (.cond (.tmp 14) .skip (.exit 0))) (.seq (.block 1 (.seq (.region 6 (rg Try.f74 6) true) (.cond (.tmp 26) (.seq (.region 7 (rg Try.f74 7) false) .ret) .skip))) (.region 5 (rg Try.f74 5) false)))))) (.seq (.region 8 (rg Try.f74 8) false) .ret))))) kr (Nat.le_of_ble_eq_true kr) 0 (rs := [.tmp 4]) rfl [] .nil [(false, [.lit (.bool r)])] [] [] fun cx => ?_
  show Tr _ _ _ ⟨27, 0, [sC 0 (cF 4 x0 Link.row), sC 1 (cF 4 x1 Link.row)], []⟩ _
  unfold laws_eqLinkSF at H
  refine Tr.rs ?_
  refine LAt.runU tOk 1 kr ?_
  refine LAt.doneM 19 0 kr ?_
  refine Tr.seq ?_
  refine Tr.rs ?_
  refine LAt.runU tOk 1 kr ?_
  refine LAt.lenE tOk (t := 31) (ty := 3) (e := 96) (x := (.tmp 6)) (d := 7) (g := none) ⟨(.slot 6), [], 0, false, 4, (CV.frzEs (x0.map Link.row))⟩ (x0).length _ kr kr kr kr kr (frz_len _ _) rfl ?_
  refine LAt.runU tOk 1 kr ?_
  refine LAt.lenE tOk (t := 31) (ty := 3) (e := 96) (x := (.tmp 8)) (d := 9) (g := none) ⟨(.slot 8), [], 0, false, 4, (CV.frzEs (x1.map Link.row))⟩ (x1).length _ kr kr kr kr kr (frz_len _ _) rfl ?_
  refine LAt.runU tOk 1 kr ?_
  refine LAt.doneM 1043 0 kr ?_
  refine Tr.to ⟨27, 0, [sB 10 ((x0.length : Int) != (x1.length : Int)), sB 4 false, sC 0 (cF 4 x0 Link.row), sC 1 (cF 4 x1 Link.row)], []⟩ kr ?_
  cases h1 : ((x0.length : Int) != (x1.length : Int))
  · have H := bifF h1 H
    refine Tr.cond (b := false) kr (fun h => nomatch h) (fun _ => ?_)
    refine Tr.skip ?_
    show Tr _ _ _ _ _
    refine Tr.seq ?_
    refine Tr.rs ?_
    refine LAt.runU tOk 1 kr ?_
    refine LAt.doneM 51 0 kr ?_
    obtain ⟨o2, eo2, Ho2⟩ := bind_some H
    clear H
    refine Tr.mid (ι := Unit) (fun v => ⟨27, 0, [sB 4 false], []⟩) (fun v => laws_eqLinkS_J1 n = some r) ?_ ?_
    · refine Tr.block ?_
      refine Tr.loop (ι := Nat × (Int)) (fun v => ⟨27, 0, [sI 5 v.2, sB 4 false, sC 0 (cF 4 x0 Link.row), sC 1 (cF 4 x1 Link.row)], []⟩) (fun v => laws_eqLinkS_L2 n v.1 x0 x1 v.2 = some o2) (fun v => v.1) (n, 0) eo2 (St.sub_of [5, 4, 0, 1] [] kr) ?_
      rintro ⟨mo2, y1⟩ H
      have H : laws_eqLinkS_L2 n mo2 x0 x1 y1 = some o2 := H
      obtain _ | mo2 := mo2
      · cases (show (none : Option _) = some o2 from H)
      · rw [laws_eqLinkS_L2] at H
        refine Tr.seq ?_
        refine Tr.rs ?_
        refine LAt.runU tOk 2 kr ?_
        refine LAt.lenE tOk (t := 31) (ty := 3) (e := 96) (x := (.tmp 12)) (d := 13) (g := none) ⟨(.slot 12), [], 0, false, 4, (CV.frzEs (x0.map Link.row))⟩ (x0).length _ kr kr kr kr kr (frz_len _ _) rfl ?_
        refine LAt.runU tOk 1 kr ?_
        refine LAt.doneM 30771 0 kr ?_
        refine Tr.to ⟨27, 0, [sB 14 (decide (y1 < (x0.length : Int))), sI 13 (x0.length : Int), sC 12 (cF 4 x0 Link.row), sI 11 y1, sI 5 y1, sB 4 false, sC 0 (cF 4 x0 Link.row), sC 1 (cF 4 x1 Link.row)], []⟩ kr ?_
        cases h2 : (decide (y1 < (x0.length : Int)))
        · have H := bifF h2 H
          refine Tr.cond (b := false) kr (fun h => nomatch h) (fun _ => ?_)
          refine Tr.exit ?_
          refine And.intro (fun _ => ?_) (fun h => absurd rfl h)
          have H := Option.some.inj H
          subst H
          have H := Ho2
          dsimp only at H
          exact Exists.intro () (And.intro H (St.sub_of [4] [] kr))
        · have H := bifT h2 H
          refine Tr.cond (b := true) kr (fun _ => ?_) (fun h => nomatch h)
          refine Tr.skip ?_
          show Tr _ _ _ _ _
          refine Tr.seq ?_
          refine Tr.block ?_
          obtain ⟨v3, ev3, H⟩ := bind_some H
          obtain ⟨v4, ev4, H⟩ := bind_some H
          obtain ⟨r5, er5, H⟩ := bind_some H
          refine Tr.draws mixed 10 kr ⟨27, 0, [sB 26 (!r5), sB 25 r5, sV 24 (Link.row v4), (23, .fad ((Link.row v4))), sI 22 y1, sC 21 (cF 4 x1 Link.row), sV 20 (Link.row v3), (19, .fad ((Link.row v3))), sI 18 y1, sC 17 (cF 4 x0 Link.row), sB 14 true, sI 13 (x0.length : Int), sC 12 (cF 4 x0 Link.row), sI 11 y1, sI 5 y1, sB 4 false, sC 0 (cF 4 x0 Link.row), sC 1 (cF 4 x1 Link.row)], []⟩ (fun cx => ?_) ?_
          · refine AT.runU tOk [(0, []), (1, [])] 8 [] [1, 0] rfl kr (fun cx => ?_)
            refine AT.indexF tOk 2 (t := 31) (ty := 0) (x := (.tmp 17)) (y := (.tmp 18)) (d := 19) (g := none) ⟨(.slot 17), [], 0, false, 4, (CV.frzEs (x0.map Link.row))⟩ y1 (Link.row v3) _ kr kr kr kr kr kr rfl (idx_isF ev3) rfl (fun cx => ?_)
            refine AT.runU tOk [(3, []), (4, []), (5, [])] 4 [] [5, 4, 3, 2, 1, 0] rfl kr (fun cx => ?_)
            refine AT.indexF tOk 6 (t := 31) (ty := 0) (x := (.tmp 21)) (y := (.tmp 22)) (d := 23) (g := none) ⟨(.slot 21), [], 0, false, 4, (CV.frzEs (x1.map Link.row))⟩ y1 (Link.row v4) _ kr kr kr kr kr kr rfl (idx_isF ev4) rfl (fun cx => ?_)
            refine AT.runU tOk [(7, [])] 2 [] [7, 6, 5, 4, 3, 2, 1, 0] rfl kr (fun cx => ?_)
            refine AT.big1 tOk 8 kr kr ?_
            refine LAt.callU tOk [.rd, .rd] (f := 134) (av := #[.tmp 20, .tmp 24]) (ats := #[96, 96]) (d := (some 25)) (ty := 4) (g := none) kr kr kr [] (laws_eqLink n v3 v4 r5 er5) kr (.inl rfl) ?_
            refine LAt.fin kr (And.intro (And.intro kr kr) ?_)
            refine AT.runU tOk [(9, [])] 0 [] [9, 8, 7, 6, 5, 4, 3, 2, 1, 0] rfl kr (fun cx => ?_)
            exact AT.done [26, 25, 24, 23, 22, 21, 20, 19, 18, 17, 14, 13, 12, 11, 5, 4, 0, 1] [] _ kr kr rfl
          · refine Tr.to ⟨27, 0, [sB 26 (!r5), sB 25 r5, sV 24 (Link.row v4), (23, .fad ((Link.row v4))), sI 22 y1, sC 21 (cF 4 x1 Link.row), sV 20 (Link.row v3), (19, .fad ((Link.row v3))), sI 18 y1, sC 17 (cF 4 x0 Link.row), sB 14 true, sI 13 (x0.length : Int), sC 12 (cF 4 x0 Link.row), sI 11 y1, sI 5 y1, sB 4 false, sC 0 (cF 4 x0 Link.row), sC 1 (cF 4 x1 Link.row)], []⟩ kr ?_
            cases h3 : (!r5)
            · have H := bifF h3 H
              refine Tr.cond (b := false) kr (fun h => nomatch h) (fun _ => ?_)
              refine Tr.skip ?_
              show Tr _ _ _ _ _
              refine Tr.at ?_
              refine LAt.runU tOk 3 kr ?_
              refine LAt.doneM 134215731 0 kr ?_
              exact Exists.intro (mo2, (IntKind.wrap .i64 (y1 + 1))) (And.intro H (And.intro (Nat.lt_succ_self mo2) (St.sub_of [5, 4, 0, 1] [] kr)))
            · have H := bifT h3 H
              refine Tr.cond (b := true) kr (fun _ => ?_) (fun h => nomatch h)
              refine Tr.rs ?_
              refine LAt.runU tOk 1 kr ?_
              refine LAt.doneM 134117427 0 kr ?_
              refine Tr.ret ?_
              have H := Option.some.inj H
              subst H
              have H := Ho2
              dsimp only at H
              have H := Option.some.inj H
              subst H
              exact Fin.of _ [(false, [cB false])] kr rfl rfl
    · rintro _ H
      have H : (laws_eqLinkS_J1 n) = some r := H
      unfold laws_eqLinkS_J1 at H
      show Tr _ _ _ _ _
      refine Tr.rs ?_
      refine LAt.runU tOk 1 kr ?_
      refine LAt.doneM 16 0 kr ?_
      refine Tr.ret ?_
      have H := Option.some.inj H
      subst H
      exact Fin.of _ [(false, [cB true])] kr rfl rfl
  · have H := bifT h1 H
    refine Tr.cond (b := true) kr (fun _ => ?_) (fun h => nomatch h)
    refine Tr.rs ?_
    refine LAt.runU tOk 1 kr ?_
    refine LAt.doneM 19 0 kr ?_
    refine Tr.ret ?_
    have H := Option.some.inj H
    subst H
    exact Fin.of _ [(false, [cB false])] kr rfl rfl

def laws_eqSayF (n : Nat) (x0 : Say) (x1 : Say) : Option (Bool) :=
  (bif (x0.Link != x1.Link) then (some false) else (bif (!(x0.Back == x1.Back)) then (some false) else ((laws_eqVecF n x0.V x1.V).bind fun r1 => (bif (!r1) then (some false) else (some true)))))
/-- loop.example/g00326/laws.eqSay -/
theorem laws_eqSay (n : Nat) (x0 : Say) (x1 : Say) (r : Bool) (H : laws_eqSayF n x0 x1 = some r) : LCall Try.prog 135 [.val true (CV.frzRow (Say.row x0)), .val true (CV.frzRow (Say.row x1))] [.val false [.lit (.bool r)]] [] := by
  refine LCall.of_body tOk Try.func135 rfl (c := (.seq (.region 0 (rg Try.f135 0) false) (.seq (.seq (.region 1 (rg Try.f135 1) false) (.cond (.tmp 9) (.seq (.region 2 (rg Try.f135 2) false) .ret) .skip)) (.seq (.seq (.region 3 (rg Try.f135 3) false) (.cond (.tmp 14) (.seq (.region 4 (rg Try.f135 4) false) .ret) .skip)) (.seq (.seq (.region 5 (rg Try.f135 5) false) (.cond (.tmp 20) (.seq (.region 6 (rg Try.f135 6) false) .ret) .skip)) (.seq (.region 7 (rg Try.f135 7) false) .ret)))))) kr (Nat.le_of_ble_eq_true kr) 0 (rs := [.tmp 4]) rfl [] .nil [(false, [.lit (.bool r)])] [] [] fun cx => ?_
  show Tr _ _ _ ⟨21, 0, [sV 0 (Say.row x0), sV 1 (Say.row x1)], []⟩ _
  unfold laws_eqSayF at H
  refine Tr.rs ?_
  refine LAt.runU tOk 3 kr ?_
  refine LAt.doneM 28 12 kr ?_
  refine Tr.seq ?_
  refine Tr.rs ?_
  refine LAt.runU tOk 5 kr ?_
  refine LAt.doneM 540 12 kr ?_
  refine Tr.to ⟨21, 0, [sB 9 (x0.Link != x1.Link), sB 4 false, sA 3 3 7 0, sA 2 2 7 0], [(3, (Say.row x1)), (2, (Say.row x0))]⟩ kr ?_
  cases h1 : (x0.Link != x1.Link)
  · have H := bifF h1 H
    refine Tr.cond (b := false) kr (fun h => nomatch h) (fun _ => ?_)
    refine Tr.skip ?_
    show Tr _ _ _ _ _
    refine Tr.seq ?_
    refine Tr.rs ?_
    refine LAt.runU tOk 5 kr ?_
    refine LAt.doneM 16412 12 kr ?_
    refine Tr.to ⟨21, 0, [sB 14 (!(x0.Back == x1.Back)), sB 4 false, sA 3 3 7 0, sA 2 2 7 0], [(3, (Say.row x1)), (2, (Say.row x0))]⟩ kr ?_
    cases h2 : (!(x0.Back == x1.Back))
    · have H := bifF h2 H
      refine Tr.cond (b := false) kr (fun h => nomatch h) (fun _ => ?_)
      refine Tr.skip ?_
      show Tr _ _ _ _ _
      refine Tr.seq ?_
      refine Tr.rs ?_
      refine LAt.runU tOk 4 kr ?_
      obtain ⟨r1, er1, H⟩ := bind_some H
      refine LAt.callU tOk [.rd, .rd] (f := 173) (av := #[.tmp 16, .tmp 18]) (ats := #[70, 70]) (d := (some 19)) (ty := 4) (g := none) kr kr kr [] (laws_eqVec n x0.V x1.V r1 er1) kr (.inl rfl) ?_
      refine LAt.runU tOk 1 kr ?_
      refine LAt.doneM 1048592 0 kr ?_
      refine Tr.to ⟨21, 0, [sB 20 (!r1), sB 4 false], []⟩ kr ?_
      cases h3 : (!r1)
      · have H := bifF h3 H
        refine Tr.cond (b := false) kr (fun h => nomatch h) (fun _ => ?_)
        refine Tr.skip ?_
        show Tr _ _ _ _ _
        refine Tr.rs ?_
        refine LAt.runU tOk 1 kr ?_
        refine LAt.doneM 16 0 kr ?_
        refine Tr.ret ?_
        have H := Option.some.inj H
        subst H
        exact Fin.of _ [(false, [cB true])] kr rfl rfl
      · have H := bifT h3 H
        refine Tr.cond (b := true) kr (fun _ => ?_) (fun h => nomatch h)
        refine Tr.rs ?_
        refine LAt.runU tOk 1 kr ?_
        refine LAt.doneM 16 0 kr ?_
        refine Tr.ret ?_
        have H := Option.some.inj H
        subst H
        exact Fin.of _ [(false, [cB false])] kr rfl rfl
    · have H := bifT h2 H
      refine Tr.cond (b := true) kr (fun _ => ?_) (fun h => nomatch h)
      refine Tr.rs ?_
      refine LAt.runU tOk 1 kr ?_
      refine LAt.doneM 28 12 kr ?_
      refine Tr.ret ?_
      have H := Option.some.inj H
      subst H
      exact Fin.of _ [(false, [cB false])] kr rfl rfl
  · have H := bifT h1 H
    refine Tr.cond (b := true) kr (fun _ => ?_) (fun h => nomatch h)
    refine Tr.rs ?_
    refine LAt.runU tOk 1 kr ?_
    refine LAt.doneM 28 12 kr ?_
    refine Tr.ret ?_
    have H := Option.some.inj H
    subst H
    exact Fin.of _ [(false, [cB false])] kr rfl rfl

def laws_eqSayS_J1 (n : Nat) : Option (Bool) :=
  (some true)
def laws_eqSayS_L2 (n : Nat) : Nat → (List Say) → (List Say) → Int → Option ((Unit) ⊕ (Bool))
  | 0, _, _, _ => none
  | mo2 + 1, x0, x1, y1 => (bif (decide (y1 < (x0.length : Int))) then ((idx x0 y1).bind fun v3 => ((idx x1 y1).bind fun v4 => ((laws_eqSayF n v3 v4).bind fun r5 => (bif (!r5) then (some (Sum.inr false)) else (laws_eqSayS_L2 n mo2 x0 x1 (IntKind.wrap .i64 (y1 + 1))))))) else (some (Sum.inl ())))
def laws_eqSaySF (n : Nat) (x0 : (List Say)) (x1 : (List Say)) : Option (Bool) :=
  (bif ((x0.length : Int) != (x1.length : Int)) then (some false) else ((laws_eqSayS_L2 n n x0 x1 0).bind fun o => match o with | .inl _ => (laws_eqSayS_J1 n) | .inr r => some r))
/-- loop.example/g00326/laws.eqSayS -/
theorem laws_eqSayS (n : Nat) (x0 : (List Say)) (x1 : (List Say)) (r : Bool) (H : laws_eqSaySF n x0 x1 = some r) : LCall Try.prog 75 [.val false [.sl false 7 (CV.frzEs (x0.map Say.row))], .val false [.sl false 7 (CV.frzEs (x1.map Say.row))]] [.val false [.lit (.bool r)]] [] := by
  refine LCall.of_body tOk Try.func75 rfl (c := (.seq (.region 0 (rg Try.f75 0) false) (.seq (.seq (.region 1 (rg Try.f75 1) false) (.cond (.tmp 10) (.seq (.region 2 (rg Try.f75 2) false) .ret) .skip)) (.seq (.seq (.region 3 (rg Try.f75 3) false) (.block 0 (.loop (.seq (.seq (.region 4 (rg Try.f75 4) false) (.cond (.tmp 14) .skip (.exit 0))) (.seq (.block 1 (.seq (.region 6 (rg Try.f75 6) true) (.cond (.tmp 26) (.seq (.region 7 (rg Try.f75 7) false) .ret) .skip))) (.region 5 (rg Try.f75 5) false)))))) (.seq (.region 8 (rg Try.f75 8) false) .ret))))) kr (Nat.le_of_ble_eq_true kr) 0 (rs := [.tmp 4]) rfl [] .nil [(false, [.lit (.bool r)])] [] [] fun cx => ?_
  show Tr _ _ _ ⟨27, 0, [sC 0 (cF 7 x0 Say.row), sC 1 (cF 7 x1 Say.row)], []⟩ _
  unfold laws_eqSaySF at H
  refine Tr.rs ?_
  refine LAt.runU tOk 1 kr ?_
  refine LAt.doneM 19 0 kr ?_
  refine Tr.seq ?_
  refine Tr.rs ?_
  refine LAt.runU tOk 1 kr ?_
  refine LAt.lenE tOk (t := 32) (ty := 3) (e := 116) (x := (.tmp 6)) (d := 7) (g := none) ⟨(.slot 6), [], 0, false, 7, (CV.frzEs (x0.map Say.row))⟩ (x0).length _ kr kr kr kr kr (frz_len _ _) rfl ?_
  refine LAt.runU tOk 1 kr ?_
  refine LAt.lenE tOk (t := 32) (ty := 3) (e := 116) (x := (.tmp 8)) (d := 9) (g := none) ⟨(.slot 8), [], 0, false, 7, (CV.frzEs (x1.map Say.row))⟩ (x1).length _ kr kr kr kr kr (frz_len _ _) rfl ?_
  refine LAt.runU tOk 1 kr ?_
  refine LAt.doneM 1043 0 kr ?_
  refine Tr.to ⟨27, 0, [sB 10 ((x0.length : Int) != (x1.length : Int)), sB 4 false, sC 0 (cF 7 x0 Say.row), sC 1 (cF 7 x1 Say.row)], []⟩ kr ?_
  cases h1 : ((x0.length : Int) != (x1.length : Int))
  · have H := bifF h1 H
    refine Tr.cond (b := false) kr (fun h => nomatch h) (fun _ => ?_)
    refine Tr.skip ?_
    show Tr _ _ _ _ _
    refine Tr.seq ?_
    refine Tr.rs ?_
    refine LAt.runU tOk 1 kr ?_
    refine LAt.doneM 51 0 kr ?_
    obtain ⟨o2, eo2, Ho2⟩ := bind_some H
    clear H
    refine Tr.mid (ι := Unit) (fun v => ⟨27, 0, [sB 4 false], []⟩) (fun v => laws_eqSayS_J1 n = some r) ?_ ?_
    · refine Tr.block ?_
      refine Tr.loop (ι := Nat × (Int)) (fun v => ⟨27, 0, [sI 5 v.2, sB 4 false, sC 0 (cF 7 x0 Say.row), sC 1 (cF 7 x1 Say.row)], []⟩) (fun v => laws_eqSayS_L2 n v.1 x0 x1 v.2 = some o2) (fun v => v.1) (n, 0) eo2 (St.sub_of [5, 4, 0, 1] [] kr) ?_
      rintro ⟨mo2, y1⟩ H
      have H : laws_eqSayS_L2 n mo2 x0 x1 y1 = some o2 := H
      obtain _ | mo2 := mo2
      · cases (show (none : Option _) = some o2 from H)
      · rw [laws_eqSayS_L2] at H
        refine Tr.seq ?_
        refine Tr.rs ?_
        refine LAt.runU tOk 2 kr ?_
        refine LAt.lenE tOk (t := 32) (ty := 3) (e := 116) (x := (.tmp 12)) (d := 13) (g := none) ⟨(.slot 12), [], 0, false, 7, (CV.frzEs (x0.map Say.row))⟩ (x0).length _ kr kr kr kr kr (frz_len _ _) rfl ?_
        refine LAt.runU tOk 1 kr ?_
        refine LAt.doneM 30771 0 kr ?_
        refine Tr.to ⟨27, 0, [sB 14 (decide (y1 < (x0.length : Int))), sI 13 (x0.length : Int), sC 12 (cF 7 x0 Say.row), sI 11 y1, sI 5 y1, sB 4 false, sC 0 (cF 7 x0 Say.row), sC 1 (cF 7 x1 Say.row)], []⟩ kr ?_
        cases h2 : (decide (y1 < (x0.length : Int)))
        · have H := bifF h2 H
          refine Tr.cond (b := false) kr (fun h => nomatch h) (fun _ => ?_)
          refine Tr.exit ?_
          refine And.intro (fun _ => ?_) (fun h => absurd rfl h)
          have H := Option.some.inj H
          subst H
          have H := Ho2
          dsimp only at H
          exact Exists.intro () (And.intro H (St.sub_of [4] [] kr))
        · have H := bifT h2 H
          refine Tr.cond (b := true) kr (fun _ => ?_) (fun h => nomatch h)
          refine Tr.skip ?_
          show Tr _ _ _ _ _
          refine Tr.seq ?_
          refine Tr.block ?_
          obtain ⟨v3, ev3, H⟩ := bind_some H
          obtain ⟨v4, ev4, H⟩ := bind_some H
          obtain ⟨r5, er5, H⟩ := bind_some H
          refine Tr.draws mixed 10 kr ⟨27, 0, [sB 26 (!r5), sB 25 r5, sV 24 (Say.row v4), (23, .fad ((Say.row v4))), sI 22 y1, sC 21 (cF 7 x1 Say.row), sV 20 (Say.row v3), (19, .fad ((Say.row v3))), sI 18 y1, sC 17 (cF 7 x0 Say.row), sB 14 true, sI 13 (x0.length : Int), sC 12 (cF 7 x0 Say.row), sI 11 y1, sI 5 y1, sB 4 false, sC 0 (cF 7 x0 Say.row), sC 1 (cF 7 x1 Say.row)], []⟩ (fun cx => ?_) ?_
          · refine AT.runU tOk [(0, []), (1, [])] 8 [] [1, 0] rfl kr (fun cx => ?_)
            refine AT.indexF tOk 2 (t := 32) (ty := 0) (x := (.tmp 17)) (y := (.tmp 18)) (d := 19) (g := none) ⟨(.slot 17), [], 0, false, 7, (CV.frzEs (x0.map Say.row))⟩ y1 (Say.row v3) _ kr kr kr kr kr kr rfl (idx_isF ev3) rfl (fun cx => ?_)
            refine AT.runU tOk [(3, []), (4, []), (5, [])] 4 [] [5, 4, 3, 2, 1, 0] rfl kr (fun cx => ?_)
            refine AT.indexF tOk 6 (t := 32) (ty := 0) (x := (.tmp 21)) (y := (.tmp 22)) (d := 23) (g := none) ⟨(.slot 21), [], 0, false, 7, (CV.frzEs (x1.map Say.row))⟩ y1 (Say.row v4) _ kr kr kr kr kr kr rfl (idx_isF ev4) rfl (fun cx => ?_)
            refine AT.runU tOk [(7, [])] 2 [] [7, 6, 5, 4, 3, 2, 1, 0] rfl kr (fun cx => ?_)
            refine AT.big1 tOk 8 kr kr ?_
            refine LAt.callU tOk [.rd, .rd] (f := 135) (av := #[.tmp 20, .tmp 24]) (ats := #[116, 116]) (d := (some 25)) (ty := 4) (g := none) kr kr kr [] (laws_eqSay n v3 v4 r5 er5) kr (.inl rfl) ?_
            refine LAt.fin kr (And.intro (And.intro kr kr) ?_)
            refine AT.runU tOk [(9, [])] 0 [] [9, 8, 7, 6, 5, 4, 3, 2, 1, 0] rfl kr (fun cx => ?_)
            exact AT.done [26, 25, 24, 23, 22, 21, 20, 19, 18, 17, 14, 13, 12, 11, 5, 4, 0, 1] [] _ kr kr rfl
          · refine Tr.to ⟨27, 0, [sB 26 (!r5), sB 25 r5, sV 24 (Say.row v4), (23, .fad ((Say.row v4))), sI 22 y1, sC 21 (cF 7 x1 Say.row), sV 20 (Say.row v3), (19, .fad ((Say.row v3))), sI 18 y1, sC 17 (cF 7 x0 Say.row), sB 14 true, sI 13 (x0.length : Int), sC 12 (cF 7 x0 Say.row), sI 11 y1, sI 5 y1, sB 4 false, sC 0 (cF 7 x0 Say.row), sC 1 (cF 7 x1 Say.row)], []⟩ kr ?_
            cases h3 : (!r5)
            · have H := bifF h3 H
              refine Tr.cond (b := false) kr (fun h => nomatch h) (fun _ => ?_)
              refine Tr.skip ?_
              show Tr _ _ _ _ _
              refine Tr.at ?_
              refine LAt.runU tOk 3 kr ?_
              refine LAt.doneM 134215731 0 kr ?_
              exact Exists.intro (mo2, (IntKind.wrap .i64 (y1 + 1))) (And.intro H (And.intro (Nat.lt_succ_self mo2) (St.sub_of [5, 4, 0, 1] [] kr)))
            · have H := bifT h3 H
              refine Tr.cond (b := true) kr (fun _ => ?_) (fun h => nomatch h)
              refine Tr.rs ?_
              refine LAt.runU tOk 1 kr ?_
              refine LAt.doneM 134117427 0 kr ?_
              refine Tr.ret ?_
              have H := Option.some.inj H
              subst H
              have H := Ho2
              dsimp only at H
              have H := Option.some.inj H
              subst H
              exact Fin.of _ [(false, [cB false])] kr rfl rfl
    · rintro _ H
      have H : (laws_eqSayS_J1 n) = some r := H
      unfold laws_eqSayS_J1 at H
      show Tr _ _ _ _ _
      refine Tr.rs ?_
      refine LAt.runU tOk 1 kr ?_
      refine LAt.doneM 16 0 kr ?_
      refine Tr.ret ?_
      have H := Option.some.inj H
      subst H
      exact Fin.of _ [(false, [cB true])] kr rfl rfl
  · have H := bifT h1 H
    refine Tr.cond (b := true) kr (fun _ => ?_) (fun h => nomatch h)
    refine Tr.rs ?_
    refine LAt.runU tOk 1 kr ?_
    refine LAt.doneM 19 0 kr ?_
    refine Tr.ret ?_
    have H := Option.some.inj H
    subst H
    exact Fin.of _ [(false, [cB false])] kr rfl rfl

def laws_eqNetF (n : Nat) (x0 : Net) (x1 : Net) : Option (Bool) :=
  ((laws_eqBridgeSF n x0.Bridges x1.Bridges).bind fun r1 => (bif (!r1) then (some false) else ((laws_eqLinkSF n x0.Links x1.Links).bind fun r2 => (bif (!r2) then (some false) else ((laws_eqSaySF n x0.Said x1.Said).bind fun r3 => (bif (!r3) then (some false) else (some true)))))))
/-- loop.example/g00326/laws.eqNet -/
theorem laws_eqNet (n : Nat) (x0 : Net) (x1 : Net) (r : Bool) (H : laws_eqNetF n x0 x1 = some r) : LCall Try.prog 20 [.val true (CV.frzRow (Net.row x0)), .val true (CV.frzRow (Net.row x1))] [.val false [.lit (.bool r)]] [] := by
  refine LCall.of_body tOk Try.func20 rfl (c := (.seq (.region 0 (rg Try.f20 0) false) (.seq (.seq (.region 1 (rg Try.f20 1) false) (.cond (.tmp 10) (.seq (.region 2 (rg Try.f20 2) false) .ret) .skip)) (.seq (.seq (.region 3 (rg Try.f20 3) false) (.cond (.tmp 16) (.seq (.region 4 (rg Try.f20 4) false) .ret) .skip)) (.seq (.seq (.region 5 (rg Try.f20 5) false) (.cond (.tmp 22) (.seq (.region 6 (rg Try.f20 6) false) .ret) .skip)) (.seq (.region 7 (rg Try.f20 7) false) .ret)))))) kr (Nat.le_of_ble_eq_true kr) 0 (rs := [.tmp 4]) rfl [] .nil [(false, [.lit (.bool r)])] [] [] fun cx => ?_
  show Tr _ _ _ ⟨23, 0, [sV 0 (CV.frzRow (Net.row x0)), sV 1 (CV.frzRow (Net.row x1))], []⟩ _
  unfold laws_eqNetF at H
  refine Tr.rs ?_
  refine LAt.runU tOk 3 kr ?_
  refine LAt.doneM 28 12 kr ?_
  refine Tr.seq ?_
  refine Tr.rs ?_
  refine LAt.runU tOk 4 kr ?_
  obtain ⟨r1, er1, H⟩ := bind_some H
  refine LAt.callU tOk [.rd, .rd] (f := 73) (av := #[.tmp 6, .tmp 8]) (ats := #[30, 30]) (d := (some 9)) (ty := 4) (g := none) kr kr kr [] (laws_eqBridgeS n x0.Bridges x1.Bridges r1 er1) kr (.inl rfl) ?_
  refine LAt.runU tOk 1 kr ?_
  refine LAt.doneM 1052 12 kr ?_
  refine Tr.to ⟨23, 0, [sB 10 (!r1), sB 4 false, sA 3 3 3 0, sA 2 2 3 0], [(3, (CV.frzRow (Net.row x1))), (2, (CV.frzRow (Net.row x0)))]⟩ kr ?_
  cases h1 : (!r1)
  · have H := bifF h1 H
    refine Tr.cond (b := false) kr (fun h => nomatch h) (fun _ => ?_)
    refine Tr.skip ?_
    show Tr _ _ _ _ _
    refine Tr.seq ?_
    refine Tr.rs ?_
    refine LAt.runU tOk 4 kr ?_
    obtain ⟨r2, er2, H⟩ := bind_some H
    refine LAt.callU tOk [.rd, .rd] (f := 74) (av := #[.tmp 12, .tmp 14]) (ats := #[31, 31]) (d := (some 15)) (ty := 4) (g := none) kr kr kr [] (laws_eqLinkS n x0.Links x1.Links r2 er2) kr (.inl rfl) ?_
    refine LAt.runU tOk 1 kr ?_
    refine LAt.doneM 65564 12 kr ?_
    refine Tr.to ⟨23, 0, [sB 16 (!r2), sB 4 false, sA 3 3 3 0, sA 2 2 3 0], [(3, (CV.frzRow (Net.row x1))), (2, (CV.frzRow (Net.row x0)))]⟩ kr ?_
    cases h2 : (!r2)
    · have H := bifF h2 H
      refine Tr.cond (b := false) kr (fun h => nomatch h) (fun _ => ?_)
      refine Tr.skip ?_
      show Tr _ _ _ _ _
      refine Tr.seq ?_
      refine Tr.rs ?_
      refine LAt.runU tOk 4 kr ?_
      obtain ⟨r3, er3, H⟩ := bind_some H
      refine LAt.callU tOk [.rd, .rd] (f := 75) (av := #[.tmp 18, .tmp 20]) (ats := #[32, 32]) (d := (some 21)) (ty := 4) (g := none) kr kr kr [] (laws_eqSayS n x0.Said x1.Said r3 er3) kr (.inl rfl) ?_
      refine LAt.runU tOk 1 kr ?_
      refine LAt.doneM 4194320 0 kr ?_
      refine Tr.to ⟨23, 0, [sB 22 (!r3), sB 4 false], []⟩ kr ?_
      cases h3 : (!r3)
      · have H := bifF h3 H
        refine Tr.cond (b := false) kr (fun h => nomatch h) (fun _ => ?_)
        refine Tr.skip ?_
        show Tr _ _ _ _ _
        refine Tr.rs ?_
        refine LAt.runU tOk 1 kr ?_
        refine LAt.doneM 16 0 kr ?_
        refine Tr.ret ?_
        have H := Option.some.inj H
        subst H
        exact Fin.of _ [(false, [cB true])] kr rfl rfl
      · have H := bifT h3 H
        refine Tr.cond (b := true) kr (fun _ => ?_) (fun h => nomatch h)
        refine Tr.rs ?_
        refine LAt.runU tOk 1 kr ?_
        refine LAt.doneM 16 0 kr ?_
        refine Tr.ret ?_
        have H := Option.some.inj H
        subst H
        exact Fin.of _ [(false, [cB false])] kr rfl rfl
    · have H := bifT h2 H
      refine Tr.cond (b := true) kr (fun _ => ?_) (fun h => nomatch h)
      refine Tr.rs ?_
      refine LAt.runU tOk 1 kr ?_
      refine LAt.doneM 28 12 kr ?_
      refine Tr.ret ?_
      have H := Option.some.inj H
      subst H
      exact Fin.of _ [(false, [cB false])] kr rfl rfl
  · have H := bifT h1 H
    refine Tr.cond (b := true) kr (fun _ => ?_) (fun h => nomatch h)
    refine Tr.rs ?_
    refine LAt.runU tOk 1 kr ?_
    refine LAt.doneM 28 12 kr ?_
    refine Tr.ret ?_
    have H := Option.some.inj H
    subst H
    exact Fin.of _ [(false, [cB false])] kr rfl rfl

def laws_FnExactNetOkF (n : Nat) (x0 : Net) : Option (Bool) :=
  ((laws_szNetF n x0 1048576).bind fun r1 => (bif (decide (r1 < 0)) then (some true) else ((laws_toNetF n x0).bind fun r2 => ((spec_NetOkF n r2).bind fun r3 => ((laws_toNetF n x0).bind fun r4 => ((impl_NetOkF n r4).bind fun r5 => (bif (!(r5 == r3)) then (some false) else ((laws_toNetF n x0).bind fun r6 => ((laws_eqNetF n r4 r6).bind fun r7 => (bif (!r7) then (some false) else (some true)))))))))))
/-- loop.example/g00326/laws.FnExactNetOk -/
theorem laws_FnExactNetOk (n : Nat) (x0 : Net) (r : Bool) (H : laws_FnExactNetOkF n x0 = some r) : LCall Try.prog 7 [.val true (CV.frzRow (Net.row x0))] [.val false [.lit (.bool r)]] [] := by
  refine LCall.of_body tOk Try.func7 rfl (c := (.seq (.region 0 (rg Try.f7 0) false) (.seq (.region 1 (rg Try.f7 1) false) (.seq (.region 2 (rg Try.f7 2) false) (.seq (.seq (.region 3 (rg Try.f7 3) false) (.cond (.tmp 11) (.seq (.region 4 (rg Try.f7 4) false) .ret) .skip)) (.seq (.region 5 (rg Try.f7 5) false) (.seq (.region 6 (rg Try.f7 6) false) (.seq (.region 7 (rg Try.f7 7) false) (.seq (.seq (.region 8 (rg Try.f7 8) false) (.cond (.tmp 21) (.seq (.region 9 (rg Try.f7 9) false) .ret) .skip)) (.seq (.seq (.region 10 (rg Try.f7 10) true) (.cond (.tmp 26) (.seq (.region 11 (rg Try.f7 11) false) .ret) .skip)) (.seq (.region 12 (rg Try.f7 12) false) .ret))))))))))) kr (Nat.le_of_ble_eq_true kr) 0 (rs := [.tmp 2]) rfl [] .nil [(false, [.lit (.bool r)])] [] [] fun cx => ?_
  show Tr _ _ _ ⟨27, 0, [sV 0 (CV.frzRow (Net.row x0))], []⟩ _
  unfold laws_FnExactNetOkF at H
  refine Tr.rs ?_
  refine LAt.runU tOk 2 kr ?_
  refine LAt.doneM 6 2 kr ?_
  refine Tr.rs ?_
  refine LAt.runU tOk 1 kr ?_
  refine LAt.doneM 14 2 kr ?_
  refine Tr.rs ?_
  refine LAt.runU tOk 2 kr ?_
  obtain ⟨r1, er1, H⟩ := bind_some H
  refine LAt.callU tOk [.rd, .rd] (f := 15) (av := #[.tmp 7, .tmp 8]) (ats := #[26, 3]) (d := (some 9)) (ty := 3) (g := none) kr kr kr [] (laws_szNet n x0 1048576 r1 er1) kr (.inl rfl) ?_
  refine LAt.runU tOk 1 kr ?_
  refine LAt.doneM 14 2 kr ?_
  refine Tr.seq ?_
  refine Tr.rs ?_
  refine LAt.runU tOk 2 kr ?_
  refine LAt.doneM 2054 2 kr ?_
  refine Tr.to ⟨27, 0, [sB 11 (decide (r1 < 0)), sB 2 false, sA 1 1 3 0], [(1, (CV.frzRow (Net.row x0)))]⟩ kr ?_
  cases h1 : (decide (r1 < 0))
  · have H := bifF h1 H
    refine Tr.cond (b := false) kr (fun h => nomatch h) (fun _ => ?_)
    refine Tr.skip ?_
    show Tr _ _ _ _ _
    refine Tr.rs ?_
    refine LAt.runU tOk 1 kr ?_
    obtain ⟨r2, er2, H⟩ := bind_some H
    refine LAt.callU tOk [.rd] (f := 17) (av := #[.tmp 12]) (ats := #[26]) (d := (some 13)) (ty := 34) (g := none) kr kr kr [] (laws_toNet n x0 r2 er2) kr (.inl rfl) ?_
    obtain ⟨r3, er3, H⟩ := bind_some H
    refine LAt.callU tOk [.rd] (f := 31) (av := #[.tmp 13]) (ats := #[34]) (d := (some 14)) (ty := 4) (g := none) kr kr kr [] (spec_NetOk n r2 r3 er3) kr (.inl rfl) ?_
    refine LAt.runU tOk 1 kr ?_
    refine LAt.doneM 22 2 kr ?_
    refine Tr.rs ?_
    refine LAt.runU tOk 1 kr ?_
    obtain ⟨r4, er4, H⟩ := bind_some H
    refine LAt.callU tOk [.rd] (f := 17) (av := #[.tmp 15]) (ats := #[26]) (d := (some 16)) (ty := 34) (g := none) kr kr kr [] (laws_toNet n x0 r4 er4) kr (.inl rfl) ?_
    refine LAt.runU tOk 2 kr ?_
    refine LAt.doneM 54 34 kr ?_
    refine Tr.rs ?_
    refine LAt.runU tOk 1 kr ?_
    obtain ⟨r5, er5, H⟩ := bind_some H
    refine LAt.callU tOk [.rd] (f := 32) (av := #[.tmp 17]) (ats := #[34]) (d := (some 18)) (ty := 4) (g := none) kr kr kr [.box 5] (impl_NetOk n r4 r5 er5) kr (.inr (rets_cons (mine_cons mine_lit mine_nil) rets_nil)) ?_
    refine LAt.runU tOk 1 kr ?_
    refine LAt.doneM 118 34 kr ?_
    refine Tr.seq ?_
    refine Tr.rs ?_
    refine LAt.runU tOk 3 kr ?_
    refine LAt.doneM 2097190 34 kr ?_
    refine Tr.to ⟨27, 0, [sB 21 (!(r5 == r3)), sA 5 5 3 0, sB 2 false, sA 1 1 3 0], [(5, (Net.row r4)), (1, (CV.frzRow (Net.row x0)))]⟩ kr ?_
    cases h2 : (!(r5 == r3))
    · have H := bifF h2 H
      refine Tr.cond (b := false) kr (fun h => nomatch h) (fun _ => ?_)
      refine Tr.skip ?_
      show Tr _ _ _ _ _
      refine Tr.seq ?_
      obtain ⟨r6, er6, H⟩ := bind_some H
      obtain ⟨r7, er7, H⟩ := bind_some H
      refine Tr.draws mixed 5 kr ⟨27, 0, [sB 26 (!r7), sB 2 false], []⟩ (fun cx => ?_) ?_
      · refine AT.runU tOk [(0, [3]), (1, [2, 3])] 3 [⟨[2, 3], 26, 1, 23⟩, ⟨[3], 34, 5, 22⟩] [1, 0] rfl kr (fun cx => ?_)
        refine AT.big1 tOk 2 kr kr ?_
        refine LAt.callU tOk [.rd] (f := 17) (av := #[.tmp 23]) (ats := #[26]) (d := (some 24)) (ty := 34) (g := none) kr kr kr [] (laws_toNet n x0 r6 er6) kr (.inl rfl) ?_
        refine LAt.fin kr (And.intro (And.intro kr kr) ?_)
        refine AT.big1 tOk 3 kr kr ?_
        refine LAt.callU tOk [.rd, .rd] (f := 20) (av := #[.tmp 22, .tmp 24]) (ats := #[34, 34]) (d := (some 25)) (ty := 4) (g := none) kr kr kr [.box 5] (laws_eqNet n r4 r6 r7 er7) kr (.inr (rets_cons (mine_cons mine_lit mine_nil) rets_nil)) ?_
        refine LAt.fin kr (And.intro (And.intro kr kr) ?_)
        refine AT.runU tOk [(4, [])] 0 [⟨[2, 3], 26, 1, 23⟩, ⟨[3], 34, 5, 22⟩] [4, 3, 2, 1, 0] rfl kr (fun cx => ?_)
        exact AT.done [26, 2] [] _ kr kr rfl
      · refine Tr.to ⟨27, 0, [sB 26 (!r7), sB 2 false], []⟩ kr ?_
        cases h3 : (!r7)
        · have H := bifF h3 H
          refine Tr.cond (b := false) kr (fun h => nomatch h) (fun _ => ?_)
          refine Tr.skip ?_
          show Tr _ _ _ _ _
          refine Tr.rs ?_
          refine LAt.runU tOk 1 kr ?_
          refine LAt.doneM 4 0 kr ?_
          refine Tr.ret ?_
          have H := Option.some.inj H
          subst H
          exact Fin.of _ [(false, [cB true])] kr rfl rfl
        · have H := bifT h3 H
          refine Tr.cond (b := true) kr (fun _ => ?_) (fun h => nomatch h)
          refine Tr.rs ?_
          refine LAt.runU tOk 1 kr ?_
          refine LAt.doneM 4 0 kr ?_
          refine Tr.ret ?_
          have H := Option.some.inj H
          subst H
          exact Fin.of _ [(false, [cB false])] kr rfl rfl
    · have H := bifT h2 H
      refine Tr.cond (b := true) kr (fun _ => ?_) (fun h => nomatch h)
      refine Tr.rs ?_
      refine LAt.runU tOk 1 kr ?_
      refine LAt.doneM 38 34 kr ?_
      refine Tr.ret ?_
      have H := Option.some.inj H
      subst H
      exact Fin.of _ [(false, [cB false])] kr rfl rfl
  · have H := bifT h1 H
    refine Tr.cond (b := true) kr (fun _ => ?_) (fun h => nomatch h)
    refine Tr.rs ?_
    refine LAt.runU tOk 1 kr ?_
    refine LAt.doneM 6 2 kr ?_
    refine Tr.ret ?_
    have H := Option.some.inj H
    subst H
    exact Fin.of _ [(false, [cB true])] kr rfl rfl
end Go.Proofs.Ytjdedhklbdkeoaa.Tw
