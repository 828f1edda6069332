/- Functions of the program, over trees. -/
import Derived.Test.YtjdedhklbdkeoaaProg
import Derived.Test.YtjdedhklbdkeoaaTlRule
import Derived.Test.YtjdedhklbdkeoaaTlU6
import Derived.Test.YtjdedhklbdkeoaaTwML1
import Derived.WalkKit
set_option linter.unusedVariables false
set_option linter.unusedSimpArgs false
set_option maxRecDepth 100000
set_option maxHeartbeats 1000000
namespace Go.Proofs.Ytjdedhklbdkeoaa.Tw
open Go Go.TL Go.Proofs


def laws_eqIntS_J1 (n : Nat) : Option (Bool) :=
  (some true)
def laws_eqIntS_L2 (n : Nat) : Nat → (List Int) → (List Int) → Int → Option ((Unit) ⊕ (Bool))
  | 0, _, _, _ => none
  | mo2 + 1, x0, x1, y1 => (bif (decide (y1 < (x0.length : Int))) then ((idx x0 y1).bind fun v3 => ((idx x1 y1).bind fun v4 => (bif (v3 != v4) then (some (Sum.inr false)) else (laws_eqIntS_L2 n mo2 x0 x1 (IntKind.wrap .i64 (y1 + 1)))))) else (some (Sum.inl ())))
def laws_eqIntSF (n : Nat) (x0 : (List Int)) (x1 : (List Int)) : Option (Bool) :=
  (bif ((x0.length : Int) != (x1.length : Int)) then (some false) else ((laws_eqIntS_L2 n n x0 x1 0).bind fun o => match o with | .inl _ => (laws_eqIntS_J1 n) | .inr r => some r))
/-- loop.example/g00326/laws.eqIntS -/
theorem laws_eqIntS (n : Nat) (x0 : (List Int)) (x1 : (List Int)) (r : Bool) (H : laws_eqIntSF n x0 x1 = some r) : LCall Try.prog 21 [.val false [.sl false 1 (CV.frzEs (x0.map intRow))], .val false [.sl false 1 (CV.frzEs (x1.map intRow))]] [.val false [.lit (.bool r)]] [] := by
  refine LCall.of_body tOk Try.func21 rfl (c := (.seq (Rg Try.f21 0) (.seq (.seq (Rg Try.f21 1) (.cond (.tmp 10) (.seq (Rg Try.f21 2) .ret) .skip)) (.seq (.seq (Rg Try.f21 3) (.block 0 (.loop (.seq (.seq (Rg Try.f21 4) (.cond (.tmp 14) .skip (.exit 0))) (.seq (.block 1 (.seq (Rd Try.f21 6) (.cond (.tmp 25) (.seq (Rg Try.f21 7) .ret) .skip))) (Rg Try.f21 5)))))) (.seq (Rg Try.f21 8) .ret))))) kr (Nat.le_of_ble_eq_true kr) 0 (rs := [.tmp 4]) rfl [] .nil [(false, [.lit (.bool r)])] [] [] fun cx => ?_
  show Tr _ _ _ ⟨26, 0, [sC 0 (cF 1 x0 intRow), sC 1 (cF 1 x1 intRow)], []⟩ _
  unfold laws_eqIntSF at H
  refine Tr.rgn tOk 1 19 0 kr kr ?_
  refine Tr.seq ?_
  refine Tr.rs ?_
  refine LAt.runU tOk 1 kr ?_
  refine LAt.lenE tOk (t := 27) (ty := 3) (e := 3) (x := (.tmp 6)) (d := 7) (g := none) ⟨(.slot 6), [], 0, false, 1, (CV.frzEs (x0.map intRow))⟩ (x0).length _ kr kr kr kr kr (frz_len _ _) rfl ?_
  refine LAt.runU tOk 1 kr ?_
  refine LAt.lenE tOk (t := 27) (ty := 3) (e := 3) (x := (.tmp 8)) (d := 9) (g := none) ⟨(.slot 8), [], 0, false, 1, (CV.frzEs (x1.map intRow))⟩ (x1).length _ kr kr kr kr kr (frz_len _ _) rfl ?_
  refine LAt.runU tOk 1 kr ?_
  refine LAt.doneM 1043 0 kr ?_
  cases h1 : ((x0.length : Int) != (x1.length : Int))
  · have H := bifF h1 H
    refine Tr.cF h1 kr ?_
    refine Tr.skip ?_
    show Tr _ _ _ _ _
    refine Tr.seq ?_
    refine Tr.rgn tOk 1 51 0 kr kr ?_
    obtain ⟨o2, eo2, Ho2⟩ := bind_some H
    clear H
    refine Tr.mid (ι := Unit) (fun v => ⟨26, 0, [sB 4 false], []⟩) (fun v => laws_eqIntS_J1 n = some r) ?_ ?_
    · refine Tr.block ?_
      refine Tr.loop (ι := Nat × (Int)) (fun v => ⟨26, 0, [sI 5 v.2, sB 4 false, sC 0 (cF 1 x0 intRow), sC 1 (cF 1 x1 intRow)], []⟩) (fun v => laws_eqIntS_L2 n v.1 x0 x1 v.2 = some o2) (fun v => v.1) (n, 0) eo2 (St.sub_of [5, 4, 0, 1] [] kr) ?_
      rintro ⟨mo2, y1⟩ H
      have H : laws_eqIntS_L2 n mo2 x0 x1 y1 = some o2 := H
      obtain _ | mo2 := mo2
      · cases (show (none : Option _) = some o2 from H)
      rw [laws_eqIntS_L2] at H
      refine Tr.seq ?_
      refine Tr.rs ?_
      refine LAt.runU tOk 2 kr ?_
      refine LAt.lenE tOk (t := 27) (ty := 3) (e := 3) (x := (.tmp 12)) (d := 13) (g := none) ⟨(.slot 12), [], 0, false, 1, (CV.frzEs (x0.map intRow))⟩ (x0).length _ kr kr kr kr kr (frz_len _ _) rfl ?_
      refine LAt.runU tOk 1 kr ?_
      refine LAt.doneM 30771 0 kr ?_
      cases h2 : (decide (y1 < (x0.length : Int)))
      · have H := bifF h2 H
        refine Tr.cF h2 kr ?_
        refine Tr.exit ?_
        refine And.intro (fun _ => ?_) (fun h => absurd rfl h)
        have H := Option.some.inj H
        subst H
        have H := Ho2
        dsimp only at H
        exact Exists.intro () (And.intro H (St.sub_of [4] [] kr))
      have H := bifT h2 H
      refine Tr.cT h2 kr ?_
      refine Tr.skip ?_
      show Tr _ _ _ _ _
      refine Tr.seq ?_
      refine Tr.block ?_
      obtain ⟨v3, ev3, H⟩ := bind_some H
      obtain ⟨v4, ev4, H⟩ := bind_some H
      refine Tr.draws mixed 9 kr ⟨26, 0, [sB 25 (v3 != v4), sI 24 v4, (23, .fad ([cI v4])), sI 22 y1, sC 21 (cF 1 x1 intRow), sI 20 v3, (19, .fad ([cI v3])), sI 18 y1, sC 17 (cF 1 x0 intRow), sB 14 (decide (y1 < (x0.length : Int))), sI 13 (x0.length : Int), sC 12 (cF 1 x0 intRow), sI 11 y1, sI 5 y1, sB 4 false, sC 0 (cF 1 x0 intRow), sC 1 (cF 1 x1 intRow)], []⟩ (fun cx => ?_) ?_
      · refine AT.runU tOk [(0, []), (1, [])] 7 [] [1, 0] rfl kr (fun cx => ?_)
        refine AT.indexF tOk 2 (t := 27) (ty := 0) (x := (.tmp 17)) (y := (.tmp 18)) (d := 19) (g := none) ⟨(.slot 17), [], 0, false, 1, (CV.frzEs (x0.map intRow))⟩ y1 [cI v3] _ kr kr kr kr kr kr rfl (idx_isF ev3) rfl (fun cx => ?_)
        refine AT.runU tOk [(3, []), (4, []), (5, [])] 3 [] [5, 4, 3, 2, 1, 0] rfl kr (fun cx => ?_)
        refine AT.indexF tOk 6 (t := 27) (ty := 0) (x := (.tmp 21)) (y := (.tmp 22)) (d := 23) (g := none) ⟨(.slot 21), [], 0, false, 1, (CV.frzEs (x1.map intRow))⟩ y1 [cI v4] _ kr kr kr kr kr kr rfl (idx_isF ev4) rfl (fun cx => ?_)
        refine AT.runU tOk [(7, []), (8, [])] 0 [] [8, 7, 6, 5, 4, 3, 2, 1, 0] rfl kr (fun cx => ?_)
        exact AT.done [25, 24, 23, 22, 21, 20, 19, 18, 17, 14, 13, 12, 11, 5, 4, 0, 1] [] _ kr kr rfl
      refine Tr.to ⟨26, 0, [sB 25 (v3 != v4), sI 24 v4, (23, .fad ([cI v4])), sI 22 y1, sC 21 (cF 1 x1 intRow), sI 20 v3, (19, .fad ([cI v3])), sI 18 y1, sC 17 (cF 1 x0 intRow), sB 14 (decide (y1 < (x0.length : Int))), sI 13 (x0.length : Int), sC 12 (cF 1 x0 intRow), sI 11 y1, sI 5 y1, sB 4 false, sC 0 (cF 1 x0 intRow), sC 1 (cF 1 x1 intRow)], []⟩ kr ?_
      cases h3 : (v3 != v4)
      · have H := bifF h3 H
        refine Tr.cf kr ?_
        refine Tr.skip ?_
        show Tr _ _ _ _ _
        refine Tr.rgE tOk 3 67106867 0 kr kr ?_
        exact Exists.intro (mo2, (IntKind.wrap .i64 (y1 + 1))) (And.intro H (And.intro (Nat.lt_succ_self mo2) (St.sub_of [5, 4, 0, 1] [] kr)))
      have H := bifT h3 H
      refine Tr.ct kr ?_
      refine Tr.rgn tOk 1 67008563 0 kr kr ?_
      refine Tr.ret ?_
      have H := Option.some.inj H
      subst H
      have H := Ho2
      dsimp only at H
      have H := Option.some.inj H
      subst H
      exact Fin.of _ [(false, [cB false])] kr rfl rfl
    rintro _ H
    have H : (laws_eqIntS_J1 n) = some r := H
    unfold laws_eqIntS_J1 at H
    show Tr _ _ _ _ _
    refine Tr.rgn tOk 1 16 0 kr kr ?_
    refine Tr.ret ?_
    have H := Option.some.inj H
    subst H
    exact Fin.of _ [(false, [cB true])] kr rfl rfl
  have H := bifT h1 H
  refine Tr.cT h1 kr ?_
  refine Tr.rgn tOk 1 19 0 kr kr ?_
  refine Tr.ret ?_
  have H := Option.some.inj H
  subst H
  exact Fin.of _ [(false, [cB false])] kr rfl rfl

def laws_eqValF (n : Nat) (x0 : Val) (x1 : Val) : Option (Bool) :=
  (bif (x0.K != x1.K) then (some false) else (bif (x0.N != x1.N) then (some false) else (bif (!(x0.S.toList == x1.S.toList)) then (some false) else ((laws_eqIntSF n x0.O x1.O).bind fun r1 => (bif (!r1) then (some false) else (some true))))))
/-- loop.example/g00326/laws.eqVal -/
theorem laws_eqVal (n : Nat) (x0 : Val) (x1 : Val) (r : Bool) (H : laws_eqValF n x0 x1 = some r) : LCall Try.prog 49 [.val true (CV.frzRow (Val.row x0)), .val true (CV.frzRow (Val.row x1))] [.val false [.lit (.bool r)]] [] := by
  refine LCall.of_body tOk Try.func49 rfl (c := (.seq (Rg Try.f49 0) (.seq (.seq (Rg Try.f49 1) (.cond (.tmp 9) (.seq (Rg Try.f49 2) .ret) .skip)) (.seq (.seq (Rg Try.f49 3) (.cond (.tmp 14) (.seq (Rg Try.f49 4) .ret) .skip)) (.seq (.seq (Rg Try.f49 5) (.cond (.tmp 19) (.seq (Rg Try.f49 6) .ret) .skip)) (.seq (.seq (Rg Try.f49 7) (.cond (.tmp 25) (.seq (Rg Try.f49 8) .ret) .skip)) (.seq (Rg Try.f49 9) .ret))))))) kr (Nat.le_of_ble_eq_true kr) 0 (rs := [.tmp 4]) rfl [] .nil [(false, [.lit (.bool r)])] [] [] fun cx => ?_
  show Tr _ _ _ ⟨26, 0, [sV 0 (CV.frzRow (Val.row x0)), sV 1 (CV.frzRow (Val.row x1))], []⟩ _
  unfold laws_eqValF at H
  refine Tr.rgn tOk 3 28 12 kr kr ?_
  refine Tr.seq ?_
  refine Tr.rgn tOk 5 540 12 kr kr ?_
  cases h1 : (x0.K != x1.K)
  · have H := bifF h1 H
    refine Tr.cF h1 kr ?_
    refine Tr.skip ?_
    show Tr _ _ _ _ _
    refine Tr.seq ?_
    refine Tr.rgn tOk 5 16412 12 kr kr ?_
    cases h2 : (x0.N != x1.N)
    · have H := bifF h2 H
      refine Tr.cF h2 kr ?_
      refine Tr.skip ?_
      show Tr _ _ _ _ _
      refine Tr.seq ?_
      refine Tr.rgn tOk 5 524316 12 kr kr ?_
      cases h3 : (!(x0.S.toList == x1.S.toList))
      · have H := bifF h3 H
        refine Tr.cF h3 kr ?_
        refine Tr.skip ?_
        show Tr _ _ _ _ _
        refine Tr.seq ?_
        refine Tr.rs ?_
        refine LAt.runU tOk 4 kr ?_
        obtain ⟨r1, er1, H⟩ := bind_some H
        refine LAt.callV tOk [.rd, .rd] [] (laws_eqIntS n x0.O x1.O r1 er1) kr kr kr kr (.inl rfl) ?_
        refine LAt.runU tOk 1 kr ?_
        refine LAt.doneM 33554448 0 kr ?_
        cases h4 : (!r1)
        · have H := bifF h4 H
          refine Tr.cF h4 kr ?_
          refine Tr.skip ?_
          show Tr _ _ _ _ _
          refine Tr.rgn tOk 1 16 0 kr kr ?_
          refine Tr.ret ?_
          have H := Option.some.inj H
          subst H
          exact Fin.of _ [(false, [cB true])] kr rfl rfl
        have H := bifT h4 H
        refine Tr.cT h4 kr ?_
        refine Tr.rgn tOk 1 16 0 kr kr ?_
        refine Tr.ret ?_
        have H := Option.some.inj H
        subst H
        exact Fin.of _ [(false, [cB false])] kr rfl rfl
      have H := bifT h3 H
      refine Tr.cT h3 kr ?_
      refine Tr.rgn tOk 1 28 12 kr kr ?_
      refine Tr.ret ?_
      have H := Option.some.inj H
      subst H
      exact Fin.of _ [(false, [cB false])] kr rfl rfl
    have H := bifT h2 H
    refine Tr.cT h2 kr ?_
    refine Tr.rgn tOk 1 28 12 kr kr ?_
    refine Tr.ret ?_
    have H := Option.some.inj H
    subst H
    exact Fin.of _ [(false, [cB false])] kr rfl rfl
  have H := bifT h1 H
  refine Tr.cT h1 kr ?_
  refine Tr.rgn tOk 1 28 12 kr kr ?_
  refine Tr.ret ?_
  have H := Option.some.inj H
  subst H
  exact Fin.of _ [(false, [cB false])] kr rfl rfl

def laws_eqBindF (n : Nat) (x0 : Bind) (x1 : Bind) : Option (Bool) :=
  ((laws_eqIntSF n x0.O x1.O).bind fun r1 => (bif (!r1) then (some false) else ((laws_eqValF n x0.V x1.V).bind fun r2 => (bif (!r2) then (some false) else (some true)))))
/-- loop.example/g00326/laws.eqBind -/
theorem laws_eqBind (n : Nat) (x0 : Bind) (x1 : Bind) (r : Bool) (H : laws_eqBindF n x0 x1 = some r) : LCall Try.prog 59 [.val true (CV.frzRow (Bind.row x0)), .val true (CV.frzRow (Bind.row x1))] [.val false [.lit (.bool r)]] [] := by
  refine LCall.of_body tOk Try.func59 rfl (c := (.seq (Rg Try.f59 0) (.seq (.seq (Rg Try.f59 1) (.cond (.tmp 10) (.seq (Rg Try.f59 2) .ret) .skip)) (.seq (.seq (Rg Try.f59 3) (.cond (.tmp 16) (.seq (Rg Try.f59 4) .ret) .skip)) (.seq (Rg Try.f59 5) .ret))))) kr (Nat.le_of_ble_eq_true kr) 0 (rs := [.tmp 4]) rfl [] .nil [(false, [.lit (.bool r)])] [] [] fun cx => ?_
  show Tr _ _ _ ⟨17, 0, [sV 0 (CV.frzRow (Bind.row x0)), sV 1 (CV.frzRow (Bind.row x1))], []⟩ _
  unfold laws_eqBindF at H
  refine Tr.rgn tOk 3 28 12 kr kr ?_
  refine Tr.seq ?_
  refine Tr.rs ?_
  refine LAt.runU tOk 4 kr ?_
  obtain ⟨r1, er1, H⟩ := bind_some H
  refine LAt.callV tOk [.rd, .rd] [] (laws_eqIntS n x0.O x1.O r1 er1) kr kr kr kr (.inl rfl) ?_
  refine LAt.runU tOk 1 kr ?_
  refine LAt.doneM 1052 12 kr ?_
  cases h1 : (!r1)
  · have H := bifF h1 H
    refine Tr.cF h1 kr ?_
    refine Tr.skip ?_
    show Tr _ _ _ _ _
    refine Tr.seq ?_
    refine Tr.rs ?_
    refine LAt.runU tOk 4 kr ?_
    obtain ⟨r2, er2, H⟩ := bind_some H
    refine LAt.callV tOk [.rd, .rd] [] (laws_eqVal n x0.V x1.V r2 er2) kr kr kr kr (.inl rfl) ?_
    refine LAt.runU tOk 1 kr ?_
    refine LAt.doneM 65552 0 kr ?_
    cases h2 : (!r2)
    · have H := bifF h2 H
      refine Tr.cF h2 kr ?_
      refine Tr.skip ?_
      show Tr _ _ _ _ _
      refine Tr.rgn tOk 1 16 0 kr kr ?_
      refine Tr.ret ?_
      have H := Option.some.inj H
      subst H
      exact Fin.of _ [(false, [cB true])] kr rfl rfl
    have H := bifT h2 H
    refine Tr.cT h2 kr ?_
    refine Tr.rgn tOk 1 16 0 kr kr ?_
    refine Tr.ret ?_
    have H := Option.some.inj H
    subst H
    exact Fin.of _ [(false, [cB false])] kr rfl rfl
  have H := bifT h1 H
  refine Tr.cT h1 kr ?_
  refine Tr.rgn tOk 1 28 12 kr kr ?_
  refine Tr.ret ?_
  have H := Option.some.inj H
  subst H
  exact Fin.of _ [(false, [cB false])] kr rfl rfl

def laws_eqBindS_J1 (n : Nat) : Option (Bool) :=
  (some true)
def laws_eqBindS_L2 (n : Nat) : Nat → (List Bind) → (List Bind) → Int → Option ((Unit) ⊕ (Bool))
  | 0, _, _, _ => none
  | mo2 + 1, x0, x1, y1 => (bif (decide (y1 < (x0.length : Int))) then ((idx x0 y1).bind fun v3 => ((idx x1 y1).bind fun v4 => ((laws_eqBindF n v3 v4).bind fun r5 => (bif (!r5) then (some (Sum.inr false)) else (laws_eqBindS_L2 n mo2 x0 x1 (IntKind.wrap .i64 (y1 + 1))))))) else (some (Sum.inl ())))
def laws_eqBindSF (n : Nat) (x0 : (List Bind)) (x1 : (List Bind)) : Option (Bool) :=
  (bif ((x0.length : Int) != (x1.length : Int)) then (some false) else ((laws_eqBindS_L2 n n x0 x1 0).bind fun o => match o with | .inl _ => (laws_eqBindS_J1 n) | .inr r => some r))
/-- loop.example/g00326/laws.eqBindS -/
theorem laws_eqBindS (n : Nat) (x0 : (List Bind)) (x1 : (List Bind)) (r : Bool) (H : laws_eqBindSF n x0 x1 = some r) : LCall Try.prog 54 [.val false [.sl false 5 (CV.frzEs (x0.map Bind.row))], .val false [.sl false 5 (CV.frzEs (x1.map Bind.row))]] [.val false [.lit (.bool r)]] [] := by
  refine LCall.of_body tOk Try.func54 rfl (c := (.seq (Rg Try.f54 0) (.seq (.seq (Rg Try.f54 1) (.cond (.tmp 10) (.seq (Rg Try.f54 2) .ret) .skip)) (.seq (.seq (Rg Try.f54 3) (.block 0 (.loop (.seq (.seq (Rg Try.f54 4) (.cond (.tmp 14) .skip (.exit 0))) (.seq (.block 1 (.seq (Rd Try.f54 6) (.cond (.tmp 26) (.seq (Rg Try.f54 7) .ret) .skip))) (Rg Try.f54 5)))))) (.seq (Rg Try.f54 8) .ret))))) kr (Nat.le_of_ble_eq_true kr) 0 (rs := [.tmp 4]) rfl [] .nil [(false, [.lit (.bool r)])] [] [] fun cx => ?_
  show Tr _ _ _ ⟨27, 0, [sC 0 (cF 5 x0 Bind.row), sC 1 (cF 5 x1 Bind.row)], []⟩ _
  unfold laws_eqBindSF at H
  refine Tr.rgn tOk 1 19 0 kr kr ?_
  refine Tr.seq ?_
  refine Tr.rs ?_
  refine LAt.runU tOk 1 kr ?_
  refine LAt.lenE tOk (t := 81) (ty := 3) (e := 86) (x := (.tmp 6)) (d := 7) (g := none) ⟨(.slot 6), [], 0, false, 5, (CV.frzEs (x0.map Bind.row))⟩ (x0).length _ kr kr kr kr kr (frz_len _ _) rfl ?_
  refine LAt.runU tOk 1 kr ?_
  refine LAt.lenE tOk (t := 81) (ty := 3) (e := 86) (x := (.tmp 8)) (d := 9) (g := none) ⟨(.slot 8), [], 0, false, 5, (CV.frzEs (x1.map Bind.row))⟩ (x1).length _ kr kr kr kr kr (frz_len _ _) rfl ?_
  refine LAt.runU tOk 1 kr ?_
  refine LAt.doneM 1043 0 kr ?_
  cases h1 : ((x0.length : Int) != (x1.length : Int))
  · have H := bifF h1 H
    refine Tr.cF h1 kr ?_
    refine Tr.skip ?_
    show Tr _ _ _ _ _
    refine Tr.seq ?_
    refine Tr.rgn tOk 1 51 0 kr kr ?_
    obtain ⟨o2, eo2, Ho2⟩ := bind_some H
    clear H
    refine Tr.mid (ι := Unit) (fun v => ⟨27, 0, [sB 4 false], []⟩) (fun v => laws_eqBindS_J1 n = some r) ?_ ?_
    · refine Tr.block ?_
      refine Tr.loop (ι := Nat × (Int)) (fun v => ⟨27, 0, [sI 5 v.2, sB 4 false, sC 0 (cF 5 x0 Bind.row), sC 1 (cF 5 x1 Bind.row)], []⟩) (fun v => laws_eqBindS_L2 n v.1 x0 x1 v.2 = some o2) (fun v => v.1) (n, 0) eo2 (St.sub_of [5, 4, 0, 1] [] kr) ?_
      rintro ⟨mo2, y1⟩ H
      have H : laws_eqBindS_L2 n mo2 x0 x1 y1 = some o2 := H
      obtain _ | mo2 := mo2
      · cases (show (none : Option _) = some o2 from H)
      rw [laws_eqBindS_L2] at H
      refine Tr.seq ?_
      refine Tr.rs ?_
      refine LAt.runU tOk 2 kr ?_
      refine LAt.lenE tOk (t := 81) (ty := 3) (e := 86) (x := (.tmp 12)) (d := 13) (g := none) ⟨(.slot 12), [], 0, false, 5, (CV.frzEs (x0.map Bind.row))⟩ (x0).length _ kr kr kr kr kr (frz_len _ _) rfl ?_
      refine LAt.runU tOk 1 kr ?_
      refine LAt.doneM 30771 0 kr ?_
      cases h2 : (decide (y1 < (x0.length : Int)))
      · have H := bifF h2 H
        refine Tr.cF h2 kr ?_
        refine Tr.exit ?_
        refine And.intro (fun _ => ?_) (fun h => absurd rfl h)
        have H := Option.some.inj H
        subst H
        have H := Ho2
        dsimp only at H
        exact Exists.intro () (And.intro H (St.sub_of [4] [] kr))
      have H := bifT h2 H
      refine Tr.cT h2 kr ?_
      refine Tr.skip ?_
      show Tr _ _ _ _ _
      refine Tr.seq ?_
      refine Tr.block ?_
      obtain ⟨v3, ev3, H⟩ := bind_some H
      obtain ⟨v4, ev4, H⟩ := bind_some H
      obtain ⟨r5, er5, H⟩ := bind_some H
      refine Tr.draws mixed 10 kr ⟨27, 0, [sB 26 (!r5), sB 25 r5, sV 24 (CV.frzRow (Bind.row v4)), (23, .fad ((CV.frzRow (Bind.row v4)))), sI 22 y1, sC 21 (cF 5 x1 Bind.row), sV 20 (CV.frzRow (Bind.row v3)), (19, .fad ((CV.frzRow (Bind.row v3)))), sI 18 y1, sC 17 (cF 5 x0 Bind.row), sB 14 (decide (y1 < (x0.length : Int))), sI 13 (x0.length : Int), sC 12 (cF 5 x0 Bind.row), sI 11 y1, sI 5 y1, sB 4 false, sC 0 (cF 5 x0 Bind.row), sC 1 (cF 5 x1 Bind.row)], []⟩ (fun cx => ?_) ?_
      · refine AT.runU tOk [(0, []), (1, [])] 8 [] [1, 0] rfl kr (fun cx => ?_)
        refine AT.indexF tOk 2 (t := 81) (ty := 0) (x := (.tmp 17)) (y := (.tmp 18)) (d := 19) (g := none) ⟨(.slot 17), [], 0, false, 5, (CV.frzEs (x0.map Bind.row))⟩ y1 (CV.frzRow (Bind.row v3)) _ kr kr kr kr kr kr rfl (idx_isF ev3) rfl (fun cx => ?_)
        refine AT.runU tOk [(3, []), (4, []), (5, [])] 4 [] [5, 4, 3, 2, 1, 0] rfl kr (fun cx => ?_)
        refine AT.indexF tOk 6 (t := 81) (ty := 0) (x := (.tmp 21)) (y := (.tmp 22)) (d := 23) (g := none) ⟨(.slot 21), [], 0, false, 5, (CV.frzEs (x1.map Bind.row))⟩ y1 (CV.frzRow (Bind.row v4)) _ kr kr kr kr kr kr rfl (idx_isF ev4) rfl (fun cx => ?_)
        refine AT.runU tOk [(7, [])] 2 [] [7, 6, 5, 4, 3, 2, 1, 0] rfl kr (fun cx => ?_)
        refine AT.big1 tOk 8 kr kr ?_
        refine LAt.callV tOk [.rd, .rd] [] (laws_eqBind n v3 v4 r5 er5) kr kr kr kr (.inl rfl) ?_
        refine LAt.fin kr (And.intro (And.intro kr kr) ?_)
        refine AT.runU tOk [(9, [])] 0 [] [9, 8, 7, 6, 5, 4, 3, 2, 1, 0] rfl kr (fun cx => ?_)
        exact AT.done [26, 25, 24, 23, 22, 21, 20, 19, 18, 17, 14, 13, 12, 11, 5, 4, 0, 1] [] _ kr kr rfl
      refine Tr.to ⟨27, 0, [sB 26 (!r5), sB 25 r5, sV 24 (CV.frzRow (Bind.row v4)), (23, .fad ((CV.frzRow (Bind.row v4)))), sI 22 y1, sC 21 (cF 5 x1 Bind.row), sV 20 (CV.frzRow (Bind.row v3)), (19, .fad ((CV.frzRow (Bind.row v3)))), sI 18 y1, sC 17 (cF 5 x0 Bind.row), sB 14 (decide (y1 < (x0.length : Int))), sI 13 (x0.length : Int), sC 12 (cF 5 x0 Bind.row), sI 11 y1, sI 5 y1, sB 4 false, sC 0 (cF 5 x0 Bind.row), sC 1 (cF 5 x1 Bind.row)], []⟩ kr ?_
      cases h3 : (!r5)
      · have H := bifF h3 H
        refine Tr.cf kr ?_
        refine Tr.skip ?_
        show Tr _ _ _ _ _
        refine Tr.rgE tOk 3 134215731 0 kr kr ?_
        exact Exists.intro (mo2, (IntKind.wrap .i64 (y1 + 1))) (And.intro H (And.intro (Nat.lt_succ_self mo2) (St.sub_of [5, 4, 0, 1] [] kr)))
      have H := bifT h3 H
      refine Tr.ct kr ?_
      refine Tr.rgn tOk 1 134117427 0 kr kr ?_
      refine Tr.ret ?_
      have H := Option.some.inj H
      subst H
      have H := Ho2
      dsimp only at H
      have H := Option.some.inj H
      subst H
      exact Fin.of _ [(false, [cB false])] kr rfl rfl
    rintro _ H
    have H : (laws_eqBindS_J1 n) = some r := H
    unfold laws_eqBindS_J1 at H
    show Tr _ _ _ _ _
    refine Tr.rgn tOk 1 16 0 kr kr ?_
    refine Tr.ret ?_
    have H := Option.some.inj H
    subst H
    exact Fin.of _ [(false, [cB true])] kr rfl rfl
  have H := bifT h1 H
  refine Tr.cT h1 kr ?_
  refine Tr.rgn tOk 1 19 0 kr kr ?_
  refine Tr.ret ?_
  have H := Option.some.inj H
  subst H
  exact Fin.of _ [(false, [cB false])] kr rfl rfl

def laws_eqVecF (n : Nat) (x0 : Vec) (x1 : Vec) : Option (Bool) :=
  (bif (x0.Root != x1.Root) then (some false) else (bif (x0.Cost != x1.Cost) then (some false) else (bif (x0.Hops != x1.Hops) then (some false) else (bif (x0.Bridge != x1.Bridge) then (some false) else (bif (x0.Port != x1.Port) then (some false) else (some true))))))
/-- loop.example/g00326/laws.eqVec -/
theorem laws_eqVec (n : Nat) (x0 : Vec) (x1 : Vec) (r : Bool) (H : laws_eqVecF n x0 x1 = some r) : LCall Try.prog 173 [.val true (CV.frzRow (Vec.row x0)), .val true (CV.frzRow (Vec.row x1))] [.val false [.lit (.bool r)]] [] := by
  refine LCall.of_body tOk Try.func173 rfl (c := (.seq (Rg Try.f173 0) (.seq (.seq (Rg Try.f173 1) (.cond (.tmp 9) (.seq (Rg Try.f173 2) .ret) .skip)) (.seq (.seq (Rg Try.f173 3) (.cond (.tmp 14) (.seq (Rg Try.f173 4) .ret) .skip)) (.seq (.seq (Rg Try.f173 5) (.cond (.tmp 19) (.seq (Rg Try.f173 6) .ret) .skip)) (.seq (.seq (Rg Try.f173 7) (.cond (.tmp 24) (.seq (Rg Try.f173 8) .ret) .skip)) (.seq (.seq (Rg Try.f173 9) (.cond (.tmp 29) (.seq (Rg Try.f173 10) .ret) .skip)) (.seq (Rg Try.f173 11) .ret)))))))) kr (Nat.le_of_ble_eq_true kr) 0 (rs := [.tmp 4]) rfl [] .nil [(false, [.lit (.bool r)])] [] [] fun cx => ?_
  show Tr _ _ _ ⟨30, 0, [sV 0 (Vec.row x0), sV 1 (Vec.row x1)], []⟩ _
  unfold laws_eqVecF at H
  refine Tr.rgn tOk 3 28 12 kr kr ?_
  refine Tr.seq ?_
  refine Tr.rgn tOk 5 540 12 kr kr ?_
  cases h1 : (x0.Root != x1.Root)
  · have H := bifF h1 H
    refine Tr.cF h1 kr ?_
    refine Tr.skip ?_
    show Tr _ _ _ _ _
    refine Tr.seq ?_
    refine Tr.rgn tOk 5 16412 12 kr kr ?_
    cases h2 : (x0.Cost != x1.Cost)
    · have H := bifF h2 H
      refine Tr.cF h2 kr ?_
      refine Tr.skip ?_
      show Tr _ _ _ _ _
      refine Tr.seq ?_
      refine Tr.rgn tOk 5 524316 12 kr kr ?_
      cases h3 : (x0.Hops != x1.Hops)
      · have H := bifF h3 H
        refine Tr.cF h3 kr ?_
        refine Tr.skip ?_
        show Tr _ _ _ _ _
        refine Tr.seq ?_
        refine Tr.rgn tOk 5 16777244 12 kr kr ?_
        cases h4 : (x0.Bridge != x1.Bridge)
        · have H := bifF h4 H
          refine Tr.cF h4 kr ?_
          refine Tr.skip ?_
          show Tr _ _ _ _ _
          refine Tr.seq ?_
          refine Tr.rgn tOk 5 536870928 0 kr kr ?_
          cases h5 : (x0.Port != x1.Port)
          · have H := bifF h5 H
            refine Tr.cF h5 kr ?_
            refine Tr.skip ?_
            show Tr _ _ _ _ _
            refine Tr.rgn tOk 1 16 0 kr kr ?_
            refine Tr.ret ?_
            have H := Option.some.inj H
            subst H
            exact Fin.of _ [(false, [cB true])] kr rfl rfl
          have H := bifT h5 H
          refine Tr.cT h5 kr ?_
          refine Tr.rgn tOk 1 16 0 kr kr ?_
          refine Tr.ret ?_
          have H := Option.some.inj H
          subst H
          exact Fin.of _ [(false, [cB false])] kr rfl rfl
        have H := bifT h4 H
        refine Tr.cT h4 kr ?_
        refine Tr.rgn tOk 1 28 12 kr kr ?_
        refine Tr.ret ?_
        have H := Option.some.inj H
        subst H
        exact Fin.of _ [(false, [cB false])] kr rfl rfl
      have H := bifT h3 H
      refine Tr.cT h3 kr ?_
      refine Tr.rgn tOk 1 28 12 kr kr ?_
      refine Tr.ret ?_
      have H := Option.some.inj H
      subst H
      exact Fin.of _ [(false, [cB false])] kr rfl rfl
    have H := bifT h2 H
    refine Tr.cT h2 kr ?_
    refine Tr.rgn tOk 1 28 12 kr kr ?_
    refine Tr.ret ?_
    have H := Option.some.inj H
    subst H
    exact Fin.of _ [(false, [cB false])] kr rfl rfl
  have H := bifT h1 H
  refine Tr.cT h1 kr ?_
  refine Tr.rgn tOk 1 28 12 kr kr ?_
  refine Tr.ret ?_
  have H := Option.some.inj H
  subst H
  exact Fin.of _ [(false, [cB false])] kr rfl rfl

def laws_eqPtF (n : Nat) (x0 : Pt) (x1 : Pt) : Option (Bool) :=
  (bif (!(x0.Up == x1.Up)) then (some false) else (bif (x0.Cost != x1.Cost) then (some false) else (bif (!(x0.Has == x1.Has)) then (some false) else ((laws_eqVecF n x0.Heard x1.Heard).bind fun r1 => (bif (!r1) then (some false) else (some true))))))
/-- loop.example/g00326/laws.eqPt -/
theorem laws_eqPt (n : Nat) (x0 : Pt) (x1 : Pt) (r : Bool) (H : laws_eqPtF n x0 x1 = some r) : LCall Try.prog 161 [.val true (CV.frzRow (Pt.row x0)), .val true (CV.frzRow (Pt.row x1))] [.val false [.lit (.bool r)]] [] := by
  refine LCall.of_body tOk Try.func161 rfl (c := (.seq (Rg Try.f161 0) (.seq (.seq (Rg Try.f161 1) (.cond (.tmp 9) (.seq (Rg Try.f161 2) .ret) .skip)) (.seq (.seq (Rg Try.f161 3) (.cond (.tmp 14) (.seq (Rg Try.f161 4) .ret) .skip)) (.seq (.seq (Rg Try.f161 5) (.cond (.tmp 19) (.seq (Rg Try.f161 6) .ret) .skip)) (.seq (.seq (Rg Try.f161 7) (.cond (.tmp 25) (.seq (Rg Try.f161 8) .ret) .skip)) (.seq (Rg Try.f161 9) .ret))))))) kr (Nat.le_of_ble_eq_true kr) 0 (rs := [.tmp 4]) rfl [] .nil [(false, [.lit (.bool r)])] [] [] fun cx => ?_
  show Tr _ _ _ ⟨26, 0, [sV 0 (Pt.row x0), sV 1 (Pt.row x1)], []⟩ _
  unfold laws_eqPtF at H
  refine Tr.rgn tOk 3 28 12 kr kr ?_
  refine Tr.seq ?_
  refine Tr.rgn tOk 5 540 12 kr kr ?_
  cases h1 : (!(x0.Up == x1.Up))
  · have H := bifF h1 H
    refine Tr.cF h1 kr ?_
    refine Tr.skip ?_
    show Tr _ _ _ _ _
    refine Tr.seq ?_
    refine Tr.rgn tOk 5 16412 12 kr kr ?_
    cases h2 : (x0.Cost != x1.Cost)
    · have H := bifF h2 H
      refine Tr.cF h2 kr ?_
      refine Tr.skip ?_
      show Tr _ _ _ _ _
      refine Tr.seq ?_
      refine Tr.rgn tOk 5 524316 12 kr kr ?_
      cases h3 : (!(x0.Has == x1.Has))
      · have H := bifF h3 H
        refine Tr.cF h3 kr ?_
        refine Tr.skip ?_
        show Tr _ _ _ _ _
        refine Tr.seq ?_
        refine Tr.rs ?_
        refine LAt.runU tOk 4 kr ?_
        obtain ⟨r1, er1, H⟩ := bind_some H
        refine LAt.callV tOk [.rd, .rd] [] (laws_eqVec n x0.Heard x1.Heard r1 er1) kr kr kr kr (.inl rfl) ?_
        refine LAt.runU tOk 1 kr ?_
        refine LAt.doneM 33554448 0 kr ?_
        cases h4 : (!r1)
        · have H := bifF h4 H
          refine Tr.cF h4 kr ?_
          refine Tr.skip ?_
          show Tr _ _ _ _ _
          refine Tr.rgn tOk 1 16 0 kr kr ?_
          refine Tr.ret ?_
          have H := Option.some.inj H
          subst H
          exact Fin.of _ [(false, [cB true])] kr rfl rfl
        have H := bifT h4 H
        refine Tr.cT h4 kr ?_
        refine Tr.rgn tOk 1 16 0 kr kr ?_
        refine Tr.ret ?_
        have H := Option.some.inj H
        subst H
        exact Fin.of _ [(false, [cB false])] kr rfl rfl
      have H := bifT h3 H
      refine Tr.cT h3 kr ?_
      refine Tr.rgn tOk 1 28 12 kr kr ?_
      refine Tr.ret ?_
      have H := Option.some.inj H
      subst H
      exact Fin.of _ [(false, [cB false])] kr rfl rfl
    have H := bifT h2 H
    refine Tr.cT h2 kr ?_
    refine Tr.rgn tOk 1 28 12 kr kr ?_
    refine Tr.ret ?_
    have H := Option.some.inj H
    subst H
    exact Fin.of _ [(false, [cB false])] kr rfl rfl
  have H := bifT h1 H
  refine Tr.cT h1 kr ?_
  refine Tr.rgn tOk 1 28 12 kr kr ?_
  refine Tr.ret ?_
  have H := Option.some.inj H
  subst H
  exact Fin.of _ [(false, [cB false])] kr rfl rfl

def laws_eqPtS_J1 (n : Nat) : Option (Bool) :=
  (some true)
def laws_eqPtS_L2 (n : Nat) : Nat → (List Pt) → (List Pt) → Int → Option ((Unit) ⊕ (Bool))
  | 0, _, _, _ => none
  | mo2 + 1, x0, x1, y1 => (bif (decide (y1 < (x0.length : Int))) then ((idx x0 y1).bind fun v3 => ((idx x1 y1).bind fun v4 => ((laws_eqPtF n v3 v4).bind fun r5 => (bif (!r5) then (some (Sum.inr false)) else (laws_eqPtS_L2 n mo2 x0 x1 (IntKind.wrap .i64 (y1 + 1))))))) else (some (Sum.inl ())))
def laws_eqPtSF (n : Nat) (x0 : (List Pt)) (x1 : (List Pt)) : Option (Bool) :=
  (bif ((x0.length : Int) != (x1.length : Int)) then (some false) else ((laws_eqPtS_L2 n n x0 x1 0).bind fun o => match o with | .inl _ => (laws_eqPtS_J1 n) | .inr r => some r))
/-- loop.example/g00326/laws.eqPtS -/
theorem laws_eqPtS (n : Nat) (x0 : (List Pt)) (x1 : (List Pt)) (r : Bool) (H : laws_eqPtSF n x0 x1 = some r) : LCall Try.prog 106 [.val false [.sl false 8 (CV.frzEs (x0.map Pt.row))], .val false [.sl false 8 (CV.frzEs (x1.map Pt.row))]] [.val false [.lit (.bool r)]] [] := by
  refine LCall.of_body tOk Try.func106 rfl (c := (.seq (Rg Try.f106 0) (.seq (.seq (Rg Try.f106 1) (.cond (.tmp 10) (.seq (Rg Try.f106 2) .ret) .skip)) (.seq (.seq (Rg Try.f106 3) (.block 0 (.loop (.seq (.seq (Rg Try.f106 4) (.cond (.tmp 14) .skip (.exit 0))) (.seq (.block 1 (.seq (Rd Try.f106 6) (.cond (.tmp 26) (.seq (Rg Try.f106 7) .ret) .skip))) (Rg Try.f106 5)))))) (.seq (Rg Try.f106 8) .ret))))) kr (Nat.le_of_ble_eq_true kr) 0 (rs := [.tmp 4]) rfl [] .nil [(false, [.lit (.bool r)])] [] [] fun cx => ?_
  show Tr _ _ _ ⟨27, 0, [sC 0 (cF 8 x0 Pt.row), sC 1 (cF 8 x1 Pt.row)], []⟩ _
  unfold laws_eqPtSF at H
  refine Tr.rgn tOk 1 19 0 kr kr ?_
  refine Tr.seq ?_
  refine Tr.rs ?_
  refine LAt.runU tOk 1 kr ?_
  refine LAt.lenE tOk (t := 55) (ty := 3) (e := 114) (x := (.tmp 6)) (d := 7) (g := none) ⟨(.slot 6), [], 0, false, 8, (CV.frzEs (x0.map Pt.row))⟩ (x0).length _ kr kr kr kr kr (frz_len _ _) rfl ?_
  refine LAt.runU tOk 1 kr ?_
  refine LAt.lenE tOk (t := 55) (ty := 3) (e := 114) (x := (.tmp 8)) (d := 9) (g := none) ⟨(.slot 8), [], 0, false, 8, (CV.frzEs (x1.map Pt.row))⟩ (x1).length _ kr kr kr kr kr (frz_len _ _) rfl ?_
  refine LAt.runU tOk 1 kr ?_
  refine LAt.doneM 1043 0 kr ?_
  cases h1 : ((x0.length : Int) != (x1.length : Int))
  · have H := bifF h1 H
    refine Tr.cF h1 kr ?_
    refine Tr.skip ?_
    show Tr _ _ _ _ _
    refine Tr.seq ?_
    refine Tr.rgn tOk 1 51 0 kr kr ?_
    obtain ⟨o2, eo2, Ho2⟩ := bind_some H
    clear H
    refine Tr.mid (ι := Unit) (fun v => ⟨27, 0, [sB 4 false], []⟩) (fun v => laws_eqPtS_J1 n = some r) ?_ ?_
    · refine Tr.block ?_
      refine Tr.loop (ι := Nat × (Int)) (fun v => ⟨27, 0, [sI 5 v.2, sB 4 false, sC 0 (cF 8 x0 Pt.row), sC 1 (cF 8 x1 Pt.row)], []⟩) (fun v => laws_eqPtS_L2 n v.1 x0 x1 v.2 = some o2) (fun v => v.1) (n, 0) eo2 (St.sub_of [5, 4, 0, 1] [] kr) ?_
      rintro ⟨mo2, y1⟩ H
      have H : laws_eqPtS_L2 n mo2 x0 x1 y1 = some o2 := H
      obtain _ | mo2 := mo2
      · cases (show (none : Option _) = some o2 from H)
      rw [laws_eqPtS_L2] at H
      refine Tr.seq ?_
      refine Tr.rs ?_
      refine LAt.runU tOk 2 kr ?_
      refine LAt.lenE tOk (t := 55) (ty := 3) (e := 114) (x := (.tmp 12)) (d := 13) (g := none) ⟨(.slot 12), [], 0, false, 8, (CV.frzEs (x0.map Pt.row))⟩ (x0).length _ kr kr kr kr kr (frz_len _ _) rfl ?_
      refine LAt.runU tOk 1 kr ?_
      refine LAt.doneM 30771 0 kr ?_
      cases h2 : (decide (y1 < (x0.length : Int)))
      · have H := bifF h2 H
        refine Tr.cF h2 kr ?_
        refine Tr.exit ?_
        refine And.intro (fun _ => ?_) (fun h => absurd rfl h)
        have H := Option.some.inj H
        subst H
        have H := Ho2
        dsimp only at H
        exact Exists.intro () (And.intro H (St.sub_of [4] [] kr))
      have H := bifT h2 H
      refine Tr.cT h2 kr ?_
      refine Tr.skip ?_
      show Tr _ _ _ _ _
      refine Tr.seq ?_
      refine Tr.block ?_
      obtain ⟨v3, ev3, H⟩ := bind_some H
      obtain ⟨v4, ev4, H⟩ := bind_some H
      obtain ⟨r5, er5, H⟩ := bind_some H
      refine Tr.draws mixed 10 kr ⟨27, 0, [sB 26 (!r5), sB 25 r5, sV 24 (Pt.row v4), (23, .fad ((Pt.row v4))), sI 22 y1, sC 21 (cF 8 x1 Pt.row), sV 20 (Pt.row v3), (19, .fad ((Pt.row v3))), sI 18 y1, sC 17 (cF 8 x0 Pt.row), sB 14 (decide (y1 < (x0.length : Int))), sI 13 (x0.length : Int), sC 12 (cF 8 x0 Pt.row), sI 11 y1, sI 5 y1, sB 4 false, sC 0 (cF 8 x0 Pt.row), sC 1 (cF 8 x1 Pt.row)], []⟩ (fun cx => ?_) ?_
      · refine AT.runU tOk [(0, []), (1, [])] 8 [] [1, 0] rfl kr (fun cx => ?_)
        refine AT.indexF tOk 2 (t := 55) (ty := 0) (x := (.tmp 17)) (y := (.tmp 18)) (d := 19) (g := none) ⟨(.slot 17), [], 0, false, 8, (CV.frzEs (x0.map Pt.row))⟩ y1 (Pt.row v3) _ kr kr kr kr kr kr rfl (idx_isF ev3) rfl (fun cx => ?_)
        refine AT.runU tOk [(3, []), (4, []), (5, [])] 4 [] [5, 4, 3, 2, 1, 0] rfl kr (fun cx => ?_)
        refine AT.indexF tOk 6 (t := 55) (ty := 0) (x := (.tmp 21)) (y := (.tmp 22)) (d := 23) (g := none) ⟨(.slot 21), [], 0, false, 8, (CV.frzEs (x1.map Pt.row))⟩ y1 (Pt.row v4) _ kr kr kr kr kr kr rfl (idx_isF ev4) rfl (fun cx => ?_)
        refine AT.runU tOk [(7, [])] 2 [] [7, 6, 5, 4, 3, 2, 1, 0] rfl kr (fun cx => ?_)
        refine AT.big1 tOk 8 kr kr ?_
        refine LAt.callV tOk [.rd, .rd] [] (laws_eqPt n v3 v4 r5 er5) kr kr kr kr (.inl rfl) ?_
        refine LAt.fin kr (And.intro (And.intro kr kr) ?_)
        refine AT.runU tOk [(9, [])] 0 [] [9, 8, 7, 6, 5, 4, 3, 2, 1, 0] rfl kr (fun cx => ?_)
        exact AT.done [26, 25, 24, 23, 22, 21, 20, 19, 18, 17, 14, 13, 12, 11, 5, 4, 0, 1] [] _ kr kr rfl
      refine Tr.to ⟨27, 0, [sB 26 (!r5), sB 25 r5, sV 24 (Pt.row v4), (23, .fad ((Pt.row v4))), sI 22 y1, sC 21 (cF 8 x1 Pt.row), sV 20 (Pt.row v3), (19, .fad ((Pt.row v3))), sI 18 y1, sC 17 (cF 8 x0 Pt.row), sB 14 (decide (y1 < (x0.length : Int))), sI 13 (x0.length : Int), sC 12 (cF 8 x0 Pt.row), sI 11 y1, sI 5 y1, sB 4 false, sC 0 (cF 8 x0 Pt.row), sC 1 (cF 8 x1 Pt.row)], []⟩ kr ?_
      cases h3 : (!r5)
      · have H := bifF h3 H
        refine Tr.cf kr ?_
        refine Tr.skip ?_
        show Tr _ _ _ _ _
        refine Tr.rgE tOk 3 134215731 0 kr kr ?_
        exact Exists.intro (mo2, (IntKind.wrap .i64 (y1 + 1))) (And.intro H (And.intro (Nat.lt_succ_self mo2) (St.sub_of [5, 4, 0, 1] [] kr)))
      have H := bifT h3 H
      refine Tr.ct kr ?_
      refine Tr.rgn tOk 1 134117427 0 kr kr ?_
      refine Tr.ret ?_
      have H := Option.some.inj H
      subst H
      have H := Ho2
      dsimp only at H
      have H := Option.some.inj H
      subst H
      exact Fin.of _ [(false, [cB false])] kr rfl rfl
    rintro _ H
    have H : (laws_eqPtS_J1 n) = some r := H
    unfold laws_eqPtS_J1 at H
    show Tr _ _ _ _ _
    refine Tr.rgn tOk 1 16 0 kr kr ?_
    refine Tr.ret ?_
    have H := Option.some.inj H
    subst H
    exact Fin.of _ [(false, [cB true])] kr rfl rfl
  have H := bifT h1 H
  refine Tr.cT h1 kr ?_
  refine Tr.rgn tOk 1 19 0 kr kr ?_
  refine Tr.ret ?_
  have H := Option.some.inj H
  subst H
  exact Fin.of _ [(false, [cB false])] kr rfl rfl

def laws_eqFentF (n : Nat) (x0 : Fent) (x1 : Fent) : Option (Bool) :=
  (bif (x0.Tag != x1.Tag) then (some false) else (bif (x0.Mac != x1.Mac) then (some false) else (bif (x0.Port != x1.Port) then (some false) else (bif (x0.Age != x1.Age) then (some false) else (bif (!(x0.Static == x1.Static)) then (some false) else (some true))))))
/-- loop.example/g00326/laws.eqFent -/
theorem laws_eqFent (n : Nat) (x0 : Fent) (x1 : Fent) (r : Bool) (H : laws_eqFentF n x0 x1 = some r) : LCall Try.prog 162 [.val true (CV.frzRow (Fent.row x0)), .val true (CV.frzRow (Fent.row x1))] [.val false [.lit (.bool r)]] [] := by
  refine LCall.of_body tOk Try.func162 rfl (c := (.seq (Rg Try.f162 0) (.seq (.seq (Rg Try.f162 1) (.cond (.tmp 9) (.seq (Rg Try.f162 2) .ret) .skip)) (.seq (.seq (Rg Try.f162 3) (.cond (.tmp 14) (.seq (Rg Try.f162 4) .ret) .skip)) (.seq (.seq (Rg Try.f162 5) (.cond (.tmp 19) (.seq (Rg Try.f162 6) .ret) .skip)) (.seq (.seq (Rg Try.f162 7) (.cond (.tmp 24) (.seq (Rg Try.f162 8) .ret) .skip)) (.seq (.seq (Rg Try.f162 9) (.cond (.tmp 29) (.seq (Rg Try.f162 10) .ret) .skip)) (.seq (Rg Try.f162 11) .ret)))))))) kr (Nat.le_of_ble_eq_true kr) 0 (rs := [.tmp 4]) rfl [] .nil [(false, [.lit (.bool r)])] [] [] fun cx => ?_
  show Tr _ _ _ ⟨30, 0, [sV 0 (Fent.row x0), sV 1 (Fent.row x1)], []⟩ _
  unfold laws_eqFentF at H
  refine Tr.rgn tOk 3 28 12 kr kr ?_
  refine Tr.seq ?_
  refine Tr.rgn tOk 5 540 12 kr kr ?_
  cases h1 : (x0.Tag != x1.Tag)
  · have H := bifF h1 H
    refine Tr.cF h1 kr ?_
    refine Tr.skip ?_
    show Tr _ _ _ _ _
    refine Tr.seq ?_
    refine Tr.rgn tOk 5 16412 12 kr kr ?_
    cases h2 : (x0.Mac != x1.Mac)
    · have H := bifF h2 H
      refine Tr.cF h2 kr ?_
      refine Tr.skip ?_
      show Tr _ _ _ _ _
      refine Tr.seq ?_
      refine Tr.rgn tOk 5 524316 12 kr kr ?_
      cases h3 : (x0.Port != x1.Port)
      · have H := bifF h3 H
        refine Tr.cF h3 kr ?_
        refine Tr.skip ?_
        show Tr _ _ _ _ _
        refine Tr.seq ?_
        refine Tr.rgn tOk 5 16777244 12 kr kr ?_
        cases h4 : (x0.Age != x1.Age)
        · have H := bifF h4 H
          refine Tr.cF h4 kr ?_
          refine Tr.skip ?_
          show Tr _ _ _ _ _
          refine Tr.seq ?_
          refine Tr.rgn tOk 5 536870928 0 kr kr ?_
          cases h5 : (!(x0.Static == x1.Static))
          · have H := bifF h5 H
            refine Tr.cF h5 kr ?_
            refine Tr.skip ?_
            show Tr _ _ _ _ _
            refine Tr.rgn tOk 1 16 0 kr kr ?_
            refine Tr.ret ?_
            have H := Option.some.inj H
            subst H
            exact Fin.of _ [(false, [cB true])] kr rfl rfl
          have H := bifT h5 H
          refine Tr.cT h5 kr ?_
          refine Tr.rgn tOk 1 16 0 kr kr ?_
          refine Tr.ret ?_
          have H := Option.some.inj H
          subst H
          exact Fin.of _ [(false, [cB false])] kr rfl rfl
        have H := bifT h4 H
        refine Tr.cT h4 kr ?_
        refine Tr.rgn tOk 1 28 12 kr kr ?_
        refine Tr.ret ?_
        have H := Option.some.inj H
        subst H
        exact Fin.of _ [(false, [cB false])] kr rfl rfl
      have H := bifT h3 H
      refine Tr.cT h3 kr ?_
      refine Tr.rgn tOk 1 28 12 kr kr ?_
      refine Tr.ret ?_
      have H := Option.some.inj H
      subst H
      exact Fin.of _ [(false, [cB false])] kr rfl rfl
    have H := bifT h2 H
    refine Tr.cT h2 kr ?_
    refine Tr.rgn tOk 1 28 12 kr kr ?_
    refine Tr.ret ?_
    have H := Option.some.inj H
    subst H
    exact Fin.of _ [(false, [cB false])] kr rfl rfl
  have H := bifT h1 H
  refine Tr.cT h1 kr ?_
  refine Tr.rgn tOk 1 28 12 kr kr ?_
  refine Tr.ret ?_
  have H := Option.some.inj H
  subst H
  exact Fin.of _ [(false, [cB false])] kr rfl rfl

def laws_eqFentS_J1 (n : Nat) : Option (Bool) :=
  (some true)
def laws_eqFentS_L2 (n : Nat) : Nat → (List Fent) → (List Fent) → Int → Option ((Unit) ⊕ (Bool))
  | 0, _, _, _ => none
  | mo2 + 1, x0, x1, y1 => (bif (decide (y1 < (x0.length : Int))) then ((idx x0 y1).bind fun v3 => ((idx x1 y1).bind fun v4 => ((laws_eqFentF n v3 v4).bind fun r5 => (bif (!r5) then (some (Sum.inr false)) else (laws_eqFentS_L2 n mo2 x0 x1 (IntKind.wrap .i64 (y1 + 1))))))) else (some (Sum.inl ())))
def laws_eqFentSF (n : Nat) (x0 : (List Fent)) (x1 : (List Fent)) : Option (Bool) :=
  (bif ((x0.length : Int) != (x1.length : Int)) then (some false) else ((laws_eqFentS_L2 n n x0 x1 0).bind fun o => match o with | .inl _ => (laws_eqFentS_J1 n) | .inr r => some r))
/-- loop.example/g00326/laws.eqFentS -/
theorem laws_eqFentS (n : Nat) (x0 : (List Fent)) (x1 : (List Fent)) (r : Bool) (H : laws_eqFentSF n x0 x1 = some r) : LCall Try.prog 107 [.val false [.sl false 5 (CV.frzEs (x0.map Fent.row))], .val false [.sl false 5 (CV.frzEs (x1.map Fent.row))]] [.val false [.lit (.bool r)]] [] := by
  refine LCall.of_body tOk Try.func107 rfl (c := (.seq (Rg Try.f107 0) (.seq (.seq (Rg Try.f107 1) (.cond (.tmp 10) (.seq (Rg Try.f107 2) .ret) .skip)) (.seq (.seq (Rg Try.f107 3) (.block 0 (.loop (.seq (.seq (Rg Try.f107 4) (.cond (.tmp 14) .skip (.exit 0))) (.seq (.block 1 (.seq (Rd Try.f107 6) (.cond (.tmp 26) (.seq (Rg Try.f107 7) .ret) .skip))) (Rg Try.f107 5)))))) (.seq (Rg Try.f107 8) .ret))))) kr (Nat.le_of_ble_eq_true kr) 0 (rs := [.tmp 4]) rfl [] .nil [(false, [.lit (.bool r)])] [] [] fun cx => ?_
  show Tr _ _ _ ⟨27, 0, [sC 0 (cF 5 x0 Fent.row), sC 1 (cF 5 x1 Fent.row)], []⟩ _
  unfold laws_eqFentSF at H
  refine Tr.rgn tOk 1 19 0 kr kr ?_
  refine Tr.seq ?_
  refine Tr.rs ?_
  refine LAt.runU tOk 1 kr ?_
  refine LAt.lenE tOk (t := 56) (ty := 3) (e := 141) (x := (.tmp 6)) (d := 7) (g := none) ⟨(.slot 6), [], 0, false, 5, (CV.frzEs (x0.map Fent.row))⟩ (x0).length _ kr kr kr kr kr (frz_len _ _) rfl ?_
  refine LAt.runU tOk 1 kr ?_
  refine LAt.lenE tOk (t := 56) (ty := 3) (e := 141) (x := (.tmp 8)) (d := 9) (g := none) ⟨(.slot 8), [], 0, false, 5, (CV.frzEs (x1.map Fent.row))⟩ (x1).length _ kr kr kr kr kr (frz_len _ _) rfl ?_
  refine LAt.runU tOk 1 kr ?_
  refine LAt.doneM 1043 0 kr ?_
  cases h1 : ((x0.length : Int) != (x1.length : Int))
  · have H := bifF h1 H
    refine Tr.cF h1 kr ?_
    refine Tr.skip ?_
    show Tr _ _ _ _ _
    refine Tr.seq ?_
    refine Tr.rgn tOk 1 51 0 kr kr ?_
    obtain ⟨o2, eo2, Ho2⟩ := bind_some H
    clear H
    refine Tr.mid (ι := Unit) (fun v => ⟨27, 0, [sB 4 false], []⟩) (fun v => laws_eqFentS_J1 n = some r) ?_ ?_
    · refine Tr.block ?_
      refine Tr.loop (ι := Nat × (Int)) (fun v => ⟨27, 0, [sI 5 v.2, sB 4 false, sC 0 (cF 5 x0 Fent.row), sC 1 (cF 5 x1 Fent.row)], []⟩) (fun v => laws_eqFentS_L2 n v.1 x0 x1 v.2 = some o2) (fun v => v.1) (n, 0) eo2 (St.sub_of [5, 4, 0, 1] [] kr) ?_
      rintro ⟨mo2, y1⟩ H
      have H : laws_eqFentS_L2 n mo2 x0 x1 y1 = some o2 := H
      obtain _ | mo2 := mo2
      · cases (show (none : Option _) = some o2 from H)
      rw [laws_eqFentS_L2] at H
      refine Tr.seq ?_
      refine Tr.rs ?_
      refine LAt.runU tOk 2 kr ?_
      refine LAt.lenE tOk (t := 56) (ty := 3) (e := 141) (x := (.tmp 12)) (d := 13) (g := none) ⟨(.slot 12), [], 0, false, 5, (CV.frzEs (x0.map Fent.row))⟩ (x0).length _ kr kr kr kr kr (frz_len _ _) rfl ?_
      refine LAt.runU tOk 1 kr ?_
      refine LAt.doneM 30771 0 kr ?_
      cases h2 : (decide (y1 < (x0.length : Int)))
      · have H := bifF h2 H
        refine Tr.cF h2 kr ?_
        refine Tr.exit ?_
        refine And.intro (fun _ => ?_) (fun h => absurd rfl h)
        have H := Option.some.inj H
        subst H
        have H := Ho2
        dsimp only at H
        exact Exists.intro () (And.intro H (St.sub_of [4] [] kr))
      have H := bifT h2 H
      refine Tr.cT h2 kr ?_
      refine Tr.skip ?_
      show Tr _ _ _ _ _
      refine Tr.seq ?_
      refine Tr.block ?_
      obtain ⟨v3, ev3, H⟩ := bind_some H
      obtain ⟨v4, ev4, H⟩ := bind_some H
      obtain ⟨r5, er5, H⟩ := bind_some H
      refine Tr.draws mixed 10 kr ⟨27, 0, [sB 26 (!r5), sB 25 r5, sV 24 (Fent.row v4), (23, .fad ((Fent.row v4))), sI 22 y1, sC 21 (cF 5 x1 Fent.row), sV 20 (Fent.row v3), (19, .fad ((Fent.row v3))), sI 18 y1, sC 17 (cF 5 x0 Fent.row), sB 14 (decide (y1 < (x0.length : Int))), sI 13 (x0.length : Int), sC 12 (cF 5 x0 Fent.row), sI 11 y1, sI 5 y1, sB 4 false, sC 0 (cF 5 x0 Fent.row), sC 1 (cF 5 x1 Fent.row)], []⟩ (fun cx => ?_) ?_
      · refine AT.runU tOk [(0, []), (1, [])] 8 [] [1, 0] rfl kr (fun cx => ?_)
        refine AT.indexF tOk 2 (t := 56) (ty := 0) (x := (.tmp 17)) (y := (.tmp 18)) (d := 19) (g := none) ⟨(.slot 17), [], 0, false, 5, (CV.frzEs (x0.map Fent.row))⟩ y1 (Fent.row v3) _ kr kr kr kr kr kr rfl (idx_isF ev3) rfl (fun cx => ?_)
        refine AT.runU tOk [(3, []), (4, []), (5, [])] 4 [] [5, 4, 3, 2, 1, 0] rfl kr (fun cx => ?_)
        refine AT.indexF tOk 6 (t := 56) (ty := 0) (x := (.tmp 21)) (y := (.tmp 22)) (d := 23) (g := none) ⟨(.slot 21), [], 0, false, 5, (CV.frzEs (x1.map Fent.row))⟩ y1 (Fent.row v4) _ kr kr kr kr kr kr rfl (idx_isF ev4) rfl (fun cx => ?_)
        refine AT.runU tOk [(7, [])] 2 [] [7, 6, 5, 4, 3, 2, 1, 0] rfl kr (fun cx => ?_)
        refine AT.big1 tOk 8 kr kr ?_
        refine LAt.callV tOk [.rd, .rd] [] (laws_eqFent n v3 v4 r5 er5) kr kr kr kr (.inl rfl) ?_
        refine LAt.fin kr (And.intro (And.intro kr kr) ?_)
        refine AT.runU tOk [(9, [])] 0 [] [9, 8, 7, 6, 5, 4, 3, 2, 1, 0] rfl kr (fun cx => ?_)
        exact AT.done [26, 25, 24, 23, 22, 21, 20, 19, 18, 17, 14, 13, 12, 11, 5, 4, 0, 1] [] _ kr kr rfl
      refine Tr.to ⟨27, 0, [sB 26 (!r5), sB 25 r5, sV 24 (Fent.row v4), (23, .fad ((Fent.row v4))), sI 22 y1, sC 21 (cF 5 x1 Fent.row), sV 20 (Fent.row v3), (19, .fad ((Fent.row v3))), sI 18 y1, sC 17 (cF 5 x0 Fent.row), sB 14 (decide (y1 < (x0.length : Int))), sI 13 (x0.length : Int), sC 12 (cF 5 x0 Fent.row), sI 11 y1, sI 5 y1, sB 4 false, sC 0 (cF 5 x0 Fent.row), sC 1 (cF 5 x1 Fent.row)], []⟩ kr ?_
      cases h3 : (!r5)
      · have H := bifF h3 H
        refine Tr.cf kr ?_
        refine Tr.skip ?_
        show Tr _ _ _ _ _
        refine Tr.rgE tOk 3 134215731 0 kr kr ?_
        exact Exists.intro (mo2, (IntKind.wrap .i64 (y1 + 1))) (And.intro H (And.intro (Nat.lt_succ_self mo2) (St.sub_of [5, 4, 0, 1] [] kr)))
      have H := bifT h3 H
      refine Tr.ct kr ?_
      refine Tr.rgn tOk 1 134117427 0 kr kr ?_
      refine Tr.ret ?_
      have H := Option.some.inj H
      subst H
      have H := Ho2
      dsimp only at H
      have H := Option.some.inj H
      subst H
      exact Fin.of _ [(false, [cB false])] kr rfl rfl
    rintro _ H
    have H : (laws_eqFentS_J1 n) = some r := H
    unfold laws_eqFentS_J1 at H
    show Tr _ _ _ _ _
    refine Tr.rgn tOk 1 16 0 kr kr ?_
    refine Tr.ret ?_
    have H := Option.some.inj H
    subst H
    exact Fin.of _ [(false, [cB true])] kr rfl rfl
  have H := bifT h1 H
  refine Tr.cT h1 kr ?_
  refine Tr.rgn tOk 1 19 0 kr kr ?_
  refine Tr.ret ?_
  have H := Option.some.inj H
  subst H
  exact Fin.of _ [(false, [cB false])] kr rfl rfl

def laws_eqVrowF (n : Nat) (x0 : Vrow) (x1 : Vrow) : Option (Bool) :=
  (bif (x0.Id != x1.Id) then (some false) else (bif (x0.Members != x1.Members) then (some false) else (bif (x0.Bare != x1.Bare) then (some false) else (some true))))
/-- loop.example/g00326/laws.eqVrow -/
theorem laws_eqVrow (n : Nat) (x0 : Vrow) (x1 : Vrow) (r : Bool) (H : laws_eqVrowF n x0 x1 = some r) : LCall Try.prog 181 [.val true (CV.frzRow (Vrow.row x0)), .val true (CV.frzRow (Vrow.row x1))] [.val false [.lit (.bool r)]] [] := by
  refine LCall.of_body tOk Try.func181 rfl (c := (.seq (Rg Try.f181 0) (.seq (.seq (Rg Try.f181 1) (.cond (.tmp 9) (.seq (Rg Try.f181 2) .ret) .skip)) (.seq (.seq (Rg Try.f181 3) (.cond (.tmp 14) (.seq (Rg Try.f181 4) .ret) .skip)) (.seq (.seq (Rg Try.f181 5) (.cond (.tmp 19) (.seq (Rg Try.f181 6) .ret) .skip)) (.seq (Rg Try.f181 7) .ret)))))) kr (Nat.le_of_ble_eq_true kr) 0 (rs := [.tmp 4]) rfl [] .nil [(false, [.lit (.bool r)])] [] [] fun cx => ?_
  show Tr _ _ _ ⟨20, 0, [sV 0 (Vrow.row x0), sV 1 (Vrow.row x1)], []⟩ _
  unfold laws_eqVrowF at H
  refine Tr.rgn tOk 3 28 12 kr kr ?_
  refine Tr.seq ?_
  refine Tr.rgn tOk 5 540 12 kr kr ?_
  cases h1 : (x0.Id != x1.Id)
  · have H := bifF h1 H
    refine Tr.cF h1 kr ?_
    refine Tr.skip ?_
    show Tr _ _ _ _ _
    refine Tr.seq ?_
    refine Tr.rgn tOk 5 16412 12 kr kr ?_
    cases h2 : (x0.Members != x1.Members)
    · have H := bifF h2 H
      refine Tr.cF h2 kr ?_
      refine Tr.skip ?_
      show Tr _ _ _ _ _
      refine Tr.seq ?_
      refine Tr.rgn tOk 5 524304 0 kr kr ?_
      cases h3 : (x0.Bare != x1.Bare)
      · have H := bifF h3 H
        refine Tr.cF h3 kr ?_
        refine Tr.skip ?_
        show Tr _ _ _ _ _
        refine Tr.rgn tOk 1 16 0 kr kr ?_
        refine Tr.ret ?_
        have H := Option.some.inj H
        subst H
        exact Fin.of _ [(false, [cB true])] kr rfl rfl
      have H := bifT h3 H
      refine Tr.cT h3 kr ?_
      refine Tr.rgn tOk 1 16 0 kr kr ?_
      refine Tr.ret ?_
      have H := Option.some.inj H
      subst H
      exact Fin.of _ [(false, [cB false])] kr rfl rfl
    have H := bifT h2 H
    refine Tr.cT h2 kr ?_
    refine Tr.rgn tOk 1 28 12 kr kr ?_
    refine Tr.ret ?_
    have H := Option.some.inj H
    subst H
    exact Fin.of _ [(false, [cB false])] kr rfl rfl
  have H := bifT h1 H
  refine Tr.cT h1 kr ?_
  refine Tr.rgn tOk 1 28 12 kr kr ?_
  refine Tr.ret ?_
  have H := Option.some.inj H
  subst H
  exact Fin.of _ [(false, [cB false])] kr rfl rfl

def laws_eqVrowS_J1 (n : Nat) : Option (Bool) :=
  (some true)
def laws_eqVrowS_L2 (n : Nat) : Nat → (List Vrow) → (List Vrow) → Int → Option ((Unit) ⊕ (Bool))
  | 0, _, _, _ => none
  | mo2 + 1, x0, x1, y1 => (bif (decide (y1 < (x0.length : Int))) then ((idx x0 y1).bind fun v3 => ((idx x1 y1).bind fun v4 => ((laws_eqVrowF n v3 v4).bind fun r5 => (bif (!r5) then (some (Sum.inr false)) else (laws_eqVrowS_L2 n mo2 x0 x1 (IntKind.wrap .i64 (y1 + 1))))))) else (some (Sum.inl ())))
def laws_eqVrowSF (n : Nat) (x0 : (List Vrow)) (x1 : (List Vrow)) : Option (Bool) :=
  (bif ((x0.length : Int) != (x1.length : Int)) then (some false) else ((laws_eqVrowS_L2 n n x0 x1 0).bind fun o => match o with | .inl _ => (laws_eqVrowS_J1 n) | .inr r => some r))
/-- loop.example/g00326/laws.eqVrowS -/
theorem laws_eqVrowS (n : Nat) (x0 : (List Vrow)) (x1 : (List Vrow)) (r : Bool) (H : laws_eqVrowSF n x0 x1 = some r) : LCall Try.prog 163 [.val false [.sl false 3 (CV.frzEs (x0.map Vrow.row))], .val false [.sl false 3 (CV.frzEs (x1.map Vrow.row))]] [.val false [.lit (.bool r)]] [] := by
  refine LCall.of_body tOk Try.func163 rfl (c := (.seq (Rg Try.f163 0) (.seq (.seq (Rg Try.f163 1) (.cond (.tmp 10) (.seq (Rg Try.f163 2) .ret) .skip)) (.seq (.seq (Rg Try.f163 3) (.block 0 (.loop (.seq (.seq (Rg Try.f163 4) (.cond (.tmp 14) .skip (.exit 0))) (.seq (.block 1 (.seq (Rd Try.f163 6) (.cond (.tmp 26) (.seq (Rg Try.f163 7) .ret) .skip))) (Rg Try.f163 5)))))) (.seq (Rg Try.f163 8) .ret))))) kr (Nat.le_of_ble_eq_true kr) 0 (rs := [.tmp 4]) rfl [] .nil [(false, [.lit (.bool r)])] [] [] fun cx => ?_
  show Tr _ _ _ ⟨27, 0, [sC 0 (cF 3 x0 Vrow.row), sC 1 (cF 3 x1 Vrow.row)], []⟩ _
  unfold laws_eqVrowSF at H
  refine Tr.rgn tOk 1 19 0 kr kr ?_
  refine Tr.seq ?_
  refine Tr.rs ?_
  refine LAt.runU tOk 1 kr ?_
  refine LAt.lenE tOk (t := 57) (ty := 3) (e := 138) (x := (.tmp 6)) (d := 7) (g := none) ⟨(.slot 6), [], 0, false, 3, (CV.frzEs (x0.map Vrow.row))⟩ (x0).length _ kr kr kr kr kr (frz_len _ _) rfl ?_
  refine LAt.runU tOk 1 kr ?_
  refine LAt.lenE tOk (t := 57) (ty := 3) (e := 138) (x := (.tmp 8)) (d := 9) (g := none) ⟨(.slot 8), [], 0, false, 3, (CV.frzEs (x1.map Vrow.row))⟩ (x1).length _ kr kr kr kr kr (frz_len _ _) rfl ?_
  refine LAt.runU tOk 1 kr ?_
  refine LAt.doneM 1043 0 kr ?_
  cases h1 : ((x0.length : Int) != (x1.length : Int))
  · have H := bifF h1 H
    refine Tr.cF h1 kr ?_
    refine Tr.skip ?_
    show Tr _ _ _ _ _
    refine Tr.seq ?_
    refine Tr.rgn tOk 1 51 0 kr kr ?_
    obtain ⟨o2, eo2, Ho2⟩ := bind_some H
    clear H
    refine Tr.mid (ι := Unit) (fun v => ⟨27, 0, [sB 4 false], []⟩) (fun v => laws_eqVrowS_J1 n = some r) ?_ ?_
    · refine Tr.block ?_
      refine Tr.loop (ι := Nat × (Int)) (fun v => ⟨27, 0, [sI 5 v.2, sB 4 false, sC 0 (cF 3 x0 Vrow.row), sC 1 (cF 3 x1 Vrow.row)], []⟩) (fun v => laws_eqVrowS_L2 n v.1 x0 x1 v.2 = some o2) (fun v => v.1) (n, 0) eo2 (St.sub_of [5, 4, 0, 1] [] kr) ?_
      rintro ⟨mo2, y1⟩ H
      have H : laws_eqVrowS_L2 n mo2 x0 x1 y1 = some o2 := H
      obtain _ | mo2 := mo2
      · cases (show (none : Option _) = some o2 from H)
      rw [laws_eqVrowS_L2] at H
      refine Tr.seq ?_
      refine Tr.rs ?_
      refine LAt.runU tOk 2 kr ?_
      refine LAt.lenE tOk (t := 57) (ty := 3) (e := 138) (x := (.tmp 12)) (d := 13) (g := none) ⟨(.slot 12), [], 0, false, 3, (CV.frzEs (x0.map Vrow.row))⟩ (x0).length _ kr kr kr kr kr (frz_len _ _) rfl ?_
      refine LAt.runU tOk 1 kr ?_
      refine LAt.doneM 30771 0 kr ?_
      cases h2 : (decide (y1 < (x0.length : Int)))
      · have H := bifF h2 H
        refine Tr.cF h2 kr ?_
        refine Tr.exit ?_
        refine And.intro (fun _ => ?_) (fun h => absurd rfl h)
        have H := Option.some.inj H
        subst H
        have H := Ho2
        dsimp only at H
        exact Exists.intro () (And.intro H (St.sub_of [4] [] kr))
      have H := bifT h2 H
      refine Tr.cT h2 kr ?_
      refine Tr.skip ?_
      show Tr _ _ _ _ _
      refine Tr.seq ?_
      refine Tr.block ?_
      obtain ⟨v3, ev3, H⟩ := bind_some H
      obtain ⟨v4, ev4, H⟩ := bind_some H
      obtain ⟨r5, er5, H⟩ := bind_some H
      refine Tr.draws mixed 10 kr ⟨27, 0, [sB 26 (!r5), sB 25 r5, sV 24 (Vrow.row v4), (23, .fad ((Vrow.row v4))), sI 22 y1, sC 21 (cF 3 x1 Vrow.row), sV 20 (Vrow.row v3), (19, .fad ((Vrow.row v3))), sI 18 y1, sC 17 (cF 3 x0 Vrow.row), sB 14 (decide (y1 < (x0.length : Int))), sI 13 (x0.length : Int), sC 12 (cF 3 x0 Vrow.row), sI 11 y1, sI 5 y1, sB 4 false, sC 0 (cF 3 x0 Vrow.row), sC 1 (cF 3 x1 Vrow.row)], []⟩ (fun cx => ?_) ?_
      · refine AT.runU tOk [(0, []), (1, [])] 8 [] [1, 0] rfl kr (fun cx => ?_)
        refine AT.indexF tOk 2 (t := 57) (ty := 0) (x := (.tmp 17)) (y := (.tmp 18)) (d := 19) (g := none) ⟨(.slot 17), [], 0, false, 3, (CV.frzEs (x0.map Vrow.row))⟩ y1 (Vrow.row v3) _ kr kr kr kr kr kr rfl (idx_isF ev3) rfl (fun cx => ?_)
        refine AT.runU tOk [(3, []), (4, []), (5, [])] 4 [] [5, 4, 3, 2, 1, 0] rfl kr (fun cx => ?_)
        refine AT.indexF tOk 6 (t := 57) (ty := 0) (x := (.tmp 21)) (y := (.tmp 22)) (d := 23) (g := none) ⟨(.slot 21), [], 0, false, 3, (CV.frzEs (x1.map Vrow.row))⟩ y1 (Vrow.row v4) _ kr kr kr kr kr kr rfl (idx_isF ev4) rfl (fun cx => ?_)
        refine AT.runU tOk [(7, [])] 2 [] [7, 6, 5, 4, 3, 2, 1, 0] rfl kr (fun cx => ?_)
        refine AT.big1 tOk 8 kr kr ?_
        refine LAt.callV tOk [.rd, .rd] [] (laws_eqVrow n v3 v4 r5 er5) kr kr kr kr (.inl rfl) ?_
        refine LAt.fin kr (And.intro (And.intro kr kr) ?_)
        refine AT.runU tOk [(9, [])] 0 [] [9, 8, 7, 6, 5, 4, 3, 2, 1, 0] rfl kr (fun cx => ?_)
        exact AT.done [26, 25, 24, 23, 22, 21, 20, 19, 18, 17, 14, 13, 12, 11, 5, 4, 0, 1] [] _ kr kr rfl
      refine Tr.to ⟨27, 0, [sB 26 (!r5), sB 25 r5, sV 24 (Vrow.row v4), (23, .fad ((Vrow.row v4))), sI 22 y1, sC 21 (cF 3 x1 Vrow.row), sV 20 (Vrow.row v3), (19, .fad ((Vrow.row v3))), sI 18 y1, sC 17 (cF 3 x0 Vrow.row), sB 14 (decide (y1 < (x0.length : Int))), sI 13 (x0.length : Int), sC 12 (cF 3 x0 Vrow.row), sI 11 y1, sI 5 y1, sB 4 false, sC 0 (cF 3 x0 Vrow.row), sC 1 (cF 3 x1 Vrow.row)], []⟩ kr ?_
      cases h3 : (!r5)
      · have H := bifF h3 H
        refine Tr.cf kr ?_
        refine Tr.skip ?_
        show Tr _ _ _ _ _
        refine Tr.rgE tOk 3 134215731 0 kr kr ?_
        exact Exists.intro (mo2, (IntKind.wrap .i64 (y1 + 1))) (And.intro H (And.intro (Nat.lt_succ_self mo2) (St.sub_of [5, 4, 0, 1] [] kr)))
      have H := bifT h3 H
      refine Tr.ct kr ?_
      refine Tr.rgn tOk 1 134117427 0 kr kr ?_
      refine Tr.ret ?_
      have H := Option.some.inj H
      subst H
      have H := Ho2
      dsimp only at H
      have H := Option.some.inj H
      subst H
      exact Fin.of _ [(false, [cB false])] kr rfl rfl
    rintro _ H
    have H : (laws_eqVrowS_J1 n) = some r := H
    unfold laws_eqVrowS_J1 at H
    show Tr _ _ _ _ _
    refine Tr.rgn tOk 1 16 0 kr kr ?_
    refine Tr.ret ?_
    have H := Option.some.inj H
    subst H
    exact Fin.of _ [(false, [cB true])] kr rfl rfl
  have H := bifT h1 H
  refine Tr.cT h1 kr ?_
  refine Tr.rgn tOk 1 19 0 kr kr ?_
  refine Tr.ret ?_
  have H := Option.some.inj H
  subst H
  exact Fin.of _ [(false, [cB false])] kr rfl rfl

def laws_eqVtabF (n : Nat) (x0 : Vtab) (x1 : Vtab) : Option (Bool) :=
  ((laws_eqVrowSF n x0.Rows x1.Rows).bind fun r1 => (bif (!r1) then (some false) else ((laws_eqIntSF n x0.Pvid x1.Pvid).bind fun r2 => (bif (!r2) then (some false) else (some true)))))
/-- loop.example/g00326/laws.eqVtab -/
theorem laws_eqVtab (n : Nat) (x0 : Vtab) (x1 : Vtab) (r : Bool) (H : laws_eqVtabF n x0 x1 = some r) : LCall Try.prog 108 [.val true (CV.frzRow (Vtab.row x0)), .val true (CV.frzRow (Vtab.row x1))] [.val false [.lit (.bool r)]] [] := by
  refine LCall.of_body tOk Try.func108 rfl (c := (.seq (Rg Try.f108 0) (.seq (.seq (Rg Try.f108 1) (.cond (.tmp 10) (.seq (Rg Try.f108 2) .ret) .skip)) (.seq (.seq (Rg Try.f108 3) (.cond (.tmp 16) (.seq (Rg Try.f108 4) .ret) .skip)) (.seq (Rg Try.f108 5) .ret))))) kr (Nat.le_of_ble_eq_true kr) 0 (rs := [.tmp 4]) rfl [] .nil [(false, [.lit (.bool r)])] [] [] fun cx => ?_
  show Tr _ _ _ ⟨17, 0, [sV 0 (CV.frzRow (Vtab.row x0)), sV 1 (CV.frzRow (Vtab.row x1))], []⟩ _
  unfold laws_eqVtabF at H
  refine Tr.rgn tOk 3 28 12 kr kr ?_
  refine Tr.seq ?_
  refine Tr.rs ?_
  refine LAt.runU tOk 4 kr ?_
  obtain ⟨r1, er1, H⟩ := bind_some H
  refine LAt.callV tOk [.rd, .rd] [] (laws_eqVrowS n x0.Rows x1.Rows r1 er1) kr kr kr kr (.inl rfl) ?_
  refine LAt.runU tOk 1 kr ?_
  refine LAt.doneM 1052 12 kr ?_
  cases h1 : (!r1)
  · have H := bifF h1 H
    refine Tr.cF h1 kr ?_
    refine Tr.skip ?_
    show Tr _ _ _ _ _
    refine Tr.seq ?_
    refine Tr.rs ?_
    refine LAt.runU tOk 4 kr ?_
    obtain ⟨r2, er2, H⟩ := bind_some H
    refine LAt.callV tOk [.rd, .rd] [] (laws_eqIntS n x0.Pvid x1.Pvid r2 er2) kr kr kr kr (.inl rfl) ?_
    refine LAt.runU tOk 1 kr ?_
    refine LAt.doneM 65552 0 kr ?_
    cases h2 : (!r2)
    · have H := bifF h2 H
      refine Tr.cF h2 kr ?_
      refine Tr.skip ?_
      show Tr _ _ _ _ _
      refine Tr.rgn tOk 1 16 0 kr kr ?_
      refine Tr.ret ?_
      have H := Option.some.inj H
      subst H
      exact Fin.of _ [(false, [cB true])] kr rfl rfl
    have H := bifT h2 H
    refine Tr.cT h2 kr ?_
    refine Tr.rgn tOk 1 16 0 kr kr ?_
    refine Tr.ret ?_
    have H := Option.some.inj H
    subst H
    exact Fin.of _ [(false, [cB false])] kr rfl rfl
  have H := bifT h1 H
  refine Tr.cT h1 kr ?_
  refine Tr.rgn tOk 1 28 12 kr kr ?_
  refine Tr.ret ?_
  have H := Option.some.inj H
  subst H
  exact Fin.of _ [(false, [cB false])] kr rfl rfl

def laws_eqBridgeF (n : Nat) (x0 : Bridge) (x1 : Bridge) : Option (Bool) :=
  (bif (x0.Id != x1.Id) then (some false) else (bif (!(x0.Name.toList == x1.Name.toList)) then (some false) else ((laws_eqPtSF n x0.Ports x1.Ports).bind fun r1 => (bif (!r1) then (some false) else ((laws_eqFentSF n x0.F x1.F).bind fun r2 => (bif (!r2) then (some false) else ((laws_eqVtabF n x0.V x1.V).bind fun r3 => (bif (!r3) then (some false) else (bif (x0.Ticks != x1.Ticks) then (some false) else (bif (x0.Parse != x1.Parse) then (some false) else (bif (x0.Word != x1.Word) then (some false) else (bif (x0.Drops != x1.Drops) then (some false) else (bif (x0.Vers != x1.Vers) then (some false) else (some true))))))))))))))
/-- loop.example/g00326/laws.eqBridge -/
theorem laws_eqBridge (n : Nat) (x0 : Bridge) (x1 : Bridge) (r : Bool) (H : laws_eqBridgeF n x0 x1 = some r) : LCall Try.prog 39 [.val true (CV.frzRow (Bridge.row x0)), .val true (CV.frzRow (Bridge.row x1))] [.val false [.lit (.bool r)]] [] := by
  refine LCall.of_body tOk Try.func39 rfl (c := (.seq (Rg Try.f39 0) (.seq (.seq (Rg Try.f39 1) (.cond (.tmp 9) (.seq (Rg Try.f39 2) .ret) .skip)) (.seq (.seq (Rg Try.f39 3) (.cond (.tmp 14) (.seq (Rg Try.f39 4) .ret) .skip)) (.seq (.seq (Rg Try.f39 5) (.cond (.tmp 20) (.seq (Rg Try.f39 6) .ret) .skip)) (.seq (.seq (Rg Try.f39 7) (.cond (.tmp 26) (.seq (Rg Try.f39 8) .ret) .skip)) (.seq (.seq (Rg Try.f39 9) (.cond (.tmp 32) (.seq (Rg Try.f39 10) .ret) .skip)) (.seq (.seq (Rg Try.f39 11) (.cond (.tmp 37) (.seq (Rg Try.f39 12) .ret) .skip)) (.seq (.seq (Rg Try.f39 13) (.cond (.tmp 42) (.seq (Rg Try.f39 14) .ret) .skip)) (.seq (.seq (Rg Try.f39 15) (.cond (.tmp 47) (.seq (Rg Try.f39 16) .ret) .skip)) (.seq (.seq (Rg Try.f39 17) (.cond (.tmp 52) (.seq (Rg Try.f39 18) .ret) .skip)) (.seq (.seq (Rg Try.f39 19) (.cond (.tmp 57) (.seq (Rg Try.f39 20) .ret) .skip)) (.seq (Rg Try.f39 21) .ret))))))))))))) kr (Nat.le_of_ble_eq_true kr) 0 (rs := [.tmp 4]) rfl [] .nil [(false, [.lit (.bool r)])] [] [] fun cx => ?_
  show Tr _ _ _ ⟨58, 0, [sV 0 (CV.frzRow (Bridge.row x0)), sV 1 (CV.frzRow (Bridge.row x1))], []⟩ _
  unfold laws_eqBridgeF at H
  refine Tr.rgn tOk 3 28 12 kr kr ?_
  refine Tr.seq ?_
  refine Tr.rgn tOk 5 540 12 kr kr ?_
  cases h1 : (x0.Id != x1.Id)
  · have H := bifF h1 H
    refine Tr.cF h1 kr ?_
    refine Tr.skip ?_
    show Tr _ _ _ _ _
    refine Tr.seq ?_
    refine Tr.rgn tOk 5 16412 12 kr kr ?_
    cases h2 : (!(x0.Name.toList == x1.Name.toList))
    · have H := bifF h2 H
      refine Tr.cF h2 kr ?_
      refine Tr.skip ?_
      show Tr _ _ _ _ _
      refine Tr.seq ?_
      refine Tr.rs ?_
      refine LAt.runU tOk 4 kr ?_
      obtain ⟨r1, er1, H⟩ := bind_some H
      refine LAt.callV tOk [.rd, .rd] [] (laws_eqPtS n x0.Ports x1.Ports r1 er1) kr kr kr kr (.inl rfl) ?_
      refine LAt.runU tOk 1 kr ?_
      refine LAt.doneM 1048604 12 kr ?_
      cases h3 : (!r1)
      · have H := bifF h3 H
        refine Tr.cF h3 kr ?_
        refine Tr.skip ?_
        show Tr _ _ _ _ _
        refine Tr.seq ?_
        refine Tr.rs ?_
        refine LAt.runU tOk 4 kr ?_
        obtain ⟨r2, er2, H⟩ := bind_some H
        refine LAt.callV tOk [.rd, .rd] [] (laws_eqFentS n x0.F x1.F r2 er2) kr kr kr kr (.inl rfl) ?_
        refine LAt.runU tOk 1 kr ?_
        refine LAt.doneM 67108892 12 kr ?_
        cases h4 : (!r2)
        · have H := bifF h4 H
          refine Tr.cF h4 kr ?_
          refine Tr.skip ?_
          show Tr _ _ _ _ _
          refine Tr.seq ?_
          refine Tr.rs ?_
          refine LAt.runU tOk 4 kr ?_
          obtain ⟨r3, er3, H⟩ := bind_some H
          refine LAt.callV tOk [.rd, .rd] [] (laws_eqVtab n x0.V x1.V r3 er3) kr kr kr kr (.inl rfl) ?_
          refine LAt.runU tOk 1 kr ?_
          refine LAt.doneM 4294967324 12 kr ?_
          cases h5 : (!r3)
          · have H := bifF h5 H
            refine Tr.cF h5 kr ?_
            refine Tr.skip ?_
            show Tr _ _ _ _ _
            refine Tr.seq ?_
            refine Tr.rgn tOk 5 137438953500 12 kr kr ?_
            refine Tr.to ⟨58, 0, [sB 37 (x0.Ticks != x1.Ticks), sB 4 false, sA 3 3 11 0, sA 2 2 11 0], [(3, (CV.frzRow (Bridge.row x1))), (2, (CV.frzRow (Bridge.row x0)))]⟩ kr ?_
            cases h6 : (x0.Ticks != x1.Ticks)
            · have H := bifF h6 H
              refine Tr.cf kr ?_
              refine Tr.skip ?_
              show Tr _ _ _ _ _
              refine Tr.seq ?_
              refine Tr.rgn tOk 5 4398046511132 12 kr kr ?_
              cases h7 : (x0.Parse != x1.Parse)
              · have H := bifF h7 H
                refine Tr.cF h7 kr ?_
                refine Tr.skip ?_
                show Tr _ _ _ _ _
                refine Tr.seq ?_
                refine Tr.rgn tOk 5 140737488355356 12 kr kr ?_
                cases h8 : (x0.Word != x1.Word)
                · have H := bifF h8 H
                  refine Tr.cF h8 kr ?_
                  refine Tr.skip ?_
                  show Tr _ _ _ _ _
                  refine Tr.seq ?_
                  refine Tr.rgn tOk 5 4503599627370524 12 kr kr ?_
                  cases h9 : (x0.Drops != x1.Drops)
                  · have H := bifF h9 H
                    refine Tr.cF h9 kr ?_
                    refine Tr.skip ?_
                    show Tr _ _ _ _ _
                    refine Tr.seq ?_
                    refine Tr.rgn tOk 5 144115188075855888 0 kr kr ?_
                    cases h10 : (x0.Vers != x1.Vers)
                    · have H := bifF h10 H
                      refine Tr.cF h10 kr ?_
                      refine Tr.skip ?_
                      show Tr _ _ _ _ _
                      refine Tr.rgn tOk 1 16 0 kr kr ?_
                      refine Tr.ret ?_
                      have H := Option.some.inj H
                      subst H
                      exact Fin.of _ [(false, [cB true])] kr rfl rfl
                    have H := bifT h10 H
                    refine Tr.cT h10 kr ?_
                    refine Tr.rgn tOk 1 16 0 kr kr ?_
                    refine Tr.ret ?_
                    have H := Option.some.inj H
                    subst H
                    exact Fin.of _ [(false, [cB false])] kr rfl rfl
                  have H := bifT h9 H
                  refine Tr.cT h9 kr ?_
                  refine Tr.rgn tOk 1 28 12 kr kr ?_
                  refine Tr.ret ?_
                  have H := Option.some.inj H
                  subst H
                  exact Fin.of _ [(false, [cB false])] kr rfl rfl
                have H := bifT h8 H
                refine Tr.cT h8 kr ?_
                refine Tr.rgn tOk 1 28 12 kr kr ?_
                refine Tr.ret ?_
                have H := Option.some.inj H
                subst H
                exact Fin.of _ [(false, [cB false])] kr rfl rfl
              have H := bifT h7 H
              refine Tr.cT h7 kr ?_
              refine Tr.rgn tOk 1 28 12 kr kr ?_
              refine Tr.ret ?_
              have H := Option.some.inj H
              subst H
              exact Fin.of _ [(false, [cB false])] kr rfl rfl
            have H := bifT h6 H
            refine Tr.ct kr ?_
            refine Tr.rgn tOk 1 28 12 kr kr ?_
            refine Tr.ret ?_
            have H := Option.some.inj H
            subst H
            exact Fin.of _ [(false, [cB false])] kr rfl rfl
          have H := bifT h5 H
          refine Tr.cT h5 kr ?_
          refine Tr.rgn tOk 1 28 12 kr kr ?_
          refine Tr.ret ?_
          have H := Option.some.inj H
          subst H
          exact Fin.of _ [(false, [cB false])] kr rfl rfl
        have H := bifT h4 H
        refine Tr.cT h4 kr ?_
        refine Tr.rgn tOk 1 28 12 kr kr ?_
        refine Tr.ret ?_
        have H := Option.some.inj H
        subst H
        exact Fin.of _ [(false, [cB false])] kr rfl rfl
      have H := bifT h3 H
      refine Tr.cT h3 kr ?_
      refine Tr.rgn tOk 1 28 12 kr kr ?_
      refine Tr.ret ?_
      have H := Option.some.inj H
      subst H
      exact Fin.of _ [(false, [cB false])] kr rfl rfl
    have H := bifT h2 H
    refine Tr.cT h2 kr ?_
    refine Tr.rgn tOk 1 28 12 kr kr ?_
    refine Tr.ret ?_
    have H := Option.some.inj H
    subst H
    exact Fin.of _ [(false, [cB false])] kr rfl rfl
  have H := bifT h1 H
  refine Tr.cT h1 kr ?_
  refine Tr.rgn tOk 1 28 12 kr kr ?_
  refine Tr.ret ?_
  have H := Option.some.inj H
  subst H
  exact Fin.of _ [(false, [cB false])] kr rfl rfl

def laws_markPtS_J1 (n : Nat) (y4 : (List Pt)) (y5 : Int) : Option (Int × (List Pt)) :=
  (some (y5, y4))
def laws_markPtS_L2 (n : Nat) : Nat → Int → (List Pt) → Int → Option (((List Pt) × Int) ⊕ (Int × (List Pt)))
  | 0, _, _, _ => none
  | mo6 + 1, y1, y2, y3 => (bif (decide (y1 < (y2.length : Int))) then (bif (decide ((3 : Int) ≠ 0)) then ((idx y2 y1).bind fun v8 => ((idx (y2.set (y1.toNat) (⟨((Int.tmod y3 3) == 0), v8.Cost, v8.Has, v8.Heard⟩ : Pt)) y1).bind fun v9 => (bif (decide ((3 : Int) ≠ 0)) then ((idx ((y2.set (y1.toNat) (⟨((Int.tmod y3 3) == 0), v8.Cost, v8.Has, v8.Heard⟩ : Pt)).set (y1.toNat) (⟨v9.Up, (IntKind.wrap .i64 (y3 + 1)), v9.Has, v9.Heard⟩ : Pt)) y1).bind fun v11 => ((idx (((y2.set (y1.toNat) (⟨((Int.tmod y3 3) == 0), v8.Cost, v8.Has, v8.Heard⟩ : Pt)).set (y1.toNat) (⟨v9.Up, (IntKind.wrap .i64 (y3 + 1)), v9.Has, v9.Heard⟩ : Pt)).set (y1.toNat) (⟨v11.Up, v11.Cost, ((Int.tmod (IntKind.wrap .i64 ((IntKind.wrap .i64 (y3 + 1)) + 1)) 3) == 0), v11.Heard⟩ : Pt)) y1).bind fun v12 => ((idx ((((y2.set (y1.toNat) (⟨((Int.tmod y3 3) == 0), v8.Cost, v8.Has, v8.Heard⟩ : Pt)).set (y1.toNat) (⟨v9.Up, (IntKind.wrap .i64 (y3 + 1)), v9.Has, v9.Heard⟩ : Pt)).set (y1.toNat) (⟨v11.Up, v11.Cost, ((Int.tmod (IntKind.wrap .i64 ((IntKind.wrap .i64 (y3 + 1)) + 1)) 3) == 0), v11.Heard⟩ : Pt)).set (y1.toNat) (⟨v12.Up, v12.Cost, v12.Has, (⟨(IntKind.wrap .i64 ((IntKind.wrap .i64 ((IntKind.wrap .i64 (y3 + 1)) + 1)) + 1)), v12.Heard.Cost, v12.Heard.Hops, v12.Heard.Bridge, v12.Heard.Port⟩ : Vec)⟩ : Pt)) y1).bind fun v13 => ((idx (((((y2.set (y1.toNat) (⟨((Int.tmod y3 3) == 0), v8.Cost, v8.Has, v8.Heard⟩ : Pt)).set (y1.toNat) (⟨v9.Up, (IntKind.wrap .i64 (y3 + 1)), v9.Has, v9.Heard⟩ : Pt)).set (y1.toNat) (⟨v11.Up, v11.Cost, ((Int.tmod (IntKind.wrap .i64 ((IntKind.wrap .i64 (y3 + 1)) + 1)) 3) == 0), v11.Heard⟩ : Pt)).set (y1.toNat) (⟨v12.Up, v12.Cost, v12.Has, (⟨(IntKind.wrap .i64 ((IntKind.wrap .i64 ((IntKind.wrap .i64 (y3 + 1)) + 1)) + 1)), v12.Heard.Cost, v12.Heard.Hops, v12.Heard.Bridge, v12.Heard.Port⟩ : Vec)⟩ : Pt)).set (y1.toNat) (⟨v13.Up, v13.Cost, v13.Has, (⟨v13.Heard.Root, (IntKind.wrap .i64 ((IntKind.wrap .i64 ((IntKind.wrap .i64 ((IntKind.wrap .i64 (y3 + 1)) + 1)) + 1)) + 1)), v13.Heard.Hops, v13.Heard.Bridge, v13.Heard.Port⟩ : Vec)⟩ : Pt)) y1).bind fun v14 => ((idx ((((((y2.set (y1.toNat) (⟨((Int.tmod y3 3) == 0), v8.Cost, v8.Has, v8.Heard⟩ : Pt)).set (y1.toNat) (⟨v9.Up, (IntKind.wrap .i64 (y3 + 1)), v9.Has, v9.Heard⟩ : Pt)).set (y1.toNat) (⟨v11.Up, v11.Cost, ((Int.tmod (IntKind.wrap .i64 ((IntKind.wrap .i64 (y3 + 1)) + 1)) 3) == 0), v11.Heard⟩ : Pt)).set (y1.toNat) (⟨v12.Up, v12.Cost, v12.Has, (⟨(IntKind.wrap .i64 ((IntKind.wrap .i64 ((IntKind.wrap .i64 (y3 + 1)) + 1)) + 1)), v12.Heard.Cost, v12.Heard.Hops, v12.Heard.Bridge, v12.Heard.Port⟩ : Vec)⟩ : Pt)).set (y1.toNat) (⟨v13.Up, v13.Cost, v13.Has, (⟨v13.Heard.Root, (IntKind.wrap .i64 ((IntKind.wrap .i64 ((IntKind.wrap .i64 ((IntKind.wrap .i64 (y3 + 1)) + 1)) + 1)) + 1)), v13.Heard.Hops, v13.Heard.Bridge, v13.Heard.Port⟩ : Vec)⟩ : Pt)).set (y1.toNat) (⟨v14.Up, v14.Cost, v14.Has, (⟨v14.Heard.Root, v14.Heard.Cost, (IntKind.wrap .i64 ((IntKind.wrap .i64 ((IntKind.wrap .i64 ((IntKind.wrap .i64 ((IntKind.wrap .i64 (y3 + 1)) + 1)) + 1)) + 1)) + 1)), v14.Heard.Bridge, v14.Heard.Port⟩ : Vec)⟩ : Pt)) y1).bind fun v15 => ((idx (((((((y2.set (y1.toNat) (⟨((Int.tmod y3 3) == 0), v8.Cost, v8.Has, v8.Heard⟩ : Pt)).set (y1.toNat) (⟨v9.Up, (IntKind.wrap .i64 (y3 + 1)), v9.Has, v9.Heard⟩ : Pt)).set (y1.toNat) (⟨v11.Up, v11.Cost, ((Int.tmod (IntKind.wrap .i64 ((IntKind.wrap .i64 (y3 + 1)) + 1)) 3) == 0), v11.Heard⟩ : Pt)).set (y1.toNat) (⟨v12.Up, v12.Cost, v12.Has, (⟨(IntKind.wrap .i64 ((IntKind.wrap .i64 ((IntKind.wrap .i64 (y3 + 1)) + 1)) + 1)), v12.Heard.Cost, v12.Heard.Hops, v12.Heard.Bridge, v12.Heard.Port⟩ : Vec)⟩ : Pt)).set (y1.toNat) (⟨v13.Up, v13.Cost, v13.Has, (⟨v13.Heard.Root, (IntKind.wrap .i64 ((IntKind.wrap .i64 ((IntKind.wrap .i64 ((IntKind.wrap .i64 (y3 + 1)) + 1)) + 1)) + 1)), v13.Heard.Hops, v13.Heard.Bridge, v13.Heard.Port⟩ : Vec)⟩ : Pt)).set (y1.toNat) (⟨v14.Up, v14.Cost, v14.Has, (⟨v14.Heard.Root, v14.Heard.Cost, (IntKind.wrap .i64 ((IntKind.wrap .i64 ((IntKind.wrap .i64 ((IntKind.wrap .i64 ((IntKind.wrap .i64 (y3 + 1)) + 1)) + 1)) + 1)) + 1)), v14.Heard.Bridge, v14.Heard.Port⟩ : Vec)⟩ : Pt)).set (y1.toNat) (⟨v15.Up, v15.Cost, v15.Has, (⟨v15.Heard.Root, v15.Heard.Cost, v15.Heard.Hops, (IntKind.wrap .i64 ((IntKind.wrap .i64 ((IntKind.wrap .i64 ((IntKind.wrap .i64 ((IntKind.wrap .i64 ((IntKind.wrap .i64 (y3 + 1)) + 1)) + 1)) + 1)) + 1)) + 1)), v15.Heard.Port⟩ : Vec)⟩ : Pt)) y1).bind fun v16 => (laws_markPtS_L2 n mo6 (IntKind.wrap .i64 (y1 + 1)) ((((((((y2.set (y1.toNat) (⟨((Int.tmod y3 3) == 0), v8.Cost, v8.Has, v8.Heard⟩ : Pt)).set (y1.toNat) (⟨v9.Up, (IntKind.wrap .i64 (y3 + 1)), v9.Has, v9.Heard⟩ : Pt)).set (y1.toNat) (⟨v11.Up, v11.Cost, ((Int.tmod (IntKind.wrap .i64 ((IntKind.wrap .i64 (y3 + 1)) + 1)) 3) == 0), v11.Heard⟩ : Pt)).set (y1.toNat) (⟨v12.Up, v12.Cost, v12.Has, (⟨(IntKind.wrap .i64 ((IntKind.wrap .i64 ((IntKind.wrap .i64 (y3 + 1)) + 1)) + 1)), v12.Heard.Cost, v12.Heard.Hops, v12.Heard.Bridge, v12.Heard.Port⟩ : Vec)⟩ : Pt)).set (y1.toNat) (⟨v13.Up, v13.Cost, v13.Has, (⟨v13.Heard.Root, (IntKind.wrap .i64 ((IntKind.wrap .i64 ((IntKind.wrap .i64 ((IntKind.wrap .i64 (y3 + 1)) + 1)) + 1)) + 1)), v13.Heard.Hops, v13.Heard.Bridge, v13.Heard.Port⟩ : Vec)⟩ : Pt)).set (y1.toNat) (⟨v14.Up, v14.Cost, v14.Has, (⟨v14.Heard.Root, v14.Heard.Cost, (IntKind.wrap .i64 ((IntKind.wrap .i64 ((IntKind.wrap .i64 ((IntKind.wrap .i64 ((IntKind.wrap .i64 (y3 + 1)) + 1)) + 1)) + 1)) + 1)), v14.Heard.Bridge, v14.Heard.Port⟩ : Vec)⟩ : Pt)).set (y1.toNat) (⟨v15.Up, v15.Cost, v15.Has, (⟨v15.Heard.Root, v15.Heard.Cost, v15.Heard.Hops, (IntKind.wrap .i64 ((IntKind.wrap .i64 ((IntKind.wrap .i64 ((IntKind.wrap .i64 ((IntKind.wrap .i64 ((IntKind.wrap .i64 (y3 + 1)) + 1)) + 1)) + 1)) + 1)) + 1)), v15.Heard.Port⟩ : Vec)⟩ : Pt)).set (y1.toNat) (⟨v16.Up, v16.Cost, v16.Has, (⟨v16.Heard.Root, v16.Heard.Cost, v16.Heard.Hops, v16.Heard.Bridge, (IntKind.wrap .i64 ((IntKind.wrap .i64 ((IntKind.wrap .i64 ((IntKind.wrap .i64 ((IntKind.wrap .i64 ((IntKind.wrap .i64 ((IntKind.wrap .i64 (y3 + 1)) + 1)) + 1)) + 1)) + 1)) + 1)) + 1))⟩ : Vec)⟩ : Pt)) (IntKind.wrap .i64 ((IntKind.wrap .i64 ((IntKind.wrap .i64 ((IntKind.wrap .i64 ((IntKind.wrap .i64 ((IntKind.wrap .i64 ((IntKind.wrap .i64 ((IntKind.wrap .i64 (y3 + 1)) + 1)) + 1)) + 1)) + 1)) + 1)) + 1)) + 1))))))))) else none))) else none) else (some (Sum.inl (y2, y3))))
def laws_markPtSF (n : Nat) (x0 : (List Pt)) (x1 : Int) : Option (Int × (List Pt)) :=
  ((laws_markPtS_L2 n n 0 x0 x1).bind fun o => match o with | .inl (y4, y5) => (laws_markPtS_J1 n y4 y5) | .inr r => some r)
/-- loop.example/g00326/laws.markPtS -/
theorem laws_markPtS (n : Nat) (x0 : (List Pt)) (x1 : Int) (r : Int × (List Pt)) (H : laws_markPtSF n x0 x1 = some r) : LCall Try.prog 109 [.io false [.sl true 8 (x0.map Pt.row)], .val false [.lit (.int .i64 x1)]] [.val false [.lit (.int .i64 r.1)]] [(0, [.sl true 8 (r.2.map Pt.row)])] := by
  refine LCall.of_body tOk Try.func109 rfl (c := (.seq (Rg Try.f109 0) (.seq (.seq (Rg Try.f109 1) (.block 0 (.loop (.seq (.seq (Rg Try.f109 2) (.cond (.tmp 9) .skip (.exit 0))) (.seq (.block 1 (.seq (Rg Try.f109 4) (.seq (Rg Try.f109 5) (.seq (Rg Try.f109 6) (.seq (Rg Try.f109 7) (.seq (Rg Try.f109 8) (.seq (Rg Try.f109 9) (.seq (Rg Try.f109 10) (.seq (Rg Try.f109 11) (.seq (Rg Try.f109 12) (.seq (Rg Try.f109 13) (.seq (Rg Try.f109 14) (.seq (Rg Try.f109 15) (.seq (Rg Try.f109 16) (.seq (Rg Try.f109 17) (.seq (Rg Try.f109 18) (Rg Try.f109 19))))))))))))))))) (Rg Try.f109 3)))))) (.seq (Rg Try.f109 20) .ret)))) kr (Nat.le_of_ble_eq_true kr) 1 (rs := [.tmp 4]) rfl [0] (by decide) [(false, [.lit (.int .i64 r.1)])] [[.sl true 8 (r.2.map Pt.row)]] [] fun cx => ?_
  show Tr _ _ _ ⟨78, 1, [sC 0 (cL 8 x0 Pt.row), sI 1 x1], []⟩ _
  unfold laws_markPtSF at H
  refine Tr.rgn tOk 1 19 0 kr kr ?_
  refine Tr.seq ?_
  refine Tr.rgn tOk 1 51 0 kr kr ?_
  obtain ⟨o6, eo6, Ho6⟩ := bind_some H
  clear H
  refine Tr.mid (ι := (List Pt) × Int) (fun v => ⟨78, 1, [sI 4 0, sC 0 (cL 8 v.1 Pt.row), sI 1 v.2], []⟩) (fun v => laws_markPtS_J1 n v.1 v.2 = some r) ?_ ?_
  · refine Tr.block ?_
    refine Tr.loop (ι := Nat × (Int × (List Pt) × Int)) (fun v => ⟨78, 1, [sI 5 v.2.1, sI 4 0, sC 0 (cL 8 v.2.2.1 Pt.row), sI 1 v.2.2.2], []⟩) (fun v => laws_markPtS_L2 n v.1 v.2.1 v.2.2.1 v.2.2.2 = some o6) (fun v => v.1) (n, (0, x0, x1)) eo6 (St.sub_of [5, 4, 0, 1] [] kr) ?_
    rintro ⟨mo6, y1, y2, y3⟩ H
    have H : laws_markPtS_L2 n mo6 y1 y2 y3 = some o6 := H
    obtain _ | mo6 := mo6
    · cases (show (none : Option _) = some o6 from H)
    rw [laws_markPtS_L2] at H
    refine Tr.seq ?_
    refine Tr.rs ?_
    refine LAt.runU tOk 2 kr ?_
    refine LAt.lenE tOk (t := 55) (ty := 3) (e := 114) (x := (.tmp 7)) (d := 8) (g := none) ⟨(.slot 0), [], 0, true, 8, (y2.map Pt.row)⟩ (y2).length _ kr kr kr kr kr (map_len _ _) rfl ?_
    refine LAt.runU tOk 1 kr ?_
    refine LAt.doneM 1011 0 kr ?_
    cases h1 : (decide (y1 < (y2.length : Int)))
    · have H := bifF h1 H
      refine Tr.cF h1 kr ?_
      refine Tr.exit ?_
      refine And.intro (fun _ => ?_) (fun h => absurd rfl h)
      have H := Option.some.inj H
      subst H
      have H := Ho6
      dsimp only at H
      exact Exists.intro (y2, y3) (And.intro H (St.sub_of [4, 0, 1] [] kr))
    have H := bifT h1 H
    refine Tr.cT h1 kr ?_
    refine Tr.skip ?_
    show Tr _ _ _ _ _
    refine Tr.seq ?_
    refine Tr.block ?_
    refine Tr.rs ?_
    refine LAt.runU tOk 3 kr ?_
    obtain ⟨hg7, H⟩ := guard_some H
    refine LAt.binC tOk (op := .rem) (t := 3) (ty := 3) (ty' := 3) (x := (.tmp 14)) (y := (.const (.int .i64 3))) (d := 15) (g := none) (.int .i64 y3) (.int .i64 3) (.int .i64 (Int.tmod y3 3)) _ kr kr kr kr kr (φ := (IntKind.i64 = IntKind.i64 ∧ (3 : Int) ≠ 0)) kr (⟨rfl, of_decide_eq_true hg7⟩) rfl ?_
    refine LAt.runU tOk 1 kr ?_
    obtain ⟨v8, ev8, H⟩ := bind_some H
    refine LAt.indexO tOk (t := 55) (ty := 0) (x := (.tmp 12)) (y := (.tmp 13)) (d := 17) (g := none) ⟨(.slot 0), [], 0, true, 8, (y2.map Pt.row)⟩ y1 (y1.toNat) (Pt.row v8) _ kr kr kr kr rfl kr (idx_isE ev8) rfl rfl ?_
    refine LAt.runU tOk 1 kr ?_
    refine LAt.storeS tOk (t := 4) (ty := 0) (ad := (.tmp 18)) (x := (.tmp 16)) (g := none) ⟨.bool, 1, 1, [.lit (.bool false)]⟩ false [cB ((Int.tmod y3 3) == 0)] 0 0 (y1.toNat) 8 0 8 y2 Pt.row v8 (⟨((Int.tmod y3 3) == 0), v8.Cost, v8.Has, v8.Heard⟩ : Pt) kr kr kr kr kr kr kr kr (idx_get ev8).2 kr kr kr kr ?_
    refine LAt.doneM 521203 0 kr ?_
    refine Tr.rgn tOk 3 2094067 0 kr kr ?_
    refine Tr.rs ?_
    refine LAt.runU tOk 3 kr ?_
    obtain ⟨v9, ev9, H⟩ := bind_some H
    refine LAt.indexO tOk (t := 55) (ty := 0) (x := (.tmp 21)) (y := (.tmp 22)) (d := 24) (g := none) ⟨(.slot 0), [], 0, true, 8, ((y2.set (y1.toNat) (⟨((Int.tmod y3 3) == 0), v8.Cost, v8.Has, v8.Heard⟩ : Pt)).map Pt.row)⟩ y1 (y1.toNat) (Pt.row v9) _ kr kr kr kr rfl kr (idx_isE ev9) rfl rfl ?_
    refine LAt.runU tOk 1 kr ?_
    refine LAt.storeS tOk (t := 3) (ty := 0) (ad := (.tmp 25)) (x := (.tmp 23)) (g := none) ⟨.int .i64, 1, 8, [.lit (.int .i64 0)]⟩ false [cI (IntKind.wrap .i64 (y3 + 1))] 0 0 (y1.toNat) 8 1 8 (y2.set (y1.toNat) (⟨((Int.tmod y3 3) == 0), v8.Cost, v8.Has, v8.Heard⟩ : Pt)) Pt.row v9 (⟨v9.Up, (IntKind.wrap .i64 (y3 + 1)), v9.Has, v9.Heard⟩ : Pt) kr kr kr kr kr kr kr kr (idx_get ev9).2 kr kr kr kr ?_
    refine LAt.doneM 67105779 0 kr ?_
    refine Tr.rgn tOk 3 268432371 0 kr kr ?_
    refine Tr.rs ?_
    refine LAt.runU tOk 3 kr ?_
    obtain ⟨hg10, H⟩ := guard_some H
    refine LAt.binC tOk (op := .rem) (t := 3) (ty := 3) (ty' := 3) (x := (.tmp 30)) (y := (.const (.int .i64 3))) (d := 31) (g := none) (.int .i64 (IntKind.wrap .i64 ((IntKind.wrap .i64 (y3 + 1)) + 1))) (.int .i64 3) (.int .i64 (Int.tmod (IntKind.wrap .i64 ((IntKind.wrap .i64 (y3 + 1)) + 1)) 3)) _ kr kr kr kr kr (φ := (IntKind.i64 = IntKind.i64 ∧ (3 : Int) ≠ 0)) kr (⟨rfl, of_decide_eq_true hg10⟩) rfl ?_
    refine LAt.runU tOk 1 kr ?_
    obtain ⟨v11, ev11, H⟩ := bind_some H
    refine LAt.indexO tOk (t := 55) (ty := 0) (x := (.tmp 28)) (y := (.tmp 29)) (d := 33) (g := none) ⟨(.slot 0), [], 0, true, 8, (((y2.set (y1.toNat) (⟨((Int.tmod y3 3) == 0), v8.Cost, v8.Has, v8.Heard⟩ : Pt)).set (y1.toNat) (⟨v9.Up, (IntKind.wrap .i64 (y3 + 1)), v9.Has, v9.Heard⟩ : Pt)).map Pt.row)⟩ y1 (y1.toNat) (Pt.row v11) _ kr kr kr kr rfl kr (idx_isE ev11) rfl rfl ?_
    refine LAt.runU tOk 1 kr ?_
    refine LAt.storeS tOk (t := 4) (ty := 0) (ad := (.tmp 34)) (x := (.tmp 32)) (g := none) ⟨.bool, 1, 1, [.lit (.bool false)]⟩ false [cB ((Int.tmod (IntKind.wrap .i64 ((IntKind.wrap .i64 (y3 + 1)) + 1)) 3) == 0)] 0 0 (y1.toNat) 8 2 8 ((y2.set (y1.toNat) (⟨((Int.tmod y3 3) == 0), v8.Cost, v8.Has, v8.Heard⟩ : Pt)).set (y1.toNat) (⟨v9.Up, (IntKind.wrap .i64 (y3 + 1)), v9.Has, v9.Heard⟩ : Pt)) Pt.row v11 (⟨v11.Up, v11.Cost, ((Int.tmod (IntKind.wrap .i64 ((IntKind.wrap .i64 (y3 + 1)) + 1)) 3) == 0), v11.Heard⟩ : Pt) kr kr kr kr kr kr kr kr (idx_get ev11).2 kr kr kr kr ?_
    refine LAt.doneM 34359735283 0 kr ?_
    refine Tr.rgn tOk 3 137438950387 0 kr kr ?_
    refine Tr.rs ?_
    refine LAt.runU tOk 3 kr ?_
    obtain ⟨v12, ev12, H⟩ := bind_some H
    refine LAt.indexO tOk (t := 55) (ty := 0) (x := (.tmp 37)) (y := (.tmp 38)) (d := 40) (g := none) ⟨(.slot 0), [], 0, true, 8, ((((y2.set (y1.toNat) (⟨((Int.tmod y3 3) == 0), v8.Cost, v8.Has, v8.Heard⟩ : Pt)).set (y1.toNat) (⟨v9.Up, (IntKind.wrap .i64 (y3 + 1)), v9.Has, v9.Heard⟩ : Pt)).set (y1.toNat) (⟨v11.Up, v11.Cost, ((Int.tmod (IntKind.wrap .i64 ((IntKind.wrap .i64 (y3 + 1)) + 1)) 3) == 0), v11.Heard⟩ : Pt)).map Pt.row)⟩ y1 (y1.toNat) (Pt.row v12) _ kr kr kr kr rfl kr (idx_isE ev12) rfl rfl ?_
    refine LAt.runU tOk 2 kr ?_
    refine LAt.storeS tOk (t := 3) (ty := 0) (ad := (.tmp 42)) (x := (.tmp 39)) (g := none) ⟨.int .i64, 1, 8, [.lit (.int .i64 0)]⟩ false [cI (IntKind.wrap .i64 ((IntKind.wrap .i64 ((IntKind.wrap .i64 (y3 + 1)) + 1)) + 1))] 0 0 (y1.toNat) 8 3 8 (((y2.set (y1.toNat) (⟨((Int.tmod y3 3) == 0), v8.Cost, v8.Has, v8.Heard⟩ : Pt)).set (y1.toNat) (⟨v9.Up, (IntKind.wrap .i64 (y3 + 1)), v9.Has, v9.Heard⟩ : Pt)).set (y1.toNat) (⟨v11.Up, v11.Cost, ((Int.tmod (IntKind.wrap .i64 ((IntKind.wrap .i64 (y3 + 1)) + 1)) 3) == 0), v11.Heard⟩ : Pt)) Pt.row v12 (⟨v12.Up, v12.Cost, v12.Has, (⟨(IntKind.wrap .i64 ((IntKind.wrap .i64 ((IntKind.wrap .i64 (y3 + 1)) + 1)) + 1)), v12.Heard.Cost, v12.Heard.Hops, v12.Heard.Bridge, v12.Heard.Port⟩ : Vec)⟩ : Pt) kr kr kr kr kr kr kr kr (idx_get ev12).2 kr kr kr kr ?_
    refine LAt.doneM 8796093019123 0 kr ?_
    refine Tr.rgn tOk 3 35184372085747 0 kr kr ?_
    refine Tr.rs ?_
    refine LAt.runU tOk 3 kr ?_
    obtain ⟨v13, ev13, H⟩ := bind_some H
    refine LAt.indexO tOk (t := 55) (ty := 0) (x := (.tmp 45)) (y := (.tmp 46)) (d := 48) (g := none) ⟨(.slot 0), [], 0, true, 8, (((((y2.set (y1.toNat) (⟨((Int.tmod y3 3) == 0), v8.Cost, v8.Has, v8.Heard⟩ : Pt)).set (y1.toNat) (⟨v9.Up, (IntKind.wrap .i64 (y3 + 1)), v9.Has, v9.Heard⟩ : Pt)).set (y1.toNat) (⟨v11.Up, v11.Cost, ((Int.tmod (IntKind.wrap .i64 ((IntKind.wrap .i64 (y3 + 1)) + 1)) 3) == 0), v11.Heard⟩ : Pt)).set (y1.toNat) (⟨v12.Up, v12.Cost, v12.Has, (⟨(IntKind.wrap .i64 ((IntKind.wrap .i64 ((IntKind.wrap .i64 (y3 + 1)) + 1)) + 1)), v12.Heard.Cost, v12.Heard.Hops, v12.Heard.Bridge, v12.Heard.Port⟩ : Vec)⟩ : Pt)).map Pt.row)⟩ y1 (y1.toNat) (Pt.row v13) _ kr kr kr kr rfl kr (idx_isE ev13) rfl rfl ?_
    refine LAt.runU tOk 2 kr ?_
    refine LAt.storeS tOk (t := 3) (ty := 0) (ad := (.tmp 50)) (x := (.tmp 47)) (g := none) ⟨.int .i64, 1, 8, [.lit (.int .i64 0)]⟩ false [cI (IntKind.wrap .i64 ((IntKind.wrap .i64 ((IntKind.wrap .i64 ((IntKind.wrap .i64 (y3 + 1)) + 1)) + 1)) + 1))] 0 0 (y1.toNat) 8 4 8 ((((y2.set (y1.toNat) (⟨((Int.tmod y3 3) == 0), v8.Cost, v8.Has, v8.Heard⟩ : Pt)).set (y1.toNat) (⟨v9.Up, (IntKind.wrap .i64 (y3 + 1)), v9.Has, v9.Heard⟩ : Pt)).set (y1.toNat) (⟨v11.Up, v11.Cost, ((Int.tmod (IntKind.wrap .i64 ((IntKind.wrap .i64 (y3 + 1)) + 1)) 3) == 0), v11.Heard⟩ : Pt)).set (y1.toNat) (⟨v12.Up, v12.Cost, v12.Has, (⟨(IntKind.wrap .i64 ((IntKind.wrap .i64 ((IntKind.wrap .i64 (y3 + 1)) + 1)) + 1)), v12.Heard.Cost, v12.Heard.Hops, v12.Heard.Bridge, v12.Heard.Port⟩ : Vec)⟩ : Pt)) Pt.row v13 (⟨v13.Up, v13.Cost, v13.Has, (⟨v13.Heard.Root, (IntKind.wrap .i64 ((IntKind.wrap .i64 ((IntKind.wrap .i64 ((IntKind.wrap .i64 (y3 + 1)) + 1)) + 1)) + 1)), v13.Heard.Hops, v13.Heard.Bridge, v13.Heard.Port⟩ : Vec)⟩ : Pt) kr kr kr kr kr kr kr kr (idx_get ev13).2 kr kr kr kr ?_
    refine LAt.doneM 2251799813682163 0 kr ?_
    refine Tr.rgn tOk 3 9007199254737907 0 kr kr ?_
    refine Tr.rs ?_
    refine LAt.runU tOk 3 kr ?_
    obtain ⟨v14, ev14, H⟩ := bind_some H
    refine LAt.indexO tOk (t := 55) (ty := 0) (x := (.tmp 53)) (y := (.tmp 54)) (d := 56) (g := none) ⟨(.slot 0), [], 0, true, 8, ((((((y2.set (y1.toNat) (⟨((Int.tmod y3 3) == 0), v8.Cost, v8.Has, v8.Heard⟩ : Pt)).set (y1.toNat) (⟨v9.Up, (IntKind.wrap .i64 (y3 + 1)), v9.Has, v9.Heard⟩ : Pt)).set (y1.toNat) (⟨v11.Up, v11.Cost, ((Int.tmod (IntKind.wrap .i64 ((IntKind.wrap .i64 (y3 + 1)) + 1)) 3) == 0), v11.Heard⟩ : Pt)).set (y1.toNat) (⟨v12.Up, v12.Cost, v12.Has, (⟨(IntKind.wrap .i64 ((IntKind.wrap .i64 ((IntKind.wrap .i64 (y3 + 1)) + 1)) + 1)), v12.Heard.Cost, v12.Heard.Hops, v12.Heard.Bridge, v12.Heard.Port⟩ : Vec)⟩ : Pt)).set (y1.toNat) (⟨v13.Up, v13.Cost, v13.Has, (⟨v13.Heard.Root, (IntKind.wrap .i64 ((IntKind.wrap .i64 ((IntKind.wrap .i64 ((IntKind.wrap .i64 (y3 + 1)) + 1)) + 1)) + 1)), v13.Heard.Hops, v13.Heard.Bridge, v13.Heard.Port⟩ : Vec)⟩ : Pt)).map Pt.row)⟩ y1 (y1.toNat) (Pt.row v14) _ kr kr kr kr rfl kr (idx_isE ev14) rfl rfl ?_
    refine LAt.runU tOk 2 kr ?_
    refine LAt.storeS tOk (t := 3) (ty := 0) (ad := (.tmp 58)) (x := (.tmp 55)) (g := none) ⟨.int .i64, 1, 8, [.lit (.int .i64 0)]⟩ false [cI (IntKind.wrap .i64 ((IntKind.wrap .i64 ((IntKind.wrap .i64 ((IntKind.wrap .i64 ((IntKind.wrap .i64 (y3 + 1)) + 1)) + 1)) + 1)) + 1))] 0 0 (y1.toNat) 8 5 8 (((((y2.set (y1.toNat) (⟨((Int.tmod y3 3) == 0), v8.Cost, v8.Has, v8.Heard⟩ : Pt)).set (y1.toNat) (⟨v9.Up, (IntKind.wrap .i64 (y3 + 1)), v9.Has, v9.Heard⟩ : Pt)).set (y1.toNat) (⟨v11.Up, v11.Cost, ((Int.tmod (IntKind.wrap .i64 ((IntKind.wrap .i64 (y3 + 1)) + 1)) 3) == 0), v11.Heard⟩ : Pt)).set (y1.toNat) (⟨v12.Up, v12.Cost, v12.Has, (⟨(IntKind.wrap .i64 ((IntKind.wrap .i64 ((IntKind.wrap .i64 (y3 + 1)) + 1)) + 1)), v12.Heard.Cost, v12.Heard.Hops, v12.Heard.Bridge, v12.Heard.Port⟩ : Vec)⟩ : Pt)).set (y1.toNat) (⟨v13.Up, v13.Cost, v13.Has, (⟨v13.Heard.Root, (IntKind.wrap .i64 ((IntKind.wrap .i64 ((IntKind.wrap .i64 ((IntKind.wrap .i64 (y3 + 1)) + 1)) + 1)) + 1)), v13.Heard.Hops, v13.Heard.Bridge, v13.Heard.Port⟩ : Vec)⟩ : Pt)) Pt.row v14 (⟨v14.Up, v14.Cost, v14.Has, (⟨v14.Heard.Root, v14.Heard.Cost, (IntKind.wrap .i64 ((IntKind.wrap .i64 ((IntKind.wrap .i64 ((IntKind.wrap .i64 ((IntKind.wrap .i64 (y3 + 1)) + 1)) + 1)) + 1)) + 1)), v14.Heard.Bridge, v14.Heard.Port⟩ : Vec)⟩ : Pt) kr kr kr kr kr kr kr kr (idx_get ev14).2 kr kr kr kr ?_
    refine LAt.doneM 576460752303420403 0 kr ?_
    refine Tr.rgn tOk 3 2305843009213690867 0 kr kr ?_
    refine Tr.rs ?_
    refine LAt.runU tOk 3 kr ?_
    obtain ⟨v15, ev15, H⟩ := bind_some H
    refine LAt.indexO tOk (t := 55) (ty := 0) (x := (.tmp 61)) (y := (.tmp 62)) (d := 64) (g := none) ⟨(.slot 0), [], 0, true, 8, (((((((y2.set (y1.toNat) (⟨((Int.tmod y3 3) == 0), v8.Cost, v8.Has, v8.Heard⟩ : Pt)).set (y1.toNat) (⟨v9.Up, (IntKind.wrap .i64 (y3 + 1)), v9.Has, v9.Heard⟩ : Pt)).set (y1.toNat) (⟨v11.Up, v11.Cost, ((Int.tmod (IntKind.wrap .i64 ((IntKind.wrap .i64 (y3 + 1)) + 1)) 3) == 0), v11.Heard⟩ : Pt)).set (y1.toNat) (⟨v12.Up, v12.Cost, v12.Has, (⟨(IntKind.wrap .i64 ((IntKind.wrap .i64 ((IntKind.wrap .i64 (y3 + 1)) + 1)) + 1)), v12.Heard.Cost, v12.Heard.Hops, v12.Heard.Bridge, v12.Heard.Port⟩ : Vec)⟩ : Pt)).set (y1.toNat) (⟨v13.Up, v13.Cost, v13.Has, (⟨v13.Heard.Root, (IntKind.wrap .i64 ((IntKind.wrap .i64 ((IntKind.wrap .i64 ((IntKind.wrap .i64 (y3 + 1)) + 1)) + 1)) + 1)), v13.Heard.Hops, v13.Heard.Bridge, v13.Heard.Port⟩ : Vec)⟩ : Pt)).set (y1.toNat) (⟨v14.Up, v14.Cost, v14.Has, (⟨v14.Heard.Root, v14.Heard.Cost, (IntKind.wrap .i64 ((IntKind.wrap .i64 ((IntKind.wrap .i64 ((IntKind.wrap .i64 ((IntKind.wrap .i64 (y3 + 1)) + 1)) + 1)) + 1)) + 1)), v14.Heard.Bridge, v14.Heard.Port⟩ : Vec)⟩ : Pt)).map Pt.row)⟩ y1 (y1.toNat) (Pt.row v15) _ kr kr kr kr rfl kr (idx_isE ev15) rfl rfl ?_
    refine LAt.runU tOk 2 kr ?_
    refine LAt.storeS tOk (t := 3) (ty := 0) (ad := (.tmp 66)) (x := (.tmp 63)) (g := none) ⟨.int .i64, 1, 8, [.lit (.int .i64 0)]⟩ false [cI (IntKind.wrap .i64 ((IntKind.wrap .i64 ((IntKind.wrap .i64 ((IntKind.wrap .i64 ((IntKind.wrap .i64 ((IntKind.wrap .i64 (y3 + 1)) + 1)) + 1)) + 1)) + 1)) + 1))] 0 0 (y1.toNat) 8 6 8 ((((((y2.set (y1.toNat) (⟨((Int.tmod y3 3) == 0), v8.Cost, v8.Has, v8.Heard⟩ : Pt)).set (y1.toNat) (⟨v9.Up, (IntKind.wrap .i64 (y3 + 1)), v9.Has, v9.Heard⟩ : Pt)).set (y1.toNat) (⟨v11.Up, v11.Cost, ((Int.tmod (IntKind.wrap .i64 ((IntKind.wrap .i64 (y3 + 1)) + 1)) 3) == 0), v11.Heard⟩ : Pt)).set (y1.toNat) (⟨v12.Up, v12.Cost, v12.Has, (⟨(IntKind.wrap .i64 ((IntKind.wrap .i64 ((IntKind.wrap .i64 (y3 + 1)) + 1)) + 1)), v12.Heard.Cost, v12.Heard.Hops, v12.Heard.Bridge, v12.Heard.Port⟩ : Vec)⟩ : Pt)).set (y1.toNat) (⟨v13.Up, v13.Cost, v13.Has, (⟨v13.Heard.Root, (IntKind.wrap .i64 ((IntKind.wrap .i64 ((IntKind.wrap .i64 ((IntKind.wrap .i64 (y3 + 1)) + 1)) + 1)) + 1)), v13.Heard.Hops, v13.Heard.Bridge, v13.Heard.Port⟩ : Vec)⟩ : Pt)).set (y1.toNat) (⟨v14.Up, v14.Cost, v14.Has, (⟨v14.Heard.Root, v14.Heard.Cost, (IntKind.wrap .i64 ((IntKind.wrap .i64 ((IntKind.wrap .i64 ((IntKind.wrap .i64 ((IntKind.wrap .i64 (y3 + 1)) + 1)) + 1)) + 1)) + 1)), v14.Heard.Bridge, v14.Heard.Port⟩ : Vec)⟩ : Pt)) Pt.row v15 (⟨v15.Up, v15.Cost, v15.Has, (⟨v15.Heard.Root, v15.Heard.Cost, v15.Heard.Hops, (IntKind.wrap .i64 ((IntKind.wrap .i64 ((IntKind.wrap .i64 ((IntKind.wrap .i64 ((IntKind.wrap .i64 ((IntKind.wrap .i64 (y3 + 1)) + 1)) + 1)) + 1)) + 1)) + 1)), v15.Heard.Port⟩ : Vec)⟩ : Pt) kr kr kr kr kr kr kr kr (idx_get ev15).2 kr kr kr kr ?_
    refine LAt.doneM 147573952589676409843 0 kr ?_
    refine Tr.rgn tOk 3 590295810358705648627 0 kr kr ?_
    refine Tr.rs ?_
    refine LAt.runU tOk 3 kr ?_
    obtain ⟨v16, ev16, H⟩ := bind_some H
    refine LAt.indexO tOk (t := 55) (ty := 0) (x := (.tmp 69)) (y := (.tmp 70)) (d := 72) (g := none) ⟨(.slot 0), [], 0, true, 8, ((((((((y2.set (y1.toNat) (⟨((Int.tmod y3 3) == 0), v8.Cost, v8.Has, v8.Heard⟩ : Pt)).set (y1.toNat) (⟨v9.Up, (IntKind.wrap .i64 (y3 + 1)), v9.Has, v9.Heard⟩ : Pt)).set (y1.toNat) (⟨v11.Up, v11.Cost, ((Int.tmod (IntKind.wrap .i64 ((IntKind.wrap .i64 (y3 + 1)) + 1)) 3) == 0), v11.Heard⟩ : Pt)).set (y1.toNat) (⟨v12.Up, v12.Cost, v12.Has, (⟨(IntKind.wrap .i64 ((IntKind.wrap .i64 ((IntKind.wrap .i64 (y3 + 1)) + 1)) + 1)), v12.Heard.Cost, v12.Heard.Hops, v12.Heard.Bridge, v12.Heard.Port⟩ : Vec)⟩ : Pt)).set (y1.toNat) (⟨v13.Up, v13.Cost, v13.Has, (⟨v13.Heard.Root, (IntKind.wrap .i64 ((IntKind.wrap .i64 ((IntKind.wrap .i64 ((IntKind.wrap .i64 (y3 + 1)) + 1)) + 1)) + 1)), v13.Heard.Hops, v13.Heard.Bridge, v13.Heard.Port⟩ : Vec)⟩ : Pt)).set (y1.toNat) (⟨v14.Up, v14.Cost, v14.Has, (⟨v14.Heard.Root, v14.Heard.Cost, (IntKind.wrap .i64 ((IntKind.wrap .i64 ((IntKind.wrap .i64 ((IntKind.wrap .i64 ((IntKind.wrap .i64 (y3 + 1)) + 1)) + 1)) + 1)) + 1)), v14.Heard.Bridge, v14.Heard.Port⟩ : Vec)⟩ : Pt)).set (y1.toNat) (⟨v15.Up, v15.Cost, v15.Has, (⟨v15.Heard.Root, v15.Heard.Cost, v15.Heard.Hops, (IntKind.wrap .i64 ((IntKind.wrap .i64 ((IntKind.wrap .i64 ((IntKind.wrap .i64 ((IntKind.wrap .i64 ((IntKind.wrap .i64 (y3 + 1)) + 1)) + 1)) + 1)) + 1)) + 1)), v15.Heard.Port⟩ : Vec)⟩ : Pt)).map Pt.row)⟩ y1 (y1.toNat) (Pt.row v16) _ kr kr kr kr rfl kr (idx_isE ev16) rfl rfl ?_
    refine LAt.runU tOk 2 kr ?_
    refine LAt.storeS tOk (t := 3) (ty := 0) (ad := (.tmp 74)) (x := (.tmp 71)) (g := none) ⟨.int .i64, 1, 8, [.lit (.int .i64 0)]⟩ false [cI (IntKind.wrap .i64 ((IntKind.wrap .i64 ((IntKind.wrap .i64 ((IntKind.wrap .i64 ((IntKind.wrap .i64 ((IntKind.wrap .i64 ((IntKind.wrap .i64 (y3 + 1)) + 1)) + 1)) + 1)) + 1)) + 1)) + 1))] 0 0 (y1.toNat) 8 7 8 (((((((y2.set (y1.toNat) (⟨((Int.tmod y3 3) == 0), v8.Cost, v8.Has, v8.Heard⟩ : Pt)).set (y1.toNat) (⟨v9.Up, (IntKind.wrap .i64 (y3 + 1)), v9.Has, v9.Heard⟩ : Pt)).set (y1.toNat) (⟨v11.Up, v11.Cost, ((Int.tmod (IntKind.wrap .i64 ((IntKind.wrap .i64 (y3 + 1)) + 1)) 3) == 0), v11.Heard⟩ : Pt)).set (y1.toNat) (⟨v12.Up, v12.Cost, v12.Has, (⟨(IntKind.wrap .i64 ((IntKind.wrap .i64 ((IntKind.wrap .i64 (y3 + 1)) + 1)) + 1)), v12.Heard.Cost, v12.Heard.Hops, v12.Heard.Bridge, v12.Heard.Port⟩ : Vec)⟩ : Pt)).set (y1.toNat) (⟨v13.Up, v13.Cost, v13.Has, (⟨v13.Heard.Root, (IntKind.wrap .i64 ((IntKind.wrap .i64 ((IntKind.wrap .i64 ((IntKind.wrap .i64 (y3 + 1)) + 1)) + 1)) + 1)), v13.Heard.Hops, v13.Heard.Bridge, v13.Heard.Port⟩ : Vec)⟩ : Pt)).set (y1.toNat) (⟨v14.Up, v14.Cost, v14.Has, (⟨v14.Heard.Root, v14.Heard.Cost, (IntKind.wrap .i64 ((IntKind.wrap .i64 ((IntKind.wrap .i64 ((IntKind.wrap .i64 ((IntKind.wrap .i64 (y3 + 1)) + 1)) + 1)) + 1)) + 1)), v14.Heard.Bridge, v14.Heard.Port⟩ : Vec)⟩ : Pt)).set (y1.toNat) (⟨v15.Up, v15.Cost, v15.Has, (⟨v15.Heard.Root, v15.Heard.Cost, v15.Heard.Hops, (IntKind.wrap .i64 ((IntKind.wrap .i64 ((IntKind.wrap .i64 ((IntKind.wrap .i64 ((IntKind.wrap .i64 ((IntKind.wrap .i64 (y3 + 1)) + 1)) + 1)) + 1)) + 1)) + 1)), v15.Heard.Port⟩ : Vec)⟩ : Pt)) Pt.row v16 (⟨v16.Up, v16.Cost, v16.Has, (⟨v16.Heard.Root, v16.Heard.Cost, v16.Heard.Hops, v16.Heard.Bridge, (IntKind.wrap .i64 ((IntKind.wrap .i64 ((IntKind.wrap .i64 ((IntKind.wrap .i64 ((IntKind.wrap .i64 ((IntKind.wrap .i64 ((IntKind.wrap .i64 (y3 + 1)) + 1)) + 1)) + 1)) + 1)) + 1)) + 1))⟩ : Vec)⟩ : Pt) kr kr kr kr kr kr kr kr (idx_get ev16).2 kr kr kr kr ?_
    refine LAt.doneM 37778931862957161706483 0 kr ?_
    refine Tr.rgE tOk 3 151115727451828646835187 0 kr kr ?_
    show Tr _ _ _ _ _
    refine Tr.rgE tOk 3 151115727451828646838259 0 kr kr ?_
    exact Exists.intro (mo6, ((IntKind.wrap .i64 (y1 + 1)), ((((((((y2.set (y1.toNat) (⟨((Int.tmod y3 3) == 0), v8.Cost, v8.Has, v8.Heard⟩ : Pt)).set (y1.toNat) (⟨v9.Up, (IntKind.wrap .i64 (y3 + 1)), v9.Has, v9.Heard⟩ : Pt)).set (y1.toNat) (⟨v11.Up, v11.Cost, ((Int.tmod (IntKind.wrap .i64 ((IntKind.wrap .i64 (y3 + 1)) + 1)) 3) == 0), v11.Heard⟩ : Pt)).set (y1.toNat) (⟨v12.Up, v12.Cost, v12.Has, (⟨(IntKind.wrap .i64 ((IntKind.wrap .i64 ((IntKind.wrap .i64 (y3 + 1)) + 1)) + 1)), v12.Heard.Cost, v12.Heard.Hops, v12.Heard.Bridge, v12.Heard.Port⟩ : Vec)⟩ : Pt)).set (y1.toNat) (⟨v13.Up, v13.Cost, v13.Has, (⟨v13.Heard.Root, (IntKind.wrap .i64 ((IntKind.wrap .i64 ((IntKind.wrap .i64 ((IntKind.wrap .i64 (y3 + 1)) + 1)) + 1)) + 1)), v13.Heard.Hops, v13.Heard.Bridge, v13.Heard.Port⟩ : Vec)⟩ : Pt)).set (y1.toNat) (⟨v14.Up, v14.Cost, v14.Has, (⟨v14.Heard.Root, v14.Heard.Cost, (IntKind.wrap .i64 ((IntKind.wrap .i64 ((IntKind.wrap .i64 ((IntKind.wrap .i64 ((IntKind.wrap .i64 (y3 + 1)) + 1)) + 1)) + 1)) + 1)), v14.Heard.Bridge, v14.Heard.Port⟩ : Vec)⟩ : Pt)).set (y1.toNat) (⟨v15.Up, v15.Cost, v15.Has, (⟨v15.Heard.Root, v15.Heard.Cost, v15.Heard.Hops, (IntKind.wrap .i64 ((IntKind.wrap .i64 ((IntKind.wrap .i64 ((IntKind.wrap .i64 ((IntKind.wrap .i64 ((IntKind.wrap .i64 (y3 + 1)) + 1)) + 1)) + 1)) + 1)) + 1)), v15.Heard.Port⟩ : Vec)⟩ : Pt)).set (y1.toNat) (⟨v16.Up, v16.Cost, v16.Has, (⟨v16.Heard.Root, v16.Heard.Cost, v16.Heard.Hops, v16.Heard.Bridge, (IntKind.wrap .i64 ((IntKind.wrap .i64 ((IntKind.wrap .i64 ((IntKind.wrap .i64 ((IntKind.wrap .i64 ((IntKind.wrap .i64 ((IntKind.wrap .i64 (y3 + 1)) + 1)) + 1)) + 1)) + 1)) + 1)) + 1))⟩ : Vec)⟩ : Pt)), (IntKind.wrap .i64 ((IntKind.wrap .i64 ((IntKind.wrap .i64 ((IntKind.wrap .i64 ((IntKind.wrap .i64 ((IntKind.wrap .i64 ((IntKind.wrap .i64 ((IntKind.wrap .i64 (y3 + 1)) + 1)) + 1)) + 1)) + 1)) + 1)) + 1)) + 1)))) (And.intro H (And.intro (Nat.lt_succ_self mo6) (St.sub_of [5, 4, 0, 1] [] kr)))
  rintro ⟨y4, y5⟩ H
  have H : (laws_markPtS_J1 n y4 y5) = some r := H
  unfold laws_markPtS_J1 at H
  show Tr _ _ _ _ _
  refine Tr.rgn tOk 2 17 0 kr kr ?_
  refine Tr.ret ?_
  have H := Option.some.inj H
  subst H
  exact Fin.ofY _ [(false, [cI y5])] [false] _ [[cL 8 y4 Pt.row]] _ [] kr rfl rfl rfl kr kr kr kr rfl rfl rfl

def laws_markFentS_J1 (n : Nat) (y4 : (List Fent)) (y5 : Int) : Option (Int × (List Fent)) :=
  (some (y5, y4))
def laws_markFentS_L2 (n : Nat) : Nat → Int → (List Fent) → Int → Option (((List Fent) × Int) ⊕ (Int × (List Fent)))
  | 0, _, _, _ => none
  | mo6 + 1, y1, y2, y3 => (bif (decide (y1 < (y2.length : Int))) then ((idx y2 y1).bind fun v7 => ((idx (y2.set (y1.toNat) (⟨y3, v7.Mac, v7.Port, v7.Age, v7.Static⟩ : Fent)) y1).bind fun v8 => ((idx ((y2.set (y1.toNat) (⟨y3, v7.Mac, v7.Port, v7.Age, v7.Static⟩ : Fent)).set (y1.toNat) (⟨v8.Tag, (IntKind.wrap .i64 (y3 + 1)), v8.Port, v8.Age, v8.Static⟩ : Fent)) y1).bind fun v9 => ((idx (((y2.set (y1.toNat) (⟨y3, v7.Mac, v7.Port, v7.Age, v7.Static⟩ : Fent)).set (y1.toNat) (⟨v8.Tag, (IntKind.wrap .i64 (y3 + 1)), v8.Port, v8.Age, v8.Static⟩ : Fent)).set (y1.toNat) (⟨v9.Tag, v9.Mac, (IntKind.wrap .i64 ((IntKind.wrap .i64 (y3 + 1)) + 1)), v9.Age, v9.Static⟩ : Fent)) y1).bind fun v10 => (bif (decide ((3 : Int) ≠ 0)) then ((idx ((((y2.set (y1.toNat) (⟨y3, v7.Mac, v7.Port, v7.Age, v7.Static⟩ : Fent)).set (y1.toNat) (⟨v8.Tag, (IntKind.wrap .i64 (y3 + 1)), v8.Port, v8.Age, v8.Static⟩ : Fent)).set (y1.toNat) (⟨v9.Tag, v9.Mac, (IntKind.wrap .i64 ((IntKind.wrap .i64 (y3 + 1)) + 1)), v9.Age, v9.Static⟩ : Fent)).set (y1.toNat) (⟨v10.Tag, v10.Mac, v10.Port, (IntKind.wrap .i64 ((IntKind.wrap .i64 ((IntKind.wrap .i64 (y3 + 1)) + 1)) + 1)), v10.Static⟩ : Fent)) y1).bind fun v12 => (laws_markFentS_L2 n mo6 (IntKind.wrap .i64 (y1 + 1)) (((((y2.set (y1.toNat) (⟨y3, v7.Mac, v7.Port, v7.Age, v7.Static⟩ : Fent)).set (y1.toNat) (⟨v8.Tag, (IntKind.wrap .i64 (y3 + 1)), v8.Port, v8.Age, v8.Static⟩ : Fent)).set (y1.toNat) (⟨v9.Tag, v9.Mac, (IntKind.wrap .i64 ((IntKind.wrap .i64 (y3 + 1)) + 1)), v9.Age, v9.Static⟩ : Fent)).set (y1.toNat) (⟨v10.Tag, v10.Mac, v10.Port, (IntKind.wrap .i64 ((IntKind.wrap .i64 ((IntKind.wrap .i64 (y3 + 1)) + 1)) + 1)), v10.Static⟩ : Fent)).set (y1.toNat) (⟨v12.Tag, v12.Mac, v12.Port, v12.Age, ((Int.tmod (IntKind.wrap .i64 ((IntKind.wrap .i64 ((IntKind.wrap .i64 ((IntKind.wrap .i64 (y3 + 1)) + 1)) + 1)) + 1)) 3) == 0)⟩ : Fent)) (IntKind.wrap .i64 ((IntKind.wrap .i64 ((IntKind.wrap .i64 ((IntKind.wrap .i64 ((IntKind.wrap .i64 (y3 + 1)) + 1)) + 1)) + 1)) + 1)))) else none))))) else (some (Sum.inl (y2, y3))))
def laws_markFentSF (n : Nat) (x0 : (List Fent)) (x1 : Int) : Option (Int × (List Fent)) :=
  ((laws_markFentS_L2 n n 0 x0 x1).bind fun o => match o with | .inl (y4, y5) => (laws_markFentS_J1 n y4 y5) | .inr r => some r)
/-- loop.example/g00326/laws.markFentS -/
theorem laws_markFentS (n : Nat) (x0 : (List Fent)) (x1 : Int) (r : Int × (List Fent)) (H : laws_markFentSF n x0 x1 = some r) : LCall Try.prog 110 [.io false [.sl true 5 (x0.map Fent.row)], .val false [.lit (.int .i64 x1)]] [.val false [.lit (.int .i64 r.1)]] [(0, [.sl true 5 (r.2.map Fent.row)])] := by
  refine LCall.of_body tOk Try.func110 rfl (c := (.seq (Rg Try.f110 0) (.seq (.seq (Rg Try.f110 1) (.block 0 (.loop (.seq (.seq (Rg Try.f110 2) (.cond (.tmp 9) .skip (.exit 0))) (.seq (.block 1 (.seq (Rg Try.f110 4) (.seq (Rg Try.f110 5) (.seq (Rg Try.f110 6) (.seq (Rg Try.f110 7) (.seq (Rg Try.f110 8) (.seq (Rg Try.f110 9) (.seq (Rg Try.f110 10) (.seq (Rg Try.f110 11) (.seq (Rg Try.f110 12) (Rg Try.f110 13))))))))))) (Rg Try.f110 3)))))) (.seq (Rg Try.f110 14) .ret)))) kr (Nat.le_of_ble_eq_true kr) 1 (rs := [.tmp 4]) rfl [0] (by decide) [(false, [.lit (.int .i64 r.1)])] [[.sl true 5 (r.2.map Fent.row)]] [] fun cx => ?_
  show Tr _ _ _ ⟨50, 1, [sC 0 (cL 5 x0 Fent.row), sI 1 x1], []⟩ _
  unfold laws_markFentSF at H
  refine Tr.rgn tOk 1 19 0 kr kr ?_
  refine Tr.seq ?_
  refine Tr.rgn tOk 1 51 0 kr kr ?_
  obtain ⟨o6, eo6, Ho6⟩ := bind_some H
  clear H
  refine Tr.mid (ι := (List Fent) × Int) (fun v => ⟨50, 1, [sI 4 0, sC 0 (cL 5 v.1 Fent.row), sI 1 v.2], []⟩) (fun v => laws_markFentS_J1 n v.1 v.2 = some r) ?_ ?_
  · refine Tr.block ?_
    refine Tr.loop (ι := Nat × (Int × (List Fent) × Int)) (fun v => ⟨50, 1, [sI 5 v.2.1, sI 4 0, sC 0 (cL 5 v.2.2.1 Fent.row), sI 1 v.2.2.2], []⟩) (fun v => laws_markFentS_L2 n v.1 v.2.1 v.2.2.1 v.2.2.2 = some o6) (fun v => v.1) (n, (0, x0, x1)) eo6 (St.sub_of [5, 4, 0, 1] [] kr) ?_
    rintro ⟨mo6, y1, y2, y3⟩ H
    have H : laws_markFentS_L2 n mo6 y1 y2 y3 = some o6 := H
    obtain _ | mo6 := mo6
    · cases (show (none : Option _) = some o6 from H)
    rw [laws_markFentS_L2] at H
    refine Tr.seq ?_
    refine Tr.rs ?_
    refine LAt.runU tOk 2 kr ?_
    refine LAt.lenE tOk (t := 56) (ty := 3) (e := 141) (x := (.tmp 7)) (d := 8) (g := none) ⟨(.slot 0), [], 0, true, 5, (y2.map Fent.row)⟩ (y2).length _ kr kr kr kr kr (map_len _ _) rfl ?_
    refine LAt.runU tOk 1 kr ?_
    refine LAt.doneM 1011 0 kr ?_
    cases h1 : (decide (y1 < (y2.length : Int)))
    · have H := bifF h1 H
      refine Tr.cF h1 kr ?_
      refine Tr.exit ?_
      refine And.intro (fun _ => ?_) (fun h => absurd rfl h)
      have H := Option.some.inj H
      subst H
      have H := Ho6
      dsimp only at H
      exact Exists.intro (y2, y3) (And.intro H (St.sub_of [4, 0, 1] [] kr))
    have H := bifT h1 H
    refine Tr.cT h1 kr ?_
    refine Tr.skip ?_
    show Tr _ _ _ _ _
    refine Tr.seq ?_
    refine Tr.block ?_
    refine Tr.rs ?_
    refine LAt.runU tOk 3 kr ?_
    obtain ⟨v7, ev7, H⟩ := bind_some H
    refine LAt.indexO tOk (t := 56) (ty := 0) (x := (.tmp 12)) (y := (.tmp 13)) (d := 15) (g := none) ⟨(.slot 0), [], 0, true, 5, (y2.map Fent.row)⟩ y1 (y1.toNat) (Fent.row v7) _ kr kr kr kr rfl kr (idx_isE ev7) rfl rfl ?_
    refine LAt.runU tOk 1 kr ?_
    refine LAt.storeS tOk (t := 3) (ty := 0) (ad := (.tmp 16)) (x := (.tmp 14)) (g := none) ⟨.int .i64, 1, 8, [.lit (.int .i64 0)]⟩ false [cI y3] 0 0 (y1.toNat) 5 0 5 y2 Fent.row v7 (⟨y3, v7.Mac, v7.Port, v7.Age, v7.Static⟩ : Fent) kr kr kr kr kr kr kr kr (idx_get ev7).2 kr kr kr kr ?_
    refine LAt.doneM 127987 0 kr ?_
    refine Tr.rgn tOk 3 521203 0 kr kr ?_
    refine Tr.rs ?_
    refine LAt.runU tOk 3 kr ?_
    obtain ⟨v8, ev8, H⟩ := bind_some H
    refine LAt.indexO tOk (t := 56) (ty := 0) (x := (.tmp 19)) (y := (.tmp 20)) (d := 22) (g := none) ⟨(.slot 0), [], 0, true, 5, ((y2.set (y1.toNat) (⟨y3, v7.Mac, v7.Port, v7.Age, v7.Static⟩ : Fent)).map Fent.row)⟩ y1 (y1.toNat) (Fent.row v8) _ kr kr kr kr rfl kr (idx_isE ev8) rfl rfl ?_
    refine LAt.runU tOk 1 kr ?_
    refine LAt.storeS tOk (t := 3) (ty := 0) (ad := (.tmp 23)) (x := (.tmp 21)) (g := none) ⟨.int .i64, 1, 8, [.lit (.int .i64 0)]⟩ false [cI (IntKind.wrap .i64 (y3 + 1))] 0 0 (y1.toNat) 5 1 5 (y2.set (y1.toNat) (⟨y3, v7.Mac, v7.Port, v7.Age, v7.Static⟩ : Fent)) Fent.row v8 (⟨v8.Tag, (IntKind.wrap .i64 (y3 + 1)), v8.Port, v8.Age, v8.Static⟩ : Fent) kr kr kr kr kr kr kr kr (idx_get ev8).2 kr kr kr kr ?_
    refine LAt.doneM 16774131 0 kr ?_
    refine Tr.rgn tOk 3 67105779 0 kr kr ?_
    refine Tr.rs ?_
    refine LAt.runU tOk 3 kr ?_
    obtain ⟨v9, ev9, H⟩ := bind_some H
    refine LAt.indexO tOk (t := 56) (ty := 0) (x := (.tmp 26)) (y := (.tmp 27)) (d := 29) (g := none) ⟨(.slot 0), [], 0, true, 5, (((y2.set (y1.toNat) (⟨y3, v7.Mac, v7.Port, v7.Age, v7.Static⟩ : Fent)).set (y1.toNat) (⟨v8.Tag, (IntKind.wrap .i64 (y3 + 1)), v8.Port, v8.Age, v8.Static⟩ : Fent)).map Fent.row)⟩ y1 (y1.toNat) (Fent.row v9) _ kr kr kr kr rfl kr (idx_isE ev9) rfl rfl ?_
    refine LAt.runU tOk 1 kr ?_
    refine LAt.storeS tOk (t := 3) (ty := 0) (ad := (.tmp 30)) (x := (.tmp 28)) (g := none) ⟨.int .i64, 1, 8, [.lit (.int .i64 0)]⟩ false [cI (IntKind.wrap .i64 ((IntKind.wrap .i64 (y3 + 1)) + 1))] 0 0 (y1.toNat) 5 2 5 ((y2.set (y1.toNat) (⟨y3, v7.Mac, v7.Port, v7.Age, v7.Static⟩ : Fent)).set (y1.toNat) (⟨v8.Tag, (IntKind.wrap .i64 (y3 + 1)), v8.Port, v8.Age, v8.Static⟩ : Fent)) Fent.row v9 (⟨v9.Tag, v9.Mac, (IntKind.wrap .i64 ((IntKind.wrap .i64 (y3 + 1)) + 1)), v9.Age, v9.Static⟩ : Fent) kr kr kr kr kr kr kr kr (idx_get ev9).2 kr kr kr kr ?_
    refine LAt.doneM 2147480563 0 kr ?_
    refine Tr.rgn tOk 3 8589931507 0 kr kr ?_
    refine Tr.rs ?_
    refine LAt.runU tOk 3 kr ?_
    obtain ⟨v10, ev10, H⟩ := bind_some H
    refine LAt.indexO tOk (t := 56) (ty := 0) (x := (.tmp 33)) (y := (.tmp 34)) (d := 36) (g := none) ⟨(.slot 0), [], 0, true, 5, ((((y2.set (y1.toNat) (⟨y3, v7.Mac, v7.Port, v7.Age, v7.Static⟩ : Fent)).set (y1.toNat) (⟨v8.Tag, (IntKind.wrap .i64 (y3 + 1)), v8.Port, v8.Age, v8.Static⟩ : Fent)).set (y1.toNat) (⟨v9.Tag, v9.Mac, (IntKind.wrap .i64 ((IntKind.wrap .i64 (y3 + 1)) + 1)), v9.Age, v9.Static⟩ : Fent)).map Fent.row)⟩ y1 (y1.toNat) (Fent.row v10) _ kr kr kr kr rfl kr (idx_isE ev10) rfl rfl ?_
    refine LAt.runU tOk 1 kr ?_
    refine LAt.storeS tOk (t := 3) (ty := 0) (ad := (.tmp 37)) (x := (.tmp 35)) (g := none) ⟨.int .i64, 1, 8, [.lit (.int .i64 0)]⟩ false [cI (IntKind.wrap .i64 ((IntKind.wrap .i64 ((IntKind.wrap .i64 (y3 + 1)) + 1)) + 1))] 0 0 (y1.toNat) 5 3 5 (((y2.set (y1.toNat) (⟨y3, v7.Mac, v7.Port, v7.Age, v7.Static⟩ : Fent)).set (y1.toNat) (⟨v8.Tag, (IntKind.wrap .i64 (y3 + 1)), v8.Port, v8.Age, v8.Static⟩ : Fent)).set (y1.toNat) (⟨v9.Tag, v9.Mac, (IntKind.wrap .i64 ((IntKind.wrap .i64 (y3 + 1)) + 1)), v9.Age, v9.Static⟩ : Fent)) Fent.row v10 (⟨v10.Tag, v10.Mac, v10.Port, (IntKind.wrap .i64 ((IntKind.wrap .i64 ((IntKind.wrap .i64 (y3 + 1)) + 1)) + 1)), v10.Static⟩ : Fent) kr kr kr kr kr kr kr kr (idx_get ev10).2 kr kr kr kr ?_
    refine LAt.doneM 274877903859 0 kr ?_
    refine Tr.rgn tOk 3 1099511624691 0 kr kr ?_
    refine Tr.rs ?_
    refine LAt.runU tOk 3 kr ?_
    obtain ⟨hg11, H⟩ := guard_some H
    refine LAt.binC tOk (op := .rem) (t := 3) (ty := 3) (ty' := 3) (x := (.tmp 42)) (y := (.const (.int .i64 3))) (d := 43) (g := none) (.int .i64 (IntKind.wrap .i64 ((IntKind.wrap .i64 ((IntKind.wrap .i64 ((IntKind.wrap .i64 (y3 + 1)) + 1)) + 1)) + 1))) (.int .i64 3) (.int .i64 (Int.tmod (IntKind.wrap .i64 ((IntKind.wrap .i64 ((IntKind.wrap .i64 ((IntKind.wrap .i64 (y3 + 1)) + 1)) + 1)) + 1)) 3)) _ kr kr kr kr kr (φ := (IntKind.i64 = IntKind.i64 ∧ (3 : Int) ≠ 0)) kr (⟨rfl, of_decide_eq_true hg11⟩) rfl ?_
    refine LAt.runU tOk 1 kr ?_
    obtain ⟨v12, ev12, H⟩ := bind_some H
    refine LAt.indexO tOk (t := 56) (ty := 0) (x := (.tmp 40)) (y := (.tmp 41)) (d := 45) (g := none) ⟨(.slot 0), [], 0, true, 5, (((((y2.set (y1.toNat) (⟨y3, v7.Mac, v7.Port, v7.Age, v7.Static⟩ : Fent)).set (y1.toNat) (⟨v8.Tag, (IntKind.wrap .i64 (y3 + 1)), v8.Port, v8.Age, v8.Static⟩ : Fent)).set (y1.toNat) (⟨v9.Tag, v9.Mac, (IntKind.wrap .i64 ((IntKind.wrap .i64 (y3 + 1)) + 1)), v9.Age, v9.Static⟩ : Fent)).set (y1.toNat) (⟨v10.Tag, v10.Mac, v10.Port, (IntKind.wrap .i64 ((IntKind.wrap .i64 ((IntKind.wrap .i64 (y3 + 1)) + 1)) + 1)), v10.Static⟩ : Fent)).map Fent.row)⟩ y1 (y1.toNat) (Fent.row v12) _ kr kr kr kr rfl kr (idx_isE ev12) rfl rfl ?_
    refine LAt.runU tOk 1 kr ?_
    refine LAt.storeS tOk (t := 4) (ty := 0) (ad := (.tmp 46)) (x := (.tmp 44)) (g := none) ⟨.bool, 1, 1, [.lit (.bool false)]⟩ false [cB ((Int.tmod (IntKind.wrap .i64 ((IntKind.wrap .i64 ((IntKind.wrap .i64 ((IntKind.wrap .i64 (y3 + 1)) + 1)) + 1)) + 1)) 3) == 0)] 0 0 (y1.toNat) 5 4 5 ((((y2.set (y1.toNat) (⟨y3, v7.Mac, v7.Port, v7.Age, v7.Static⟩ : Fent)).set (y1.toNat) (⟨v8.Tag, (IntKind.wrap .i64 (y3 + 1)), v8.Port, v8.Age, v8.Static⟩ : Fent)).set (y1.toNat) (⟨v9.Tag, v9.Mac, (IntKind.wrap .i64 ((IntKind.wrap .i64 (y3 + 1)) + 1)), v9.Age, v9.Static⟩ : Fent)).set (y1.toNat) (⟨v10.Tag, v10.Mac, v10.Port, (IntKind.wrap .i64 ((IntKind.wrap .i64 ((IntKind.wrap .i64 (y3 + 1)) + 1)) + 1)), v10.Static⟩ : Fent)) Fent.row v12 (⟨v12.Tag, v12.Mac, v12.Port, v12.Age, ((Int.tmod (IntKind.wrap .i64 ((IntKind.wrap .i64 ((IntKind.wrap .i64 ((IntKind.wrap .i64 (y3 + 1)) + 1)) + 1)) + 1)) 3) == 0)⟩ : Fent) kr kr kr kr kr kr kr kr (idx_get ev12).2 kr kr kr kr ?_
    refine LAt.doneM 140737488352243 0 kr ?_
    refine Tr.rgE tOk 3 562949953418227 0 kr kr ?_
    show Tr _ _ _ _ _
    refine Tr.rgE tOk 3 562949953421299 0 kr kr ?_
    exact Exists.intro (mo6, ((IntKind.wrap .i64 (y1 + 1)), (((((y2.set (y1.toNat) (⟨y3, v7.Mac, v7.Port, v7.Age, v7.Static⟩ : Fent)).set (y1.toNat) (⟨v8.Tag, (IntKind.wrap .i64 (y3 + 1)), v8.Port, v8.Age, v8.Static⟩ : Fent)).set (y1.toNat) (⟨v9.Tag, v9.Mac, (IntKind.wrap .i64 ((IntKind.wrap .i64 (y3 + 1)) + 1)), v9.Age, v9.Static⟩ : Fent)).set (y1.toNat) (⟨v10.Tag, v10.Mac, v10.Port, (IntKind.wrap .i64 ((IntKind.wrap .i64 ((IntKind.wrap .i64 (y3 + 1)) + 1)) + 1)), v10.Static⟩ : Fent)).set (y1.toNat) (⟨v12.Tag, v12.Mac, v12.Port, v12.Age, ((Int.tmod (IntKind.wrap .i64 ((IntKind.wrap .i64 ((IntKind.wrap .i64 ((IntKind.wrap .i64 (y3 + 1)) + 1)) + 1)) + 1)) 3) == 0)⟩ : Fent)), (IntKind.wrap .i64 ((IntKind.wrap .i64 ((IntKind.wrap .i64 ((IntKind.wrap .i64 ((IntKind.wrap .i64 (y3 + 1)) + 1)) + 1)) + 1)) + 1)))) (And.intro H (And.intro (Nat.lt_succ_self mo6) (St.sub_of [5, 4, 0, 1] [] kr)))
  rintro ⟨y4, y5⟩ H
  have H : (laws_markFentS_J1 n y4 y5) = some r := H
  unfold laws_markFentS_J1 at H
  show Tr _ _ _ _ _
  refine Tr.rgn tOk 2 17 0 kr kr ?_
  refine Tr.ret ?_
  have H := Option.some.inj H
  subst H
  exact Fin.ofY _ [(false, [cI y5])] [false] _ [[cL 5 y4 Fent.row]] _ [] kr rfl rfl rfl kr kr kr kr rfl rfl rfl

def laws_markVrowS_J1 (n : Nat) (y4 : (List Vrow)) (y5 : Int) : Option (Int × (List Vrow)) :=
  (some (y5, y4))
def laws_markVrowS_L2 (n : Nat) : Nat → Int → (List Vrow) → Int → Option (((List Vrow) × Int) ⊕ (Int × (List Vrow)))
  | 0, _, _, _ => none
  | mo6 + 1, y1, y2, y3 => (bif (decide (y1 < (y2.length : Int))) then ((idx y2 y1).bind fun v7 => ((idx (y2.set (y1.toNat) (⟨y3, v7.Members, v7.Bare⟩ : Vrow)) y1).bind fun v8 => ((idx ((y2.set (y1.toNat) (⟨y3, v7.Members, v7.Bare⟩ : Vrow)).set (y1.toNat) (⟨v8.Id, (IntKind.wrap .i64 (y3 + 1)), v8.Bare⟩ : Vrow)) y1).bind fun v9 => (laws_markVrowS_L2 n mo6 (IntKind.wrap .i64 (y1 + 1)) (((y2.set (y1.toNat) (⟨y3, v7.Members, v7.Bare⟩ : Vrow)).set (y1.toNat) (⟨v8.Id, (IntKind.wrap .i64 (y3 + 1)), v8.Bare⟩ : Vrow)).set (y1.toNat) (⟨v9.Id, v9.Members, (IntKind.wrap .i64 ((IntKind.wrap .i64 (y3 + 1)) + 1))⟩ : Vrow)) (IntKind.wrap .i64 ((IntKind.wrap .i64 ((IntKind.wrap .i64 (y3 + 1)) + 1)) + 1)))))) else (some (Sum.inl (y2, y3))))
def laws_markVrowSF (n : Nat) (x0 : (List Vrow)) (x1 : Int) : Option (Int × (List Vrow)) :=
  ((laws_markVrowS_L2 n n 0 x0 x1).bind fun o => match o with | .inl (y4, y5) => (laws_markVrowS_J1 n y4 y5) | .inr r => some r)
/-- loop.example/g00326/laws.markVrowS -/
theorem laws_markVrowS (n : Nat) (x0 : (List Vrow)) (x1 : Int) (r : Int × (List Vrow)) (H : laws_markVrowSF n x0 x1 = some r) : LCall Try.prog 140 [.io false [.sl true 3 (x0.map Vrow.row)], .val false [.lit (.int .i64 x1)]] [.val false [.lit (.int .i64 r.1)]] [(0, [.sl true 3 (r.2.map Vrow.row)])] := by
  refine LCall.of_body tOk Try.func140 rfl (c := (.seq (Rg Try.f140 0) (.seq (.seq (Rg Try.f140 1) (.block 0 (.loop (.seq (.seq (Rg Try.f140 2) (.cond (.tmp 9) .skip (.exit 0))) (.seq (.block 1 (.seq (Rg Try.f140 4) (.seq (Rg Try.f140 5) (.seq (Rg Try.f140 6) (.seq (Rg Try.f140 7) (.seq (Rg Try.f140 8) (Rg Try.f140 9))))))) (Rg Try.f140 3)))))) (.seq (Rg Try.f140 10) .ret)))) kr (Nat.le_of_ble_eq_true kr) 1 (rs := [.tmp 4]) rfl [0] (by decide) [(false, [.lit (.int .i64 r.1)])] [[.sl true 3 (r.2.map Vrow.row)]] [] fun cx => ?_
  show Tr _ _ _ ⟨34, 1, [sC 0 (cL 3 x0 Vrow.row), sI 1 x1], []⟩ _
  unfold laws_markVrowSF at H
  refine Tr.rgn tOk 1 19 0 kr kr ?_
  refine Tr.seq ?_
  refine Tr.rgn tOk 1 51 0 kr kr ?_
  obtain ⟨o6, eo6, Ho6⟩ := bind_some H
  clear H
  refine Tr.mid (ι := (List Vrow) × Int) (fun v => ⟨34, 1, [sI 4 0, sC 0 (cL 3 v.1 Vrow.row), sI 1 v.2], []⟩) (fun v => laws_markVrowS_J1 n v.1 v.2 = some r) ?_ ?_
  · refine Tr.block ?_
    refine Tr.loop (ι := Nat × (Int × (List Vrow) × Int)) (fun v => ⟨34, 1, [sI 5 v.2.1, sI 4 0, sC 0 (cL 3 v.2.2.1 Vrow.row), sI 1 v.2.2.2], []⟩) (fun v => laws_markVrowS_L2 n v.1 v.2.1 v.2.2.1 v.2.2.2 = some o6) (fun v => v.1) (n, (0, x0, x1)) eo6 (St.sub_of [5, 4, 0, 1] [] kr) ?_
    rintro ⟨mo6, y1, y2, y3⟩ H
    have H : laws_markVrowS_L2 n mo6 y1 y2 y3 = some o6 := H
    obtain _ | mo6 := mo6
    · cases (show (none : Option _) = some o6 from H)
    rw [laws_markVrowS_L2] at H
    refine Tr.seq ?_
    refine Tr.rs ?_
    refine LAt.runU tOk 2 kr ?_
    refine LAt.lenE tOk (t := 57) (ty := 3) (e := 138) (x := (.tmp 7)) (d := 8) (g := none) ⟨(.slot 0), [], 0, true, 3, (y2.map Vrow.row)⟩ (y2).length _ kr kr kr kr kr (map_len _ _) rfl ?_
    refine LAt.runU tOk 1 kr ?_
    refine LAt.doneM 1011 0 kr ?_
    cases h1 : (decide (y1 < (y2.length : Int)))
    · have H := bifF h1 H
      refine Tr.cF h1 kr ?_
      refine Tr.exit ?_
      refine And.intro (fun _ => ?_) (fun h => absurd rfl h)
      have H := Option.some.inj H
      subst H
      have H := Ho6
      dsimp only at H
      exact Exists.intro (y2, y3) (And.intro H (St.sub_of [4, 0, 1] [] kr))
    have H := bifT h1 H
    refine Tr.cT h1 kr ?_
    refine Tr.skip ?_
    show Tr _ _ _ _ _
    refine Tr.seq ?_
    refine Tr.block ?_
    refine Tr.rs ?_
    refine LAt.runU tOk 3 kr ?_
    obtain ⟨v7, ev7, H⟩ := bind_some H
    refine LAt.indexO tOk (t := 57) (ty := 0) (x := (.tmp 12)) (y := (.tmp 13)) (d := 15) (g := none) ⟨(.slot 0), [], 0, true, 3, (y2.map Vrow.row)⟩ y1 (y1.toNat) (Vrow.row v7) _ kr kr kr kr rfl kr (idx_isE ev7) rfl rfl ?_
    refine LAt.runU tOk 1 kr ?_
    refine LAt.storeS tOk (t := 3) (ty := 0) (ad := (.tmp 16)) (x := (.tmp 14)) (g := none) ⟨.int .i64, 1, 8, [.lit (.int .i64 0)]⟩ false [cI y3] 0 0 (y1.toNat) 3 0 3 y2 Vrow.row v7 (⟨y3, v7.Members, v7.Bare⟩ : Vrow) kr kr kr kr kr kr kr kr (idx_get ev7).2 kr kr kr kr ?_
    refine LAt.doneM 127987 0 kr ?_
    refine Tr.rgn tOk 3 521203 0 kr kr ?_
    refine Tr.rs ?_
    refine LAt.runU tOk 3 kr ?_
    obtain ⟨v8, ev8, H⟩ := bind_some H
    refine LAt.indexO tOk (t := 57) (ty := 0) (x := (.tmp 19)) (y := (.tmp 20)) (d := 22) (g := none) ⟨(.slot 0), [], 0, true, 3, ((y2.set (y1.toNat) (⟨y3, v7.Members, v7.Bare⟩ : Vrow)).map Vrow.row)⟩ y1 (y1.toNat) (Vrow.row v8) _ kr kr kr kr rfl kr (idx_isE ev8) rfl rfl ?_
    refine LAt.runU tOk 1 kr ?_
    refine LAt.storeS tOk (t := 3) (ty := 0) (ad := (.tmp 23)) (x := (.tmp 21)) (g := none) ⟨.int .i64, 1, 8, [.lit (.int .i64 0)]⟩ false [cI (IntKind.wrap .i64 (y3 + 1))] 0 0 (y1.toNat) 3 1 3 (y2.set (y1.toNat) (⟨y3, v7.Members, v7.Bare⟩ : Vrow)) Vrow.row v8 (⟨v8.Id, (IntKind.wrap .i64 (y3 + 1)), v8.Bare⟩ : Vrow) kr kr kr kr kr kr kr kr (idx_get ev8).2 kr kr kr kr ?_
    refine LAt.doneM 16774131 0 kr ?_
    refine Tr.rgn tOk 3 67105779 0 kr kr ?_
    refine Tr.rs ?_
    refine LAt.runU tOk 3 kr ?_
    obtain ⟨v9, ev9, H⟩ := bind_some H
    refine LAt.indexO tOk (t := 57) (ty := 0) (x := (.tmp 26)) (y := (.tmp 27)) (d := 29) (g := none) ⟨(.slot 0), [], 0, true, 3, (((y2.set (y1.toNat) (⟨y3, v7.Members, v7.Bare⟩ : Vrow)).set (y1.toNat) (⟨v8.Id, (IntKind.wrap .i64 (y3 + 1)), v8.Bare⟩ : Vrow)).map Vrow.row)⟩ y1 (y1.toNat) (Vrow.row v9) _ kr kr kr kr rfl kr (idx_isE ev9) rfl rfl ?_
    refine LAt.runU tOk 1 kr ?_
    refine LAt.storeS tOk (t := 3) (ty := 0) (ad := (.tmp 30)) (x := (.tmp 28)) (g := none) ⟨.int .i64, 1, 8, [.lit (.int .i64 0)]⟩ false [cI (IntKind.wrap .i64 ((IntKind.wrap .i64 (y3 + 1)) + 1))] 0 0 (y1.toNat) 3 2 3 ((y2.set (y1.toNat) (⟨y3, v7.Members, v7.Bare⟩ : Vrow)).set (y1.toNat) (⟨v8.Id, (IntKind.wrap .i64 (y3 + 1)), v8.Bare⟩ : Vrow)) Vrow.row v9 (⟨v9.Id, v9.Members, (IntKind.wrap .i64 ((IntKind.wrap .i64 (y3 + 1)) + 1))⟩ : Vrow) kr kr kr kr kr kr kr kr (idx_get ev9).2 kr kr kr kr ?_
    refine LAt.doneM 2147480563 0 kr ?_
    refine Tr.rgE tOk 3 8589931507 0 kr kr ?_
    show Tr _ _ _ _ _
    refine Tr.rgE tOk 3 8589934579 0 kr kr ?_
    exact Exists.intro (mo6, ((IntKind.wrap .i64 (y1 + 1)), (((y2.set (y1.toNat) (⟨y3, v7.Members, v7.Bare⟩ : Vrow)).set (y1.toNat) (⟨v8.Id, (IntKind.wrap .i64 (y3 + 1)), v8.Bare⟩ : Vrow)).set (y1.toNat) (⟨v9.Id, v9.Members, (IntKind.wrap .i64 ((IntKind.wrap .i64 (y3 + 1)) + 1))⟩ : Vrow)), (IntKind.wrap .i64 ((IntKind.wrap .i64 ((IntKind.wrap .i64 (y3 + 1)) + 1)) + 1)))) (And.intro H (And.intro (Nat.lt_succ_self mo6) (St.sub_of [5, 4, 0, 1] [] kr)))
  rintro ⟨y4, y5⟩ H
  have H : (laws_markVrowS_J1 n y4 y5) = some r := H
  unfold laws_markVrowS_J1 at H
  show Tr _ _ _ _ _
  refine Tr.rgn tOk 2 17 0 kr kr ?_
  refine Tr.ret ?_
  have H := Option.some.inj H
  subst H
  exact Fin.ofY _ [(false, [cI y5])] [false] _ [[cL 3 y4 Vrow.row]] _ [] kr rfl rfl rfl kr kr kr kr rfl rfl rfl

def laws_markIntS_J1 (n : Nat) (y4 : (List Int)) (y5 : Int) : Option (Int × (List Int)) :=
  (some (y5, y4))
def laws_markIntS_L2 (n : Nat) : Nat → Int → (List Int) → Int → Option (((List Int) × Int) ⊕ (Int × (List Int)))
  | 0, _, _, _ => none
  | mo6 + 1, y1, y2, y3 => (bif (decide (y1 < (y2.length : Int))) then ((idx y2 y1).bind fun v7 => (laws_markIntS_L2 n mo6 (IntKind.wrap .i64 (y1 + 1)) (y2.set (y1.toNat) y3) (IntKind.wrap .i64 (y3 + 1)))) else (some (Sum.inl (y2, y3))))
def laws_markIntSF (n : Nat) (x0 : (List Int)) (x1 : Int) : Option (Int × (List Int)) :=
  ((laws_markIntS_L2 n n 0 x0 x1).bind fun o => match o with | .inl (y4, y5) => (laws_markIntS_J1 n y4 y5) | .inr r => some r)
/-- loop.example/g00326/laws.markIntS -/
theorem laws_markIntS (n : Nat) (x0 : (List Int)) (x1 : Int) (r : Int × (List Int)) (H : laws_markIntSF n x0 x1 = some r) : LCall Try.prog 27 [.io false [.sl true 1 (x0.map intRow)], .val false [.lit (.int .i64 x1)]] [.val false [.lit (.int .i64 r.1)]] [(0, [.sl true 1 (r.2.map intRow)])] := by
  refine LCall.of_body tOk Try.func27 rfl (c := (.seq (Rg Try.f27 0) (.seq (.seq (Rg Try.f27 1) (.block 0 (.loop (.seq (.seq (Rg Try.f27 2) (.cond (.tmp 9) .skip (.exit 0))) (.seq (.block 1 (.seq (Rg Try.f27 4) (Rg Try.f27 5))) (Rg Try.f27 3)))))) (.seq (Rg Try.f27 6) .ret)))) kr (Nat.le_of_ble_eq_true kr) 1 (rs := [.tmp 4]) rfl [0] (by decide) [(false, [.lit (.int .i64 r.1)])] [[.sl true 1 (r.2.map intRow)]] [] fun cx => ?_
  show Tr _ _ _ ⟨19, 1, [sC 0 (cL 1 x0 intRow), sI 1 x1], []⟩ _
  unfold laws_markIntSF at H
  refine Tr.rgn tOk 1 19 0 kr kr ?_
  refine Tr.seq ?_
  refine Tr.rgn tOk 1 51 0 kr kr ?_
  obtain ⟨o6, eo6, Ho6⟩ := bind_some H
  clear H
  refine Tr.mid (ι := (List Int) × Int) (fun v => ⟨19, 1, [sI 4 0, sC 0 (cL 1 v.1 intRow), sI 1 v.2], []⟩) (fun v => laws_markIntS_J1 n v.1 v.2 = some r) ?_ ?_
  · refine Tr.block ?_
    refine Tr.loop (ι := Nat × (Int × (List Int) × Int)) (fun v => ⟨19, 1, [sI 5 v.2.1, sI 4 0, sC 0 (cL 1 v.2.2.1 intRow), sI 1 v.2.2.2], []⟩) (fun v => laws_markIntS_L2 n v.1 v.2.1 v.2.2.1 v.2.2.2 = some o6) (fun v => v.1) (n, (0, x0, x1)) eo6 (St.sub_of [5, 4, 0, 1] [] kr) ?_
    rintro ⟨mo6, y1, y2, y3⟩ H
    have H : laws_markIntS_L2 n mo6 y1 y2 y3 = some o6 := H
    obtain _ | mo6 := mo6
    · cases (show (none : Option _) = some o6 from H)
    rw [laws_markIntS_L2] at H
    refine Tr.seq ?_
    refine Tr.rs ?_
    refine LAt.runU tOk 2 kr ?_
    refine LAt.lenE tOk (t := 27) (ty := 3) (e := 3) (x := (.tmp 7)) (d := 8) (g := none) ⟨(.slot 0), [], 0, true, 1, (y2.map intRow)⟩ (y2).length _ kr kr kr kr kr (map_len _ _) rfl ?_
    refine LAt.runU tOk 1 kr ?_
    refine LAt.doneM 1011 0 kr ?_
    cases h1 : (decide (y1 < (y2.length : Int)))
    · have H := bifF h1 H
      refine Tr.cF h1 kr ?_
      refine Tr.exit ?_
      refine And.intro (fun _ => ?_) (fun h => absurd rfl h)
      have H := Option.some.inj H
      subst H
      have H := Ho6
      dsimp only at H
      exact Exists.intro (y2, y3) (And.intro H (St.sub_of [4, 0, 1] [] kr))
    have H := bifT h1 H
    refine Tr.cT h1 kr ?_
    refine Tr.skip ?_
    show Tr _ _ _ _ _
    refine Tr.seq ?_
    refine Tr.block ?_
    refine Tr.rs ?_
    refine LAt.runU tOk 3 kr ?_
    obtain ⟨v7, ev7, H⟩ := bind_some H
    refine LAt.indexO tOk (t := 27) (ty := 0) (x := (.tmp 12)) (y := (.tmp 13)) (d := 15) (g := none) ⟨(.slot 0), [], 0, true, 1, (y2.map intRow)⟩ y1 (y1.toNat) (intRow v7) _ kr kr kr kr rfl kr (idx_isE ev7) rfl rfl ?_
    refine LAt.storeS tOk (t := 3) (ty := 0) (ad := (.tmp 15)) (x := (.tmp 14)) (g := none) ⟨.int .i64, 1, 8, [.lit (.int .i64 0)]⟩ false [cI y3] 0 0 (y1.toNat) 1 0 1 y2 intRow v7 y3 kr kr kr kr kr kr kr kr (idx_get ev7).2 kr kr kr kr ?_
    refine LAt.doneM 62451 0 kr ?_
    refine Tr.rgE tOk 3 259059 0 kr kr ?_
    show Tr _ _ _ _ _
    refine Tr.rgE tOk 3 262131 0 kr kr ?_
    exact Exists.intro (mo6, ((IntKind.wrap .i64 (y1 + 1)), (y2.set (y1.toNat) y3), (IntKind.wrap .i64 (y3 + 1)))) (And.intro H (And.intro (Nat.lt_succ_self mo6) (St.sub_of [5, 4, 0, 1] [] kr)))
  rintro ⟨y4, y5⟩ H
  have H : (laws_markIntS_J1 n y4 y5) = some r := H
  unfold laws_markIntS_J1 at H
  show Tr _ _ _ _ _
  refine Tr.rgn tOk 2 17 0 kr kr ?_
  refine Tr.ret ?_
  have H := Option.some.inj H
  subst H
  exact Fin.ofY _ [(false, [cI y5])] [false] _ [[cL 1 y4 intRow]] _ [] kr rfl rfl rfl kr kr kr kr rfl rfl rfl

def laws_markVtabF (n : Nat) (x0 : Vtab) (x1 : Int) : Option (Int × Vtab) :=
  ((laws_markVrowSF n x0.Rows x1).bind fun r1 => ((laws_markIntSF n x0.Pvid r1.1).bind fun r2 => (some (r2.1, (⟨r1.2, r2.2⟩ : Vtab)))))
/-- loop.example/g00326/laws.markVtab -/
theorem laws_markVtab (n : Nat) (x0 : Vtab) (x1 : Int) (r : Int × Vtab) (H : laws_markVtabF n x0 x1 = some r) : LCall Try.prog 111 [.io true (Vtab.row x0), .val false [.lit (.int .i64 x1)]] [.val false [.lit (.int .i64 r.1)]] [(0, (Vtab.row r.2))] := by
  refine LCall.of_body tOk Try.func111 rfl (c := (.seq (Rg Try.f111 0) (.seq (Rg Try.f111 1) (.seq (Rg Try.f111 2) (.seq (Rg Try.f111 3) .ret))))) kr (Nat.le_of_ble_eq_true kr) 1 (rs := [.tmp 4]) rfl [0] (by decide) [(false, [.lit (.int .i64 r.1)])] [(Vtab.row r.2)] [] fun cx => ?_
  show Tr _ _ _ ⟨14, 1, [sV 0 (Vtab.row x0), sI 1 x1], []⟩ _
  unfold laws_markVtabF at H
  refine Tr.rs ?_
  refine LAt.boxK (T := lk tab) (t := 59) (ty := 0) (x := 0) (d := 2) (g := none) true (Vtab.row x0) kr kr kr kr kr kr ?_
  refine LAt.runU tOk 1 kr ?_
  refine LAt.doneM 23 4 kr ?_
  refine Tr.rs ?_
  refine LAt.runU tOk 3 kr ?_
  obtain ⟨r1, er1, H⟩ := bind_some H
  refine LAt.callL tOk [.lend, .rd] (f := 140) (av := #[.tmp 6, .tmp 7]) (ats := #[57, 3]) (d := (some 8)) (ty := 3) (g := none) kr kr kr [] (laws_markVrowS n x0.Rows x1 r1 er1) kr (.inl rfl) ?_
  refine LAt.runU tOk 1 kr ?_
  refine LAt.doneM 23 4 kr ?_
  refine Tr.rs ?_
  refine LAt.runU tOk 3 kr ?_
  obtain ⟨r2, er2, H⟩ := bind_some H
  refine LAt.callL tOk [.lend, .rd] (f := 27) (av := #[.tmp 10, .tmp 11]) (ats := #[27, 3]) (d := (some 12)) (ty := 3) (g := none) kr kr kr [] (laws_markIntS n x0.Pvid r1.1 r2 er2) kr (.inl rfl) ?_
  refine LAt.runU tOk 1 kr ?_
  refine LAt.doneM 19 4 kr ?_
  refine Tr.rgn tOk 2 17 4 kr kr ?_
  refine Tr.ret ?_
  have H := Option.some.inj H
  subst H
  exact Fin.ofY _ [(false, [cI r2.1])] [true] _ [[cL 3 r1.2 Vrow.row, cL 1 r2.2 intRow]] _ [] kr rfl rfl rfl kr kr kr kr rfl rfl rfl

def laws_markBridgeF (n : Nat) (x0 : Bridge) (x1 : Int) : Option (Int × Bridge) :=
  ((laws_markPtSF n x0.Ports x1).bind fun r1 => ((laws_markFentSF n x0.F r1.1).bind fun r2 => ((laws_markVtabF n x0.V r2.1).bind fun r3 => (some (r3.1, (⟨x0.Id, x0.Name, r1.2, r2.2, r3.2, x0.Ticks, x0.Parse, x0.Word, x0.Drops, x0.Vers⟩ : Bridge))))))
/-- loop.example/g00326/laws.markBridge -/
theorem laws_markBridge (n : Nat) (x0 : Bridge) (x1 : Int) (r : Int × Bridge) (H : laws_markBridgeF n x0 x1 = some r) : LCall Try.prog 40 [.io true (Bridge.row x0), .val false [.lit (.int .i64 x1)]] [.val false [.lit (.int .i64 r.1)]] [(0, (Bridge.row r.2))] := by
  refine LCall.of_body tOk Try.func40 rfl (c := (.seq (Rg Try.f40 0) (.seq (Rg Try.f40 1) (.seq (Rg Try.f40 2) (.seq (Rg Try.f40 3) (.seq (Rg Try.f40 4) .ret)))))) kr (Nat.le_of_ble_eq_true kr) 1 (rs := [.tmp 4]) rfl [0] (by decide) [(false, [.lit (.int .i64 r.1)])] [(Bridge.row r.2)] [] fun cx => ?_
  show Tr _ _ _ ⟨18, 1, [sV 0 (Bridge.row x0), sI 1 x1], []⟩ _
  unfold laws_markBridgeF at H
  refine Tr.rs ?_
  refine LAt.boxK (T := lk tab) (t := 61) (ty := 0) (x := 0) (d := 2) (g := none) true (Bridge.row x0) kr kr kr kr kr kr ?_
  refine LAt.runU tOk 1 kr ?_
  refine LAt.doneM 23 4 kr ?_
  refine Tr.rs ?_
  refine LAt.runU tOk 3 kr ?_
  obtain ⟨r1, er1, H⟩ := bind_some H
  refine LAt.callL tOk [.lend, .rd] (f := 109) (av := #[.tmp 6, .tmp 7]) (ats := #[55, 3]) (d := (some 8)) (ty := 3) (g := none) kr kr kr [] (laws_markPtS n x0.Ports x1 r1 er1) kr (.inl rfl) ?_
  refine LAt.runU tOk 1 kr ?_
  refine LAt.doneM 23 4 kr ?_
  refine Tr.rs ?_
  refine LAt.runU tOk 3 kr ?_
  obtain ⟨r2, er2, H⟩ := bind_some H
  refine LAt.callL tOk [.lend, .rd] (f := 110) (av := #[.tmp 10, .tmp 11]) (ats := #[56, 3]) (d := (some 12)) (ty := 3) (g := none) kr kr kr [] (laws_markFentS n x0.F r1.1 r2 er2) kr (.inl rfl) ?_
  refine LAt.runU tOk 1 kr ?_
  refine LAt.doneM 23 4 kr ?_
  refine Tr.rs ?_
  refine LAt.runU tOk 3 kr ?_
  obtain ⟨r3, er3, H⟩ := bind_some H
  refine LAt.callL tOk [.lend, .rd] (f := 111) (av := #[.tmp 14, .tmp 15]) (ats := #[59, 3]) (d := (some 16)) (ty := 3) (g := none) kr kr kr [] (laws_markVtab n x0.V r2.1 r3 er3) kr (.inl rfl) ?_
  refine LAt.runU tOk 1 kr ?_
  refine LAt.doneM 19 4 kr ?_
  refine Tr.rgn tOk 2 17 4 kr kr ?_
  refine Tr.ret ?_
  have H := Option.some.inj H
  subst H
  exact Fin.ofY _ [(false, [cI r3.1])] [true] _ [[cI x0.Id, cS x0.Name, cL 8 r1.2 Pt.row, cL 5 r2.2 Fent.row, cL 3 r3.2.Rows Vrow.row, cL 1 r3.2.Pvid intRow, cI x0.Ticks, cI x0.Parse, cI x0.Word, cI x0.Drops, cI x0.Vers]] _ [] kr rfl rfl rfl kr kr kr kr rfl rfl rfl

def laws_markText_J1 (n : Nat) (y3 : ByteArray) : Option (ByteArray) :=
  (bif (decide ((⟨#[109]⟩ : ByteArray).size + y3.size ≤ 268435456)) then (some ((⟨#[109]⟩ : ByteArray) ++ y3)) else none)
def laws_markText_L2 (n : Nat) : Nat → ByteArray → Int → Option ((ByteArray) ⊕ (ByteArray))
  | 0, _, _ => none
  | mo5 + 1, y1, y2 => (bif (decide (y2 > 0)) then (bif (decide ((10 : Int) ≠ 0)) then (bif (decide ((strOf [(IntKind.wrap .u8 (IntKind.wrap .i64 (48 + (Int.tmod y2 10))))]).size + y1.size ≤ 268435456)) then (bif (decide ((10 : Int) ≠ 0)) then (laws_markText_L2 n mo5 ((strOf [(IntKind.wrap .u8 (IntKind.wrap .i64 (48 + (Int.tmod y2 10))))]) ++ y1) (IntKind.wrap .i64 (Int.tdiv y2 10))) else none) else none) else none) else (some (Sum.inl y1)))
def laws_markTextF (n : Nat) (x0 : Int) : Option (ByteArray) :=
  (bif (decide (x0 ≤ 0)) then (some (⟨#[109, 48]⟩ : ByteArray)) else ((laws_markText_L2 n n (⟨#[]⟩ : ByteArray) x0).bind fun o => match o with | .inl y3 => (laws_markText_J1 n y3) | .inr r => some r))
/-- loop.example/g00326/laws.markText -/
theorem laws_markText (n : Nat) (x0 : Int) (r : ByteArray) (H : laws_markTextF n x0 = some r) : LCall Try.prog 129 [.val false [.lit (.int .i64 x0)]] [.val false [.lit (.string r)]] [] := by
  refine LCall.of_body tOk Try.func129 rfl (c := (.seq (Rg Try.f129 0) (.seq (.seq (Rg Try.f129 1) (.cond (.tmp 5) (.seq (Rg Try.f129 2) .ret) .skip)) (.seq (Rg Try.f129 3) (.seq (.block 0 (.loop (.seq (.seq (Rg Try.f129 4) (.cond (.tmp 7) .skip (.exit 0))) (.block 1 (.seq (Rg Try.f129 5) (Rg Try.f129 6)))))) (.seq (Rg Try.f129 7) .ret)))))) kr (Nat.le_of_ble_eq_true kr) 0 (rs := [.tmp 2]) rfl [] .nil [(false, [.lit (.string r)])] [] [] fun cx => ?_
  show Tr _ _ _ ⟨20, 0, [sI 0 x0], []⟩ _
  unfold laws_markTextF at H
  refine Tr.rgn tOk 1 5 0 kr kr ?_
  refine Tr.seq ?_
  refine Tr.rgn tOk 2 37 0 kr kr ?_
  cases h1 : (decide (x0 ≤ 0))
  · have H := bifF h1 H
    refine Tr.cF h1 kr ?_
    refine Tr.skip ?_
    show Tr _ _ _ _ _
    refine Tr.rgn tOk 1 13 0 kr kr ?_
    refine Tr.seq ?_
    obtain ⟨o5, eo5, Ho5⟩ := bind_some H
    clear H
    refine Tr.mid (ι := ByteArray) (fun v => ⟨20, 0, [sC 3 (cS v), sC 2 (cS (⟨#[]⟩ : ByteArray))], []⟩) (fun v => laws_markText_J1 n v = some r) ?_ ?_
    · refine Tr.block ?_
      refine Tr.loop (ι := Nat × (ByteArray × Int)) (fun v => ⟨20, 0, [sC 3 (cS v.2.1), sC 2 (cS (⟨#[]⟩ : ByteArray)), sI 0 v.2.2], []⟩) (fun v => laws_markText_L2 n v.1 v.2.1 v.2.2 = some o5) (fun v => v.1) (n, ((⟨#[]⟩ : ByteArray), x0)) eo5 (St.sub_of [3, 2, 0] [] kr) ?_
      rintro ⟨mo5, y1, y2⟩ H
      have H : laws_markText_L2 n mo5 y1 y2 = some o5 := H
      obtain _ | mo5 := mo5
      · cases (show (none : Option _) = some o5 from H)
      rw [laws_markText_L2] at H
      refine Tr.seq ?_
      refine Tr.rgn tOk 2 205 0 kr kr ?_
      cases h2 : (decide (y2 > 0))
      · have H := bifF h2 H
        refine Tr.cF h2 kr ?_
        refine Tr.exit ?_
        refine And.intro (fun _ => ?_) (fun h => absurd rfl h)
        have H := Option.some.inj H
        subst H
        have H := Ho5
        dsimp only at H
        exact Exists.intro y1 (And.intro H (St.sub_of [3, 2] [] kr))
      have H := bifT h2 H
      refine Tr.cT h2 kr ?_
      refine Tr.skip ?_
      show Tr _ _ _ _ _
      refine Tr.block ?_
      refine Tr.rs ?_
      refine LAt.runU tOk 1 kr ?_
      obtain ⟨hg6, H⟩ := guard_some H
      refine LAt.binC tOk (op := .rem) (t := 3) (ty := 3) (ty' := 3) (x := (.tmp 8)) (y := (.const (.int .i64 10))) (d := 9) (g := none) (.int .i64 y2) (.int .i64 10) (.int .i64 (Int.tmod y2 10)) _ kr kr kr kr kr (φ := (IntKind.i64 = IntKind.i64 ∧ (10 : Int) ≠ 0)) kr (⟨rfl, of_decide_eq_true hg6⟩) rfl ?_
      refine LAt.runU tOk 3 kr ?_
      refine LAt.b2s tOk (t := 179) (u := 9) (ty := 9) (x := (.tmp 12)) (d := 13) (g := none) ⟨(.slot 12), [], 0, true, 1, ([(IntKind.wrap .u8 (IntKind.wrap .i64 (48 + (Int.tmod y2 10))))].map byteRow)⟩ [(IntKind.wrap .u8 (IntKind.wrap .i64 (48 + (Int.tmod y2 10))))] kr kr kr kr kr kr kr (.inl rfl) ?_
      refine LAt.runU tOk 1 kr ?_
      obtain ⟨hg7, H⟩ := guard_some H
      refine LAt.cat tOk (t := 9) (u := 9) (ty := 9) (x := (.tmp 13)) (y := (.tmp 14)) (d := 15) (g := none) (strOf [(IntKind.wrap .u8 (IntKind.wrap .i64 (48 + (Int.tmod y2 10))))]) y1 kr kr kr kr kr kr hg7 ?_
      refine LAt.runU tOk 1 kr ?_
      refine LAt.doneM 65485 0 kr ?_
      refine Tr.at ?_
      refine LAt.runU tOk 1 kr ?_
      obtain ⟨hg8, H⟩ := guard_some H
      refine LAt.binC tOk (op := .quo) (t := 3) (ty := 3) (ty' := 3) (x := (.tmp 16)) (y := (.const (.int .i64 10))) (d := 17) (g := none) (.int .i64 y2) (.int .i64 10) (.int .i64 (IntKind.wrap .i64 (Int.tdiv y2 10))) _ kr kr kr kr kr (φ := (IntKind.i64 = IntKind.i64 ∧ (10 : Int) ≠ 0)) kr (⟨rfl, of_decide_eq_true hg8⟩) rfl ?_
      refine LAt.runU tOk 1 kr ?_
      refine LAt.doneM 262093 0 kr ?_
      exact Exists.intro (mo5, (((strOf [(IntKind.wrap .u8 (IntKind.wrap .i64 (48 + (Int.tmod y2 10))))]) ++ y1), (IntKind.wrap .i64 (Int.tdiv y2 10)))) (And.intro H (And.intro (Nat.lt_succ_self mo5) (St.sub_of [3, 2, 0] [] kr)))
    rintro y3 H
    have H : (laws_markText_J1 n y3) = some r := H
    unfold laws_markText_J1 at H
    show Tr _ _ _ _ _
    refine Tr.rs ?_
    refine LAt.runU tOk 1 kr ?_
    obtain ⟨hg4, H⟩ := guard_some H
    refine LAt.cat tOk (t := 9) (u := 9) (ty := 9) (x := (.const (.string (⟨#[109]⟩ : ByteArray)))) (y := (.tmp 18)) (d := 19) (g := none) (⟨#[109]⟩ : ByteArray) y3 kr kr kr kr kr kr hg4 ?_
    refine LAt.runU tOk 1 kr ?_
    refine LAt.doneM 4 0 kr ?_
    refine Tr.ret ?_
    have H := Option.some.inj H
    subst H
    exact Fin.of _ [(false, [cS ((⟨#[109]⟩ : ByteArray) ++ y3)])] kr rfl rfl
  have H := bifT h1 H
  refine Tr.cT h1 kr ?_
  refine Tr.rgn tOk 1 5 0 kr kr ?_
  refine Tr.ret ?_
  have H := Option.some.inj H
  subst H
  exact Fin.of _ [(false, [cS (⟨#[109, 48]⟩ : ByteArray)])] kr rfl rfl

def laws_markBindS_J1 (n : Nat) (y4 : (List Bind)) (y5 : Int) : Option (Int × (List Bind)) :=
  (some (y5, y4))
def laws_markBindS_L2 (n : Nat) : Nat → Int → (List Bind) → Int → Option (((List Bind) × Int) ⊕ (Int × (List Bind)))
  | 0, _, _, _ => none
  | mo6 + 1, y1, y2, y3 => (bif (decide (y1 < (y2.length : Int))) then ((idx y2 y1).bind fun v7 => ((laws_markIntSF n v7.O y3).bind fun r8 => ((idx (y2.set (y1.toNat) (⟨r8.2, v7.V⟩ : Bind)) y1).bind fun v9 => ((idx ((y2.set (y1.toNat) (⟨r8.2, v7.V⟩ : Bind)).set (y1.toNat) (⟨v9.O, (⟨r8.1, v9.V.N, v9.V.S, v9.V.O⟩ : Val)⟩ : Bind)) y1).bind fun v10 => ((laws_markTextF n (IntKind.wrap .i64 ((IntKind.wrap .i64 (r8.1 + 1)) + 1))).bind fun r11 => ((idx (((y2.set (y1.toNat) (⟨r8.2, v7.V⟩ : Bind)).set (y1.toNat) (⟨v9.O, (⟨r8.1, v9.V.N, v9.V.S, v9.V.O⟩ : Val)⟩ : Bind)).set (y1.toNat) (⟨v10.O, (⟨v10.V.K, (IntKind.wrap .i64 (r8.1 + 1)), v10.V.S, v10.V.O⟩ : Val)⟩ : Bind)) y1).bind fun v12 => ((idx ((((y2.set (y1.toNat) (⟨r8.2, v7.V⟩ : Bind)).set (y1.toNat) (⟨v9.O, (⟨r8.1, v9.V.N, v9.V.S, v9.V.O⟩ : Val)⟩ : Bind)).set (y1.toNat) (⟨v10.O, (⟨v10.V.K, (IntKind.wrap .i64 (r8.1 + 1)), v10.V.S, v10.V.O⟩ : Val)⟩ : Bind)).set (y1.toNat) (⟨v12.O, (⟨v12.V.K, v12.V.N, r11, v12.V.O⟩ : Val)⟩ : Bind)) y1).bind fun v13 => ((laws_markIntSF n v13.V.O (IntKind.wrap .i64 ((IntKind.wrap .i64 ((IntKind.wrap .i64 (r8.1 + 1)) + 1)) + 1))).bind fun r14 => (laws_markBindS_L2 n mo6 (IntKind.wrap .i64 (y1 + 1)) (((((y2.set (y1.toNat) (⟨r8.2, v7.V⟩ : Bind)).set (y1.toNat) (⟨v9.O, (⟨r8.1, v9.V.N, v9.V.S, v9.V.O⟩ : Val)⟩ : Bind)).set (y1.toNat) (⟨v10.O, (⟨v10.V.K, (IntKind.wrap .i64 (r8.1 + 1)), v10.V.S, v10.V.O⟩ : Val)⟩ : Bind)).set (y1.toNat) (⟨v12.O, (⟨v12.V.K, v12.V.N, r11, v12.V.O⟩ : Val)⟩ : Bind)).set (y1.toNat) (⟨v13.O, (⟨v13.V.K, v13.V.N, v13.V.S, r14.2⟩ : Val)⟩ : Bind)) r14.1))))))))) else (some (Sum.inl (y2, y3))))
def laws_markBindSF (n : Nat) (x0 : (List Bind)) (x1 : Int) : Option (Int × (List Bind)) :=
  ((laws_markBindS_L2 n n 0 x0 x1).bind fun o => match o with | .inl (y4, y5) => (laws_markBindS_J1 n y4 y5) | .inr r => some r)
/-- loop.example/g00326/laws.markBindS -/
theorem laws_markBindS (n : Nat) (x0 : (List Bind)) (x1 : Int) (r : Int × (List Bind)) (H : laws_markBindSF n x0 x1 = some r) : LCall Try.prog 55 [.io false [.sl true 5 (x0.map Bind.row)], .val false [.lit (.int .i64 x1)]] [.val false [.lit (.int .i64 r.1)]] [(0, [.sl true 5 (r.2.map Bind.row)])] := by
  refine LCall.of_body tOk Try.func55 rfl (c := (.seq (Rg Try.f55 0) (.seq (.seq (Rg Try.f55 1) (.block 0 (.loop (.seq (.seq (Rg Try.f55 2) (.cond (.tmp 9) .skip (.exit 0))) (.seq (.block 1 (.seq (Rg Try.f55 4) (.seq (Rg Try.f55 5) (.seq (Rg Try.f55 6) (.seq (Rg Try.f55 7) (.seq (Rg Try.f55 8) (.seq (Rg Try.f55 9) (.seq (Rg Try.f55 10) (Rg Try.f55 11))))))))) (Rg Try.f55 3)))))) (.seq (Rg Try.f55 12) .ret)))) kr (Nat.le_of_ble_eq_true kr) 1 (rs := [.tmp 4]) rfl [0] (by decide) [(false, [.lit (.int .i64 r.1)])] [[.sl true 5 (r.2.map Bind.row)]] [] fun cx => ?_
  show Tr _ _ _ ⟨53, 1, [sC 0 (cL 5 x0 Bind.row), sI 1 x1], []⟩ _
  unfold laws_markBindSF at H
  refine Tr.rgn tOk 1 19 0 kr kr ?_
  refine Tr.seq ?_
  refine Tr.rgn tOk 1 51 0 kr kr ?_
  obtain ⟨o6, eo6, Ho6⟩ := bind_some H
  clear H
  refine Tr.mid (ι := (List Bind) × Int) (fun v => ⟨53, 1, [sI 4 0, sC 0 (cL 5 v.1 Bind.row), sI 1 v.2], []⟩) (fun v => laws_markBindS_J1 n v.1 v.2 = some r) ?_ ?_
  · refine Tr.block ?_
    refine Tr.loop (ι := Nat × (Int × (List Bind) × Int)) (fun v => ⟨53, 1, [sI 5 v.2.1, sI 4 0, sC 0 (cL 5 v.2.2.1 Bind.row), sI 1 v.2.2.2], []⟩) (fun v => laws_markBindS_L2 n v.1 v.2.1 v.2.2.1 v.2.2.2 = some o6) (fun v => v.1) (n, (0, x0, x1)) eo6 (St.sub_of [5, 4, 0, 1] [] kr) ?_
    rintro ⟨mo6, y1, y2, y3⟩ H
    have H : laws_markBindS_L2 n mo6 y1 y2 y3 = some o6 := H
    obtain _ | mo6 := mo6
    · cases (show (none : Option _) = some o6 from H)
    rw [laws_markBindS_L2] at H
    refine Tr.seq ?_
    refine Tr.rs ?_
    refine LAt.runU tOk 2 kr ?_
    refine LAt.lenE tOk (t := 81) (ty := 3) (e := 86) (x := (.tmp 7)) (d := 8) (g := none) ⟨(.slot 0), [], 0, true, 5, (y2.map Bind.row)⟩ (y2).length _ kr kr kr kr kr (map_len _ _) rfl ?_
    refine LAt.runU tOk 1 kr ?_
    refine LAt.doneM 1011 0 kr ?_
    cases h1 : (decide (y1 < (y2.length : Int)))
    · have H := bifF h1 H
      refine Tr.cF h1 kr ?_
      refine Tr.exit ?_
      refine And.intro (fun _ => ?_) (fun h => absurd rfl h)
      have H := Option.some.inj H
      subst H
      have H := Ho6
      dsimp only at H
      exact Exists.intro (y2, y3) (And.intro H (St.sub_of [4, 0, 1] [] kr))
    have H := bifT h1 H
    refine Tr.cT h1 kr ?_
    refine Tr.skip ?_
    show Tr _ _ _ _ _
    refine Tr.seq ?_
    refine Tr.block ?_
    refine Tr.rs ?_
    refine LAt.runU tOk 2 kr ?_
    obtain ⟨v7, ev7, H⟩ := bind_some H
    refine LAt.indexO tOk (t := 81) (ty := 0) (x := (.tmp 12)) (y := (.tmp 13)) (d := 14) (g := none) ⟨(.slot 0), [], 0, true, 5, (y2.map Bind.row)⟩ y1 (y1.toNat) (Bind.row v7) _ kr kr kr kr rfl kr (idx_isE ev7) rfl rfl ?_
    refine LAt.runU tOk 1 kr ?_
    refine LAt.loadE tOk (t := 27) (ty := 27) (x := (.tmp 15)) (d := 16) (g := none) ⟨.sl 3, 1, 24, [.sl true 1 []]⟩ (.slot 0) [(0, (y1.toNat))] 5 0 [cL 5 y2 Bind.row] (Bind.row v7) _ kr kr kr kr kr (getQ_elem rfl (idx_get ev7).2) rfl (by intro h; cases h) kr kr rfl ?_
    refine LAt.runU tOk 1 kr ?_
    obtain ⟨r8, er8, H⟩ := bind_some H
    refine LAt.callO tOk [.lend, .rd] (f := 27) (av := #[.tmp 16, .tmp 17]) (ats := #[27, 3]) (d := (some 18)) (ty := 3) (g := none) [(16, Bind.row v7)] (some [cL 5 (y2.set (y1.toNat) (⟨r8.2, v7.V⟩ : Bind)) Bind.row]) kr kr kr [] (laws_markIntS n v7.O y3 r8 er8) (orc_cons (row := [cL 5 y2 Bind.row]) (q := [(0, (y1.toNat))]) kr (getQ_elem rfl (idx_get ev7).2) orc_nil) kr (nr_some [cL 5 y2 Bind.row] [(0, (y1.toNat))] false 0 [cL 1 r8.2 intRow] kr (modQ_elem (new := (⟨r8.2, v7.V⟩ : Bind)) rfl (idx_get ev7).2 rfl)) (.inl rfl) ?_
    refine LAt.runU tOk 1 kr ?_
    refine LAt.doneM 467827 0 kr ?_
    refine Tr.rs ?_
    refine LAt.runU tOk 3 kr ?_
    obtain ⟨v9, ev9, H⟩ := bind_some H
    refine LAt.indexO tOk (t := 81) (ty := 0) (x := (.tmp 19)) (y := (.tmp 20)) (d := 22) (g := none) ⟨(.slot 0), [], 0, true, 5, ((y2.set (y1.toNat) (⟨r8.2, v7.V⟩ : Bind)).map Bind.row)⟩ y1 (y1.toNat) (Bind.row v9) _ kr kr kr kr rfl kr (idx_isE ev9) rfl rfl ?_
    refine LAt.runU tOk 2 kr ?_
    refine LAt.storeS tOk (t := 3) (ty := 0) (ad := (.tmp 24)) (x := (.tmp 21)) (g := none) ⟨.int .i64, 1, 8, [.lit (.int .i64 0)]⟩ false [cI r8.1] 0 0 (y1.toNat) 5 1 5 (y2.set (y1.toNat) (⟨r8.2, v7.V⟩ : Bind)) Bind.row v9 (⟨v9.O, (⟨r8.1, v9.V.N, v9.V.S, v9.V.O⟩ : Val)⟩ : Bind) kr kr kr kr kr kr kr kr (idx_get ev9).2 kr kr kr kr ?_
    refine LAt.doneM 33432435 0 kr ?_
    refine Tr.rgn tOk 3 134095731 0 kr kr ?_
    refine Tr.rs ?_
    refine LAt.runU tOk 3 kr ?_
    obtain ⟨v10, ev10, H⟩ := bind_some H
    refine LAt.indexO tOk (t := 81) (ty := 0) (x := (.tmp 27)) (y := (.tmp 28)) (d := 30) (g := none) ⟨(.slot 0), [], 0, true, 5, (((y2.set (y1.toNat) (⟨r8.2, v7.V⟩ : Bind)).set (y1.toNat) (⟨v9.O, (⟨r8.1, v9.V.N, v9.V.S, v9.V.O⟩ : Val)⟩ : Bind)).map Bind.row)⟩ y1 (y1.toNat) (Bind.row v10) _ kr kr kr kr rfl kr (idx_isE ev10) rfl rfl ?_
    refine LAt.runU tOk 2 kr ?_
    refine LAt.storeS tOk (t := 3) (ty := 0) (ad := (.tmp 32)) (x := (.tmp 29)) (g := none) ⟨.int .i64, 1, 8, [.lit (.int .i64 0)]⟩ false [cI (IntKind.wrap .i64 (r8.1 + 1))] 0 0 (y1.toNat) 5 2 5 ((y2.set (y1.toNat) (⟨r8.2, v7.V⟩ : Bind)).set (y1.toNat) (⟨v9.O, (⟨r8.1, v9.V.N, v9.V.S, v9.V.O⟩ : Val)⟩ : Bind)) Bind.row v10 (⟨v10.O, (⟨v10.V.K, (IntKind.wrap .i64 (r8.1 + 1)), v10.V.S, v10.V.O⟩ : Val)⟩ : Bind) kr kr kr kr kr kr kr kr (idx_get ev10).2 kr kr kr kr ?_
    refine LAt.doneM 8589812595 0 kr ?_
    refine Tr.rgn tOk 3 34359616371 0 kr kr ?_
    refine Tr.rs ?_
    refine LAt.runU tOk 3 kr ?_
    obtain ⟨r11, er11, H⟩ := bind_some H
    refine LAt.callV tOk [.rd] [] (laws_markText n (IntKind.wrap .i64 ((IntKind.wrap .i64 (r8.1 + 1)) + 1)) r11 er11) kr kr kr kr (.inl rfl) ?_
    obtain ⟨v12, ev12, H⟩ := bind_some H
    refine LAt.indexO tOk (t := 81) (ty := 0) (x := (.tmp 35)) (y := (.tmp 36)) (d := 39) (g := none) ⟨(.slot 0), [], 0, true, 5, ((((y2.set (y1.toNat) (⟨r8.2, v7.V⟩ : Bind)).set (y1.toNat) (⟨v9.O, (⟨r8.1, v9.V.N, v9.V.S, v9.V.O⟩ : Val)⟩ : Bind)).set (y1.toNat) (⟨v10.O, (⟨v10.V.K, (IntKind.wrap .i64 (r8.1 + 1)), v10.V.S, v10.V.O⟩ : Val)⟩ : Bind)).map Bind.row)⟩ y1 (y1.toNat) (Bind.row v12) _ kr kr kr kr rfl kr (idx_isE ev12) rfl rfl ?_
    refine LAt.runU tOk 2 kr ?_
    refine LAt.storeS tOk (t := 9) (ty := 0) (ad := (.tmp 41)) (x := (.tmp 38)) (g := none) ⟨.str, 1, 16, [.lit (.string ⟨#[]⟩)]⟩ false [cS r11] 0 0 (y1.toNat) 5 3 5 (((y2.set (y1.toNat) (⟨r8.2, v7.V⟩ : Bind)).set (y1.toNat) (⟨v9.O, (⟨r8.1, v9.V.N, v9.V.S, v9.V.O⟩ : Val)⟩ : Bind)).set (y1.toNat) (⟨v10.O, (⟨v10.V.K, (IntKind.wrap .i64 (r8.1 + 1)), v10.V.S, v10.V.O⟩ : Val)⟩ : Bind)) Bind.row v12 (⟨v12.O, (⟨v12.V.K, v12.V.N, r11, v12.V.O⟩ : Val)⟩ : Bind) kr kr kr kr kr kr kr kr (idx_get ev12).2 kr kr kr kr ?_
    refine LAt.doneM 4398046389107 0 kr ?_
    refine Tr.rgn tOk 3 17592185922419 0 kr kr ?_
    refine Tr.at ?_
    refine LAt.runU tOk 2 kr ?_
    obtain ⟨v13, ev13, H⟩ := bind_some H
    refine LAt.indexO tOk (t := 81) (ty := 0) (x := (.tmp 44)) (y := (.tmp 45)) (d := 46) (g := none) ⟨(.slot 0), [], 0, true, 5, (((((y2.set (y1.toNat) (⟨r8.2, v7.V⟩ : Bind)).set (y1.toNat) (⟨v9.O, (⟨r8.1, v9.V.N, v9.V.S, v9.V.O⟩ : Val)⟩ : Bind)).set (y1.toNat) (⟨v10.O, (⟨v10.V.K, (IntKind.wrap .i64 (r8.1 + 1)), v10.V.S, v10.V.O⟩ : Val)⟩ : Bind)).set (y1.toNat) (⟨v12.O, (⟨v12.V.K, v12.V.N, r11, v12.V.O⟩ : Val)⟩ : Bind)).map Bind.row)⟩ y1 (y1.toNat) (Bind.row v13) _ kr kr kr kr rfl kr (idx_isE ev13) rfl rfl ?_
    refine LAt.runU tOk 2 kr ?_
    refine LAt.loadE tOk (t := 27) (ty := 27) (x := (.tmp 48)) (d := 49) (g := none) ⟨.sl 3, 1, 24, [.sl true 1 []]⟩ (.slot 0) [(0, (y1.toNat))] 5 4 [cL 5 ((((y2.set (y1.toNat) (⟨r8.2, v7.V⟩ : Bind)).set (y1.toNat) (⟨v9.O, (⟨r8.1, v9.V.N, v9.V.S, v9.V.O⟩ : Val)⟩ : Bind)).set (y1.toNat) (⟨v10.O, (⟨v10.V.K, (IntKind.wrap .i64 (r8.1 + 1)), v10.V.S, v10.V.O⟩ : Val)⟩ : Bind)).set (y1.toNat) (⟨v12.O, (⟨v12.V.K, v12.V.N, r11, v12.V.O⟩ : Val)⟩ : Bind)) Bind.row] (Bind.row v13) _ kr kr kr kr kr (getQ_elem rfl (idx_get ev13).2) rfl (by intro h; cases h) kr kr rfl ?_
    refine LAt.runU tOk 1 kr ?_
    obtain ⟨r14, er14, H⟩ := bind_some H
    refine LAt.callO tOk [.lend, .rd] (f := 27) (av := #[.tmp 49, .tmp 50]) (ats := #[27, 3]) (d := (some 51)) (ty := 3) (g := none) [(49, Bind.row v13)] (some [cL 5 (((((y2.set (y1.toNat) (⟨r8.2, v7.V⟩ : Bind)).set (y1.toNat) (⟨v9.O, (⟨r8.1, v9.V.N, v9.V.S, v9.V.O⟩ : Val)⟩ : Bind)).set (y1.toNat) (⟨v10.O, (⟨v10.V.K, (IntKind.wrap .i64 (r8.1 + 1)), v10.V.S, v10.V.O⟩ : Val)⟩ : Bind)).set (y1.toNat) (⟨v12.O, (⟨v12.V.K, v12.V.N, r11, v12.V.O⟩ : Val)⟩ : Bind)).set (y1.toNat) (⟨v13.O, (⟨v13.V.K, v13.V.N, v13.V.S, r14.2⟩ : Val)⟩ : Bind)) Bind.row]) kr kr kr [] (laws_markIntS n v13.V.O (IntKind.wrap .i64 ((IntKind.wrap .i64 ((IntKind.wrap .i64 (r8.1 + 1)) + 1)) + 1)) r14 er14) (orc_cons (row := [cL 5 ((((y2.set (y1.toNat) (⟨r8.2, v7.V⟩ : Bind)).set (y1.toNat) (⟨v9.O, (⟨r8.1, v9.V.N, v9.V.S, v9.V.O⟩ : Val)⟩ : Bind)).set (y1.toNat) (⟨v10.O, (⟨v10.V.K, (IntKind.wrap .i64 (r8.1 + 1)), v10.V.S, v10.V.O⟩ : Val)⟩ : Bind)).set (y1.toNat) (⟨v12.O, (⟨v12.V.K, v12.V.N, r11, v12.V.O⟩ : Val)⟩ : Bind)) Bind.row]) (q := [(0, (y1.toNat))]) kr (getQ_elem rfl (idx_get ev13).2) orc_nil) kr (nr_some [cL 5 ((((y2.set (y1.toNat) (⟨r8.2, v7.V⟩ : Bind)).set (y1.toNat) (⟨v9.O, (⟨r8.1, v9.V.N, v9.V.S, v9.V.O⟩ : Val)⟩ : Bind)).set (y1.toNat) (⟨v10.O, (⟨v10.V.K, (IntKind.wrap .i64 (r8.1 + 1)), v10.V.S, v10.V.O⟩ : Val)⟩ : Bind)).set (y1.toNat) (⟨v12.O, (⟨v12.V.K, v12.V.N, r11, v12.V.O⟩ : Val)⟩ : Bind)) Bind.row] [(0, (y1.toNat))] false 4 [cL 1 r14.2 intRow] kr (modQ_elem (new := (⟨v13.O, (⟨v13.V.K, v13.V.N, v13.V.S, r14.2⟩ : Val)⟩ : Bind)) rfl (idx_get ev13).2 rfl)) (.inl rfl) ?_
    refine LAt.runU tOk 1 kr ?_
    refine LAt.doneM 3989535901229939 0 kr ?_
    show Tr _ _ _ _ _
    refine Tr.rgE tOk 3 3989535901233011 0 kr kr ?_
    exact Exists.intro (mo6, ((IntKind.wrap .i64 (y1 + 1)), (((((y2.set (y1.toNat) (⟨r8.2, v7.V⟩ : Bind)).set (y1.toNat) (⟨v9.O, (⟨r8.1, v9.V.N, v9.V.S, v9.V.O⟩ : Val)⟩ : Bind)).set (y1.toNat) (⟨v10.O, (⟨v10.V.K, (IntKind.wrap .i64 (r8.1 + 1)), v10.V.S, v10.V.O⟩ : Val)⟩ : Bind)).set (y1.toNat) (⟨v12.O, (⟨v12.V.K, v12.V.N, r11, v12.V.O⟩ : Val)⟩ : Bind)).set (y1.toNat) (⟨v13.O, (⟨v13.V.K, v13.V.N, v13.V.S, r14.2⟩ : Val)⟩ : Bind)), r14.1)) (And.intro H (And.intro (Nat.lt_succ_self mo6) (St.sub_of [5, 4, 0, 1] [] kr)))
  rintro ⟨y4, y5⟩ H
  have H : (laws_markBindS_J1 n y4 y5) = some r := H
  unfold laws_markBindS_J1 at H
  show Tr _ _ _ _ _
  refine Tr.rgn tOk 2 17 0 kr kr ?_
  refine Tr.ret ?_
  have H := Option.some.inj H
  subst H
  exact Fin.ofY _ [(false, [cI y5])] [false] _ [[cL 5 y4 Bind.row]] _ [] kr rfl rfl rfl kr kr kr kr rfl rfl rfl

def laws_heldIntS_J1 (n : Nat) (y3 : Int) : Option (Int) :=
  (some y3)
def laws_heldIntS_L2 (n : Nat) : Nat → (List Int) → Int → Int → Option ((Int) ⊕ (Int))
  | 0, _, _, _ => none
  | mo4 + 1, x0, y1, y2 => (bif (decide (y1 < (x0.length : Int))) then ((idx x0 y1).bind fun v5 => (bif (v5 != y2) then (some (Sum.inr (-1))) else (laws_heldIntS_L2 n mo4 x0 (IntKind.wrap .i64 (y1 + 1)) (IntKind.wrap .i64 (y2 + 1))))) else (some (Sum.inl y2)))
def laws_heldIntSF (n : Nat) (x0 : (List Int)) (x1 : Int) : Option (Int) :=
  ((laws_heldIntS_L2 n n x0 0 x1).bind fun o => match o with | .inl y3 => (laws_heldIntS_J1 n y3) | .inr r => some r)
/-- loop.example/g00326/laws.heldIntS -/
theorem laws_heldIntS (n : Nat) (x0 : (List Int)) (x1 : Int) (r : Int) (H : laws_heldIntSF n x0 x1 = some r) : LCall Try.prog 28 [.val false [.sl false 1 (CV.frzEs (x0.map intRow))], .val false [.lit (.int .i64 x1)]] [.val false [.lit (.int .i64 r)]] [] := by
  refine LCall.of_body tOk Try.func28 rfl (c := (.seq (Rg Try.f28 0) (.seq (.seq (Rg Try.f28 1) (.block 0 (.loop (.seq (.seq (Rg Try.f28 2) (.cond (.tmp 9) .skip (.exit 0))) (.seq (.block 1 (.seq (.seq (Rg Try.f28 4) (.cond (.tmp 17) (.seq (Rg Try.f28 5) .ret) .skip)) (Rg Try.f28 6))) (Rg Try.f28 3)))))) (.seq (Rg Try.f28 7) .ret)))) kr (Nat.le_of_ble_eq_true kr) 0 (rs := [.tmp 4]) rfl [] .nil [(false, [.lit (.int .i64 r)])] [] [] fun cx => ?_
  show Tr _ _ _ ⟨21, 0, [sC 0 (cF 1 x0 intRow), sI 1 x1], []⟩ _
  unfold laws_heldIntSF at H
  refine Tr.rgn tOk 1 19 0 kr kr ?_
  refine Tr.seq ?_
  refine Tr.rgn tOk 1 51 0 kr kr ?_
  obtain ⟨o4, eo4, Ho4⟩ := bind_some H
  clear H
  refine Tr.mid (ι := Int) (fun v => ⟨21, 0, [sI 4 0, sI 1 v], []⟩) (fun v => laws_heldIntS_J1 n v = some r) ?_ ?_
  · refine Tr.block ?_
    refine Tr.loop (ι := Nat × (Int × Int)) (fun v => ⟨21, 0, [sI 5 v.2.1, sI 4 0, sC 0 (cF 1 x0 intRow), sI 1 v.2.2], []⟩) (fun v => laws_heldIntS_L2 n v.1 x0 v.2.1 v.2.2 = some o4) (fun v => v.1) (n, (0, x1)) eo4 (St.sub_of [5, 4, 0, 1] [] kr) ?_
    rintro ⟨mo4, y1, y2⟩ H
    have H : laws_heldIntS_L2 n mo4 x0 y1 y2 = some o4 := H
    obtain _ | mo4 := mo4
    · cases (show (none : Option _) = some o4 from H)
    rw [laws_heldIntS_L2] at H
    refine Tr.seq ?_
    refine Tr.rs ?_
    refine LAt.runU tOk 2 kr ?_
    refine LAt.lenE tOk (t := 27) (ty := 3) (e := 3) (x := (.tmp 7)) (d := 8) (g := none) ⟨(.slot 7), [], 0, false, 1, (CV.frzEs (x0.map intRow))⟩ (x0).length _ kr kr kr kr kr (frz_len _ _) rfl ?_
    refine LAt.runU tOk 1 kr ?_
    refine LAt.doneM 1011 0 kr ?_
    cases h1 : (decide (y1 < (x0.length : Int)))
    · have H := bifF h1 H
      refine Tr.cF h1 kr ?_
      refine Tr.exit ?_
      refine And.intro (fun _ => ?_) (fun h => absurd rfl h)
      have H := Option.some.inj H
      subst H
      have H := Ho4
      dsimp only at H
      exact Exists.intro y2 (And.intro H (St.sub_of [4, 1] [] kr))
    have H := bifT h1 H
    refine Tr.cT h1 kr ?_
    refine Tr.skip ?_
    show Tr _ _ _ _ _
    refine Tr.seq ?_
    refine Tr.block ?_
    refine Tr.seq ?_
    refine Tr.rs ?_
    refine LAt.runU tOk 2 kr ?_
    obtain ⟨v5, ev5, H⟩ := bind_some H
    refine LAt.indexF tOk (t := 27) (ty := 0) (x := (.tmp 12)) (y := (.tmp 13)) (d := 14) (g := none) ⟨(.slot 12), [], 0, false, 1, (CV.frzEs (x0.map intRow))⟩ y1 [cI v5] _ kr kr kr kr rfl (idx_isF ev5) rfl ?_
    refine LAt.runU tOk 3 kr ?_
    refine LAt.doneM 259059 0 kr ?_
    cases h2 : (v5 != y2)
    · have H := bifF h2 H
      refine Tr.cF h2 kr ?_
      refine Tr.skip ?_
      show Tr _ _ _ _ _
      refine Tr.rgE tOk 3 1045491 0 kr kr ?_
      show Tr _ _ _ _ _
      refine Tr.rgE tOk 3 1048563 0 kr kr ?_
      exact Exists.intro (mo4, ((IntKind.wrap .i64 (y1 + 1)), (IntKind.wrap .i64 (y2 + 1)))) (And.intro H (And.intro (Nat.lt_succ_self mo4) (St.sub_of [5, 4, 0, 1] [] kr)))
    have H := bifT h2 H
    refine Tr.cT h2 kr ?_
    refine Tr.rgn tOk 1 259059 0 kr kr ?_
    refine Tr.ret ?_
    have H := Option.some.inj H
    subst H
    have H := Ho4
    dsimp only at H
    have H := Option.some.inj H
    subst H
    exact Fin.of _ [(false, [cI (-1)])] kr rfl rfl
  rintro y3 H
  have H : (laws_heldIntS_J1 n y3) = some r := H
  unfold laws_heldIntS_J1 at H
  show Tr _ _ _ _ _
  refine Tr.rgn tOk 2 16 0 kr kr ?_
  refine Tr.ret ?_
  have H := Option.some.inj H
  subst H
  exact Fin.of _ [(false, [cI y3])] kr rfl rfl

def laws_heldBindS_J1 (n : Nat) (y3 : Int) : Option (Int) :=
  (some y3)
def laws_heldBindS_L2 (n : Nat) : Nat → (List Bind) → Int → Int → Option ((Int) ⊕ (Int))
  | 0, _, _, _ => none
  | mo4 + 1, x0, y1, y2 => (bif (decide (y1 < (x0.length : Int))) then ((idx x0 y1).bind fun v5 => ((laws_heldIntSF n v5.O y2).bind fun r6 => (bif (decide (r6 < 0)) then (some (Sum.inr (-1))) else ((idx x0 y1).bind fun v7 => (bif (v7.V.K != r6) then (some (Sum.inr (-1))) else ((idx x0 y1).bind fun v8 => (bif (v8.V.N != (IntKind.wrap .i64 (r6 + 1))) then (some (Sum.inr (-1))) else ((idx x0 y1).bind fun v9 => ((laws_markTextF n (IntKind.wrap .i64 ((IntKind.wrap .i64 (r6 + 1)) + 1))).bind fun r10 => (bif (!(v9.V.S.toList == r10.toList)) then (some (Sum.inr (-1))) else ((idx x0 y1).bind fun v11 => ((laws_heldIntSF n v11.V.O (IntKind.wrap .i64 ((IntKind.wrap .i64 ((IntKind.wrap .i64 (r6 + 1)) + 1)) + 1))).bind fun r12 => (bif (decide (r12 < 0)) then (some (Sum.inr (-1))) else (laws_heldBindS_L2 n mo4 x0 (IntKind.wrap .i64 (y1 + 1)) r12)))))))))))))) else (some (Sum.inl y2)))
def laws_heldBindSF (n : Nat) (x0 : (List Bind)) (x1 : Int) : Option (Int) :=
  ((laws_heldBindS_L2 n n x0 0 x1).bind fun o => match o with | .inl y3 => (laws_heldBindS_J1 n y3) | .inr r => some r)
/-- loop.example/g00326/laws.heldBindS -/
theorem laws_heldBindS (n : Nat) (x0 : (List Bind)) (x1 : Int) (r : Int) (H : laws_heldBindSF n x0 x1 = some r) : LCall Try.prog 56 [.val false [.sl false 5 (CV.frzEs (x0.map Bind.row))], .val false [.lit (.int .i64 x1)]] [.val false [.lit (.int .i64 r)]] [] := by
  refine LCall.of_body tOk Try.func56 rfl (c := (.seq (Rg Try.f56 0) (.seq (.seq (Rg Try.f56 1) (.block 0 (.loop (.seq (.seq (Rg Try.f56 2) (.cond (.tmp 9) .skip (.exit 0))) (.seq (.block 1 (.seq (Rg Try.f56 4) (.seq (.seq (Rg Try.f56 5) (.cond (.tmp 20) (.seq (Rg Try.f56 6) .ret) .skip)) (.seq (.seq (Rg Try.f56 7) (.cond (.tmp 28) (.seq (Rg Try.f56 8) .ret) .skip)) (.seq (Rg Try.f56 9) (.seq (.seq (Rg Try.f56 10) (.cond (.tmp 38) (.seq (Rg Try.f56 11) .ret) .skip)) (.seq (Rg Try.f56 12) (.seq (.seq (Rd Try.f56 13) (.cond (.tmp 49) (.seq (Rg Try.f56 14) .ret) .skip)) (.seq (Rg Try.f56 15) (.seq (Rg Try.f56 16) (.seq (Rg Try.f56 17) (.cond (.tmp 61) (.seq (Rg Try.f56 18) .ret) .skip)))))))))))) (Rg Try.f56 3)))))) (.seq (Rg Try.f56 19) .ret)))) kr (Nat.le_of_ble_eq_true kr) 0 (rs := [.tmp 4]) rfl [] .nil [(false, [.lit (.int .i64 r)])] [] [] fun cx => ?_
  show Tr _ _ _ ⟨63, 0, [sC 0 (cF 5 x0 Bind.row), sI 1 x1], []⟩ _
  unfold laws_heldBindSF at H
  refine Tr.rgn tOk 1 19 0 kr kr ?_
  refine Tr.seq ?_
  refine Tr.rgn tOk 1 51 0 kr kr ?_
  obtain ⟨o4, eo4, Ho4⟩ := bind_some H
  clear H
  refine Tr.mid (ι := Int) (fun v => ⟨63, 0, [sI 4 0, sI 1 v], []⟩) (fun v => laws_heldBindS_J1 n v = some r) ?_ ?_
  · refine Tr.block ?_
    refine Tr.loop (ι := Nat × (Int × Int)) (fun v => ⟨63, 0, [sI 5 v.2.1, sI 4 0, sC 0 (cF 5 x0 Bind.row), sI 1 v.2.2], []⟩) (fun v => laws_heldBindS_L2 n v.1 x0 v.2.1 v.2.2 = some o4) (fun v => v.1) (n, (0, x1)) eo4 (St.sub_of [5, 4, 0, 1] [] kr) ?_
    rintro ⟨mo4, y1, y2⟩ H
    have H : laws_heldBindS_L2 n mo4 x0 y1 y2 = some o4 := H
    obtain _ | mo4 := mo4
    · cases (show (none : Option _) = some o4 from H)
    rw [laws_heldBindS_L2] at H
    refine Tr.seq ?_
    refine Tr.rs ?_
    refine LAt.runU tOk 2 kr ?_
    refine LAt.lenE tOk (t := 81) (ty := 3) (e := 86) (x := (.tmp 7)) (d := 8) (g := none) ⟨(.slot 7), [], 0, false, 5, (CV.frzEs (x0.map Bind.row))⟩ (x0).length _ kr kr kr kr kr (frz_len _ _) rfl ?_
    refine LAt.runU tOk 1 kr ?_
    refine LAt.doneM 1011 0 kr ?_
    cases h1 : (decide (y1 < (x0.length : Int)))
    · have H := bifF h1 H
      refine Tr.cF h1 kr ?_
      refine Tr.exit ?_
      refine And.intro (fun _ => ?_) (fun h => absurd rfl h)
      have H := Option.some.inj H
      subst H
      have H := Ho4
      dsimp only at H
      exact Exists.intro y2 (And.intro H (St.sub_of [4, 1] [] kr))
    have H := bifT h1 H
    refine Tr.cT h1 kr ?_
    refine Tr.skip ?_
    show Tr _ _ _ _ _
    refine Tr.seq ?_
    refine Tr.block ?_
    refine Tr.rs ?_
    refine LAt.runU tOk 2 kr ?_
    obtain ⟨v5, ev5, H⟩ := bind_some H
    refine LAt.indexF tOk (t := 81) (ty := 0) (x := (.tmp 12)) (y := (.tmp 13)) (d := 14) (g := none) ⟨(.slot 12), [], 0, false, 5, (CV.frzEs (x0.map Bind.row))⟩ y1 (CV.frzRow (Bind.row v5)) _ kr kr kr kr rfl (idx_isF ev5) rfl ?_
    refine LAt.runU tOk 3 kr ?_
    obtain ⟨r6, er6, H⟩ := bind_some H
    refine LAt.callV tOk [.rd, .rd] [] (laws_heldIntS n v5.O y2 r6 er6) kr kr kr kr (.inl rfl) ?_
    refine LAt.runU tOk 1 kr ?_
    refine LAt.doneM 521203 0 kr ?_
    refine Tr.seq ?_
    refine Tr.rgn tOk 2 2094067 0 kr kr ?_
    cases h2 : (decide (r6 < 0))
    · have H := bifF h2 H
      refine Tr.cF h2 kr ?_
      refine Tr.skip ?_
      show Tr _ _ _ _ _
      refine Tr.seq ?_
      refine Tr.rs ?_
      refine LAt.runU tOk 2 kr ?_
      obtain ⟨v7, ev7, H⟩ := bind_some H
      refine LAt.indexF tOk (t := 81) (ty := 0) (x := (.tmp 21)) (y := (.tmp 22)) (d := 23) (g := none) ⟨(.slot 21), [], 0, false, 5, (CV.frzEs (x0.map Bind.row))⟩ y1 (CV.frzRow (Bind.row v7)) _ kr kr kr kr rfl (idx_isF ev7) rfl ?_
      refine LAt.runU tOk 5 kr ?_
      refine LAt.doneM 536867827 0 kr ?_
      cases h3 : (v7.V.K != r6)
      · have H := bifF h3 H
        refine Tr.cF h3 kr ?_
        refine Tr.skip ?_
        show Tr _ _ _ _ _
        refine Tr.rgn tOk 3 2147480563 0 kr kr ?_
        refine Tr.seq ?_
        refine Tr.rs ?_
        refine LAt.runU tOk 2 kr ?_
        obtain ⟨v8, ev8, H⟩ := bind_some H
        refine LAt.indexF tOk (t := 81) (ty := 0) (x := (.tmp 31)) (y := (.tmp 32)) (d := 33) (g := none) ⟨(.slot 31), [], 0, false, 5, (CV.frzEs (x0.map Bind.row))⟩ y1 (CV.frzRow (Bind.row v8)) _ kr kr kr kr rfl (idx_isF ev8) rfl ?_
        refine LAt.runU tOk 5 kr ?_
        refine LAt.doneM 549755810803 0 kr ?_
        refine Tr.to ⟨63, 0, [sB 38 (v8.V.N != (IntKind.wrap .i64 (r6 + 1))), sI 37 (IntKind.wrap .i64 (r6 + 1)), sI 36 v8.V.N, (35, .fad (((CV.frzRow (Bind.row v8)).drop 2))), (34, .fad (((CV.frzRow (Bind.row v8)).drop 1))), (33, .fad ((CV.frzRow (Bind.row v8)))), sI 32 y1, sC 31 (cF 5 x0 Bind.row), sI 1 (IntKind.wrap .i64 (r6 + 1)), sI 30 (IntKind.wrap .i64 (r6 + 1)), sI 29 r6, sB 28 (v7.V.K != r6), sI 27 r6, sI 26 v7.V.K, (25, .fad (((CV.frzRow (Bind.row v7)).drop 1))), (24, .fad (((CV.frzRow (Bind.row v7)).drop 1))), (23, .fad ((CV.frzRow (Bind.row v7)))), sI 22 y1, sC 21 (cF 5 x0 Bind.row), sB 20 (decide (r6 < 0)), sI 19 r6, sI 18 r6, sI 17 y2, sC 16 (cF 1 v5.O intRow), (15, .fad ((CV.frzRow (Bind.row v5)))), (14, .fad ((CV.frzRow (Bind.row v5)))), sI 13 y1, sC 12 (cF 5 x0 Bind.row), sB 9 (decide (y1 < (x0.length : Int))), sI 8 (x0.length : Int), sC 7 (cF 5 x0 Bind.row), sI 6 y1, sI 5 y1, sI 4 0, sC 0 (cF 5 x0 Bind.row)], []⟩ kr ?_
        cases h4 : (v8.V.N != (IntKind.wrap .i64 (r6 + 1)))
        · have H := bifF h4 H
          refine Tr.cf kr ?_
          refine Tr.skip ?_
          show Tr _ _ _ _ _
          refine Tr.rgn tOk 3 2199023252467 0 kr kr ?_
          refine Tr.seq ?_
          obtain ⟨v9, ev9, H⟩ := bind_some H
          obtain ⟨r10, er10, H⟩ := bind_some H
          refine Tr.draws mixed 9 kr ⟨63, 0, [sB 49 (!(v9.V.S.toList == r10.toList)), sC 48 (cS r10), sI 47 (IntKind.wrap .i64 ((IntKind.wrap .i64 (r6 + 1)) + 1)), sC 46 (cS v9.V.S), (45, .fad (((CV.frzRow (Bind.row v9)).drop 3))), (44, .fad (((CV.frzRow (Bind.row v9)).drop 1))), (43, .fad ((CV.frzRow (Bind.row v9)))), sI 42 y1, sC 41 (cF 5 x0 Bind.row), sI 1 (IntKind.wrap .i64 ((IntKind.wrap .i64 (r6 + 1)) + 1)), sI 40 (IntKind.wrap .i64 ((IntKind.wrap .i64 (r6 + 1)) + 1)), sI 39 (IntKind.wrap .i64 (r6 + 1)), sB 38 false, sI 37 (IntKind.wrap .i64 (r6 + 1)), sI 36 v8.V.N, (35, .fad (((CV.frzRow (Bind.row v8)).drop 2))), (34, .fad (((CV.frzRow (Bind.row v8)).drop 1))), (33, .fad ((CV.frzRow (Bind.row v8)))), sI 32 y1, sC 31 (cF 5 x0 Bind.row), sI 30 (IntKind.wrap .i64 (r6 + 1)), sI 29 r6, sB 28 (v7.V.K != r6), sI 27 r6, sI 26 v7.V.K, (25, .fad (((CV.frzRow (Bind.row v7)).drop 1))), (24, .fad (((CV.frzRow (Bind.row v7)).drop 1))), (23, .fad ((CV.frzRow (Bind.row v7)))), sI 22 y1, sC 21 (cF 5 x0 Bind.row), sB 20 (decide (r6 < 0)), sI 19 r6, sI 18 r6, sI 17 y2, sC 16 (cF 1 v5.O intRow), (15, .fad ((CV.frzRow (Bind.row v5)))), (14, .fad ((CV.frzRow (Bind.row v5)))), sI 13 y1, sC 12 (cF 5 x0 Bind.row), sB 9 (decide (y1 < (x0.length : Int))), sI 8 (x0.length : Int), sC 7 (cF 5 x0 Bind.row), sI 6 y1, sI 5 y1, sI 4 0, sC 0 (cF 5 x0 Bind.row)], []⟩ (fun cx => ?_) ?_
          · refine AT.runU tOk [(0, []), (1, [])] 7 [] [1, 0] rfl kr (fun cx => ?_)
            refine AT.indexF tOk 2 (t := 81) (ty := 0) (x := (.tmp 41)) (y := (.tmp 42)) (d := 43) (g := none) ⟨(.slot 41), [], 0, false, 5, (CV.frzEs (x0.map Bind.row))⟩ y1 (CV.frzRow (Bind.row v9)) _ kr kr kr kr kr kr rfl (idx_isF ev9) rfl (fun cx => ?_)
            refine AT.runU tOk [(3, []), (4, []), (5, []), (6, [])] 2 [] [6, 5, 4, 3, 2, 1, 0] rfl kr (fun cx => ?_)
            refine AT.big1 tOk 7 kr kr ?_
            refine LAt.callV tOk [.rd] [] (laws_markText n (IntKind.wrap .i64 ((IntKind.wrap .i64 (r6 + 1)) + 1)) r10 er10) kr kr kr kr (.inl rfl) ?_
            refine LAt.fin kr (And.intro (And.intro kr kr) ?_)
            refine AT.runU tOk [(8, [])] 0 [] [8, 7, 6, 5, 4, 3, 2, 1, 0] rfl kr (fun cx => ?_)
            exact AT.done [49, 48, 47, 46, 45, 44, 43, 42, 41, 1, 40, 39, 38, 37, 36, 35, 34, 33, 32, 31, 30, 29, 28, 27, 26, 25, 24, 23, 22, 21, 20, 19, 18, 17, 16, 15, 14, 13, 12, 9, 8, 7, 6, 5, 4, 0] [] _ kr kr rfl
          refine Tr.to ⟨63, 0, [sB 49 (!(v9.V.S.toList == r10.toList)), sC 48 (cS r10), sI 47 (IntKind.wrap .i64 ((IntKind.wrap .i64 (r6 + 1)) + 1)), sC 46 (cS v9.V.S), (45, .fad (((CV.frzRow (Bind.row v9)).drop 3))), (44, .fad (((CV.frzRow (Bind.row v9)).drop 1))), (43, .fad ((CV.frzRow (Bind.row v9)))), sI 42 y1, sC 41 (cF 5 x0 Bind.row), sI 1 (IntKind.wrap .i64 ((IntKind.wrap .i64 (r6 + 1)) + 1)), sI 40 (IntKind.wrap .i64 ((IntKind.wrap .i64 (r6 + 1)) + 1)), sI 39 (IntKind.wrap .i64 (r6 + 1)), sB 38 false, sI 37 (IntKind.wrap .i64 (r6 + 1)), sI 36 v8.V.N, (35, .fad (((CV.frzRow (Bind.row v8)).drop 2))), (34, .fad (((CV.frzRow (Bind.row v8)).drop 1))), (33, .fad ((CV.frzRow (Bind.row v8)))), sI 32 y1, sC 31 (cF 5 x0 Bind.row), sI 30 (IntKind.wrap .i64 (r6 + 1)), sI 29 r6, sB 28 (v7.V.K != r6), sI 27 r6, sI 26 v7.V.K, (25, .fad (((CV.frzRow (Bind.row v7)).drop 1))), (24, .fad (((CV.frzRow (Bind.row v7)).drop 1))), (23, .fad ((CV.frzRow (Bind.row v7)))), sI 22 y1, sC 21 (cF 5 x0 Bind.row), sB 20 (decide (r6 < 0)), sI 19 r6, sI 18 r6, sI 17 y2, sC 16 (cF 1 v5.O intRow), (15, .fad ((CV.frzRow (Bind.row v5)))), (14, .fad ((CV.frzRow (Bind.row v5)))), sI 13 y1, sC 12 (cF 5 x0 Bind.row), sB 9 (decide (y1 < (x0.length : Int))), sI 8 (x0.length : Int), sC 7 (cF 5 x0 Bind.row), sI 6 y1, sI 5 y1, sI 4 0, sC 0 (cF 5 x0 Bind.row)], []⟩ kr ?_
          cases h5 : (!(v9.V.S.toList == r10.toList))
          · have H := bifF h5 H
            refine Tr.cf kr ?_
            refine Tr.skip ?_
            show Tr _ _ _ _ _
            refine Tr.rgn tOk 3 4503599627367411 0 kr kr ?_
            refine Tr.rs ?_
            refine LAt.runU tOk 2 kr ?_
            obtain ⟨v11, ev11, H⟩ := bind_some H
            refine LAt.indexF tOk (t := 81) (ty := 0) (x := (.tmp 52)) (y := (.tmp 53)) (d := 54) (g := none) ⟨(.slot 52), [], 0, false, 5, (CV.frzEs (x0.map Bind.row))⟩ y1 (CV.frzRow (Bind.row v11)) _ kr kr kr kr rfl (idx_isF ev11) rfl ?_
            refine LAt.runU tOk 4 kr ?_
            obtain ⟨r12, er12, H⟩ := bind_some H
            refine LAt.callV tOk [.rd, .rd] [] (laws_heldIntS n v11.V.O (IntKind.wrap .i64 ((IntKind.wrap .i64 ((IntKind.wrap .i64 (r6 + 1)) + 1)) + 1)) r12 er12) kr kr kr kr (.inl rfl) ?_
            refine LAt.runU tOk 1 kr ?_
            refine LAt.doneM 1152921504606843891 0 kr ?_
            refine Tr.rgn tOk 2 4611686018427384819 0 kr kr ?_
            cases h6 : (decide (r12 < 0))
            · have H := bifF h6 H
              refine Tr.cF h6 kr ?_
              refine Tr.skip ?_
              show Tr _ _ _ _ _
              refine Tr.rgE tOk 3 4611686018427387891 0 kr kr ?_
              exact Exists.intro (mo4, ((IntKind.wrap .i64 (y1 + 1)), r12)) (And.intro H (And.intro (Nat.lt_succ_self mo4) (St.sub_of [5, 4, 0, 1] [] kr)))
            have H := bifT h6 H
            refine Tr.cT h6 kr ?_
            refine Tr.rgn tOk 1 4611686018427384819 0 kr kr ?_
            refine Tr.ret ?_
            have H := Option.some.inj H
            subst H
            have H := Ho4
            dsimp only at H
            have H := Option.some.inj H
            subst H
            exact Fin.of _ [(false, [cI (-1)])] kr rfl rfl
          have H := bifT h5 H
          refine Tr.ct kr ?_
          refine Tr.rgn tOk 1 1125899906839539 0 kr kr ?_
          refine Tr.ret ?_
          have H := Option.some.inj H
          subst H
          have H := Ho4
          dsimp only at H
          have H := Option.some.inj H
          subst H
          exact Fin.of _ [(false, [cI (-1)])] kr rfl rfl
        have H := bifT h4 H
        refine Tr.ct kr ?_
        refine Tr.rgn tOk 1 549755810803 0 kr kr ?_
        refine Tr.ret ?_
        have H := Option.some.inj H
        subst H
        have H := Ho4
        dsimp only at H
        have H := Option.some.inj H
        subst H
        exact Fin.of _ [(false, [cI (-1)])] kr rfl rfl
      have H := bifT h3 H
      refine Tr.cT h3 kr ?_
      refine Tr.rgn tOk 1 536867827 0 kr kr ?_
      refine Tr.ret ?_
      have H := Option.some.inj H
      subst H
      have H := Ho4
      dsimp only at H
      have H := Option.some.inj H
      subst H
      exact Fin.of _ [(false, [cI (-1)])] kr rfl rfl
    have H := bifT h2 H
    refine Tr.cT h2 kr ?_
    refine Tr.rgn tOk 1 2094067 0 kr kr ?_
    refine Tr.ret ?_
    have H := Option.some.inj H
    subst H
    have H := Ho4
    dsimp only at H
    have H := Option.some.inj H
    subst H
    exact Fin.of _ [(false, [cI (-1)])] kr rfl rfl
  rintro y3 H
  have H : (laws_heldBindS_J1 n y3) = some r := H
  unfold laws_heldBindS_J1 at H
  show Tr _ _ _ _ _
  refine Tr.rgn tOk 2 16 0 kr kr ?_
  refine Tr.ret ?_
  have H := Option.some.inj H
  subst H
  exact Fin.of _ [(false, [cI y3])] kr rfl rfl

def laws_FnExactMibListF (n : Nat) (x0 : Bridge) : Option (Bool) :=
  ((laws_szBridgeF n x0 1048576).bind fun r1 => (bif (decide (r1 < 0)) then (some true) else ((laws_toBridgeF n x0).bind fun r2 => ((spec_MibListF n r2).bind fun r3 => ((laws_toBridgeF n x0).bind fun r4 => ((impl_MibListF n r4).bind fun r5 => ((laws_eqBindSF n r5 r3).bind fun r6 => (bif (!r6) then (some false) else ((laws_toBridgeF n x0).bind fun r7 => ((laws_eqBridgeF n r4 r7).bind fun r8 => (bif (!r8) then (some false) else ((laws_markBridgeF n r4 1).bind fun r9 => (bif (decide (r9.1 < 0)) then (some false) else ((laws_eqBindSF n r5 r3).bind fun r10 => (bif (!r10) then (some false) else ((laws_markBindSF n r5 1).bind fun r11 => ((laws_heldBindSF n r11.2 1).bind fun r12 => (bif (decide (r12 < 0)) then (some false) else (bif (r12 != r11.1) then (some false) else ((laws_toBridgeF n x0).bind fun r13 => ((impl_MibListF n r13).bind fun r14 => ((laws_eqBindSF n r14 r3).bind fun r15 => (bif (!r15) then (some false) else ((laws_heldBindSF n r11.2 1).bind fun r16 => (bif (decide (r16 < 0)) then (some false) else (bif (r16 != r11.1) then (some false) else (some true)))))))))))))))))))))))))))
/-- loop.example/g00326/laws.FnExactMibList -/
theorem laws_FnExactMibList (n : Nat) (x0 : Bridge) (r : Bool) (H : laws_FnExactMibListF n x0 = some r) : LCall Try.prog 13 [.val true (CV.frzRow (Bridge.row x0))] [.val false [.lit (.bool r)]] [] := by
  refine LCall.of_body tOk Try.func13 rfl (c := (.seq (Rg Try.f13 0) (.seq (Rg Try.f13 1) (.seq (Rg Try.f13 2) (.seq (.seq (Rg Try.f13 3) (.cond (.tmp 15) (.seq (Rg Try.f13 4) .ret) .skip)) (.seq (Rg Try.f13 5) (.seq (Rg Try.f13 6) (.seq (Rg Try.f13 7) (.seq (.seq (Rg Try.f13 8) (.cond (.tmp 26) (.seq (Rg Try.f13 9) .ret) .skip)) (.seq (.seq (Rd Try.f13 10) (.cond (.tmp 31) (.seq (Rg Try.f13 11) .ret) .skip)) (.seq (Rg Try.f13 12) (.seq (Rg Try.f13 13) (.seq (.seq (Rg Try.f13 14) (.cond (.tmp 42) (.seq (Rg Try.f13 15) .ret) .skip)) (.seq (Rg Try.f13 16) (.seq (Rg Try.f13 17) (.seq (Rg Try.f13 18) (.seq (Rg Try.f13 19) (.seq (.seq (Rg Try.f13 20) (.cond (.tmp 50) (.seq (Rg Try.f13 21) .ret) .skip)) (.seq (.seq (Rg Try.f13 22) (.cond (.tmp 53) (.seq (Rg Try.f13 23) .ret) .skip)) (.seq (Rg Try.f13 24) (.seq (.seq (Rg Try.f13 25) (.cond (.tmp 60) (.seq (Rg Try.f13 26) .ret) .skip)) (.seq (Rg Try.f13 27) (.seq (Rg Try.f13 28) (.seq (.seq (Rg Try.f13 29) (.cond (.tmp 65) (.seq (Rg Try.f13 30) .ret) .skip)) (.seq (.seq (Rg Try.f13 31) (.cond (.tmp 68) (.seq (Rg Try.f13 32) .ret) .skip)) (.seq (Rg Try.f13 33) .ret)))))))))))))))))))))))))) kr (Nat.le_of_ble_eq_true kr) 0 (rs := [.tmp 2]) rfl [] .nil [(false, [.lit (.bool r)])] [] [] fun cx => ?_
  show Tr _ _ _ ⟨69, 0, [sV 0 (CV.frzRow (Bridge.row x0))], []⟩ _
  unfold laws_FnExactMibListF at H
  refine Tr.rgn tOk 2 6 2 kr kr ?_
  refine Tr.rgn tOk 1 14 2 kr kr ?_
  refine Tr.rs ?_
  refine LAt.runU tOk 2 kr ?_
  obtain ⟨r1, er1, H⟩ := bind_some H
  refine LAt.callV tOk [.rd, .rd] [] (laws_szBridge n x0 1048576 r1 er1) kr kr kr kr (.inl rfl) ?_
  refine LAt.runU tOk 1 kr ?_
  refine LAt.doneM 14 2 kr ?_
  refine Tr.seq ?_
  refine Tr.rgn tOk 2 32774 2 kr kr ?_
  cases h1 : (decide (r1 < 0))
  · have H := bifF h1 H
    refine Tr.cF h1 kr ?_
    refine Tr.skip ?_
    show Tr _ _ _ _ _
    refine Tr.rs ?_
    refine LAt.runU tOk 1 kr ?_
    obtain ⟨r2, er2, H⟩ := bind_some H
    refine LAt.callV tOk [.rd] [] (laws_toBridge n x0 r2 er2) kr kr kr kr (.inl rfl) ?_
    obtain ⟨r3, er3, H⟩ := bind_some H
    refine LAt.callV tOk [.rd] [] (spec_MibList n r2 r3 er3) kr kr kr kr (.inl rfl) ?_
    refine LAt.moveU (T := lk tab) (ty := 81) (x := (.tmp 18)) (d := 4) (g := none) false [cL 5 r3 Bind.row] kr kr kr kr kr ?_
    refine LAt.doneM 22 2 kr ?_
    refine Tr.rs ?_
    refine LAt.runU tOk 1 kr ?_
    obtain ⟨r4, er4, H⟩ := bind_some H
    refine LAt.callV tOk [.rd] [] (laws_toBridge n x0 r4 er4) kr kr kr kr (.inl rfl) ?_
    refine LAt.runU tOk 2 kr ?_
    refine LAt.doneM 54 34 kr ?_
    refine Tr.rs ?_
    refine LAt.runU tOk 1 kr ?_
    obtain ⟨r5, er5, H⟩ := bind_some H
    refine LAt.callV tOk [.rd] [.box 5] (impl_MibList n r4 r5 er5) kr kr kr kr (.inr (rets_cons (mine_cons (mine_sl (mine_map Bind.row_mine _)) mine_nil) rets_nil)) ?_
    refine LAt.moveU (T := lk tab) (ty := 81) (x := (.tmp 22)) (d := 6) (g := none) false [cL 5 r5 Bind.row] kr kr kr kr kr ?_
    refine LAt.doneM 118 34 kr ?_
    refine Tr.seq ?_
    refine Tr.rs ?_
    refine LAt.runU tOk 2 kr ?_
    obtain ⟨r6, er6, H⟩ := bind_some H
    refine LAt.callV tOk [.rd, .rd] [.slot 6, .slot 4] (laws_eqBindS n r5 r3 r6 er6) kr kr kr kr (.inr (rets_cons (mine_cons mine_lit mine_nil) rets_nil)) ?_
    refine LAt.runU tOk 1 kr ?_
    refine LAt.doneM 67108982 34 kr ?_
    refine Tr.to ⟨69, 0, [sB 26 (!r6), sC 6 (cL 5 r5 Bind.row), sA 5 5 11 0, sC 4 (cL 5 r3 Bind.row), sB 2 false, sA 1 1 11 0], [(5, (Bridge.row r4)), (1, (CV.frzRow (Bridge.row x0)))]⟩ kr ?_
    cases h2 : (!r6)
    · have H := bifF h2 H
      refine Tr.cf kr ?_
      refine Tr.skip ?_
      show Tr _ _ _ _ _
      refine Tr.seq ?_
      obtain ⟨r7, er7, H⟩ := bind_some H
      obtain ⟨r8, er8, H⟩ := bind_some H
      refine Tr.draws mixed 5 kr ⟨69, 0, [sB 31 (!r8), sC 6 (cL 5 r5 Bind.row), sA 5 5 11 0, sC 4 (cL 5 r3 Bind.row), sB 2 false, sA 1 1 11 0], [(5, (Bridge.row r4)), (1, (CV.frzRow (Bridge.row x0)))]⟩ (fun cx => ?_) ?_
      · refine AT.runU tOk [(0, [3]), (1, [2, 3])] 3 [⟨[2, 3], 53, 1, 28⟩, ⟨[3], 61, 5, 27⟩] [1, 0] rfl kr (fun cx => ?_)
        refine AT.big1 tOk 2 kr kr ?_
        refine LAt.callV tOk [.rd] [] (laws_toBridge n x0 r7 er7) kr kr kr kr (.inl rfl) ?_
        refine LAt.fin kr (And.intro (And.intro kr kr) ?_)
        refine AT.big1 tOk 3 kr kr ?_
        refine LAt.callV tOk [.rd, .rd] [.box 5] (laws_eqBridge n r4 r7 r8 er8) kr kr kr kr (.inr (rets_cons (mine_cons mine_lit mine_nil) rets_nil)) ?_
        refine LAt.fin kr (And.intro (And.intro kr kr) ?_)
        refine AT.runU tOk [(4, [])] 0 [⟨[2, 3], 53, 1, 28⟩, ⟨[3], 61, 5, 27⟩] [4, 3, 2, 1, 0] rfl kr (fun cx => ?_)
        exact AT.done [31, 6, 5, 4, 2, 1] [5, 1] _ kr kr rfl
      refine Tr.to ⟨69, 0, [sB 31 (!r8), sC 6 (cL 5 r5 Bind.row), sA 5 5 11 0, sC 4 (cL 5 r3 Bind.row), sB 2 false, sA 1 1 11 0], [(5, (Bridge.row r4)), (1, (CV.frzRow (Bridge.row x0)))]⟩ kr ?_
      cases h3 : (!r8)
      · have H := bifF h3 H
        refine Tr.cf kr ?_
        refine Tr.skip ?_
        show Tr _ _ _ _ _
        refine Tr.rgn tOk 1 246 34 kr kr ?_
        refine Tr.rs ?_
        refine LAt.runU tOk 2 kr ?_
        obtain ⟨r9, er9, H⟩ := bind_some H
        refine LAt.callL tOk [.lend, .rd] (f := 40) (av := #[.tmp 32, .tmp 33]) (ats := #[61, 3]) (d := (some 34)) (ty := 3) (g := none) kr kr kr [] (laws_markBridge n r4 1 r9 er9) kr (.inl rfl) ?_
        refine LAt.runU tOk 1 kr ?_
        refine LAt.doneM 214 2 kr ?_
        refine Tr.seq ?_
        refine Tr.rs ?_
        refine LAt.runU tOk 3 kr ?_
        refine LAt.to ⟨69, 0, [sB 37 (decide (r9.1 < 0)), sB 36 (decide (r9.1 < 0)), sI 35 r9.1, sI 7 r9.1, sC 6 (cL 5 r5 Bind.row), sC 4 (cL 5 r3 Bind.row), sB 2 false, sA 1 1 11 0], [(1, (CV.frzRow (Bridge.row x0)))]⟩ kr ?_
        cases h4 : (decide (r9.1 < 0))
        · have H := bifF h4 H
          refine LAt.runU tOk 2 kr ?_
          obtain ⟨r10, er10, H⟩ := bind_some H
          refine LAt.callV tOk [.rd, .rd] [.slot 6, .slot 4] (laws_eqBindS n r5 r3 r10 er10) kr kr kr kr (.inr (rets_cons (mine_cons mine_lit mine_nil) rets_nil)) ?_
          refine LAt.runU tOk 2 kr ?_
          refine LAt.doneM 4398046511190 2 kr ?_
          cases h5 : (!r10)
          · have H := bifF h5 H
            refine Tr.cF h5 kr ?_
            refine Tr.skip ?_
            show Tr _ _ _ _ _
            refine Tr.rgn tOk 1 342 2 kr kr ?_
            refine Tr.rs ?_
            refine LAt.runU tOk 2 kr ?_
            obtain ⟨r11, er11, H⟩ := bind_some H
            refine LAt.callL tOk [.lend, .rd] (f := 55) (av := #[.tmp 43, .tmp 44]) (ats := #[81, 3]) (d := (some 45)) (ty := 3) (g := none) kr kr kr [] (laws_markBindS n r5 1 r11 er11) kr (.inl rfl) ?_
            refine LAt.runU tOk 1 kr ?_
            refine LAt.doneM 342 2 kr ?_
            refine Tr.rgn tOk 1 854 2 kr kr ?_
            refine Tr.rs ?_
            refine LAt.runU tOk 2 kr ?_
            obtain ⟨r12, er12, H⟩ := bind_some H
            refine LAt.callV tOk [.rd, .rd] [.slot 6] (laws_heldBindS n r11.2 1 r12 er12) kr kr kr kr (.inr (rets_cons (mine_cons mine_lit mine_nil) rets_nil)) ?_
            refine LAt.runU tOk 1 kr ?_
            refine LAt.doneM 854 2 kr ?_
            refine Tr.seq ?_
            refine Tr.rgn tOk 2 1125899906843478 2 kr kr ?_
            cases h6 : (decide (r12 < 0))
            · have H := bifF h6 H
              refine Tr.cF h6 kr ?_
              refine Tr.skip ?_
              show Tr _ _ _ _ _
              refine Tr.seq ?_
              refine Tr.rgn tOk 3 9007199254741846 2 kr kr ?_
              cases h7 : (r12 != r11.1)
              · have H := bifF h7 H
                refine Tr.cF h7 kr ?_
                refine Tr.skip ?_
                show Tr _ _ _ _ _
                refine Tr.rs ?_
                refine LAt.runU tOk 1 kr ?_
                obtain ⟨r13, er13, H⟩ := bind_some H
                refine LAt.callV tOk [.rd] [] (laws_toBridge n x0 r13 er13) kr kr kr kr (.inl rfl) ?_
                obtain ⟨r14, er14, H⟩ := bind_some H
                refine LAt.callV tOk [.rd] [] (impl_MibList n r13 r14 er14) kr kr kr kr (.inl rfl) ?_
                refine LAt.moveU (T := lk tab) (ty := 81) (x := (.tmp 56)) (d := 10) (g := none) false [cL 5 r14 Bind.row] kr kr kr kr kr ?_
                refine LAt.doneM 1876 0 kr ?_
                refine Tr.seq ?_
                refine Tr.rs ?_
                refine LAt.runU tOk 2 kr ?_
                obtain ⟨r15, er15, H⟩ := bind_some H
                refine LAt.callV tOk [.rd, .rd] [.slot 10, .slot 4] (laws_eqBindS n r14 r3 r15 er15) kr kr kr kr (.inr (rets_cons (mine_cons mine_lit mine_nil) rets_nil)) ?_
                refine LAt.runU tOk 1 kr ?_
                refine LAt.doneM 1152921504606847812 0 kr ?_
                refine Tr.to ⟨69, 0, [sB 60 (!r15), sI 9 r12, sI 8 r11.1, sC 6 (cL 5 r11.2 Bind.row), sB 2 false], []⟩ kr ?_
                cases h8 : (!r15)
                · have H := bifF h8 H
                  refine Tr.cf kr ?_
                  refine Tr.skip ?_
                  show Tr _ _ _ _ _
                  refine Tr.rgn tOk 1 836 0 kr kr ?_
                  refine Tr.rs ?_
                  refine LAt.runU tOk 2 kr ?_
                  obtain ⟨r16, er16, H⟩ := bind_some H
                  refine LAt.callV tOk [.rd, .rd] [.slot 6] (laws_heldBindS n r11.2 1 r16 er16) kr kr kr kr (.inr (rets_cons (mine_cons mine_lit mine_nil) rets_nil)) ?_
                  refine LAt.runU tOk 1 kr ?_
                  refine LAt.doneM 772 0 kr ?_
                  refine Tr.seq ?_
                  refine Tr.rgn tOk 2 36893488147419104004 0 kr kr ?_
                  cases h9 : (decide (r16 < 0))
                  · have H := bifF h9 H
                    refine Tr.cF h9 kr ?_
                    refine Tr.skip ?_
                    show Tr _ _ _ _ _
                    refine Tr.seq ?_
                    refine Tr.rgn tOk 3 295147905179352825860 0 kr kr ?_
                    cases h10 : (r16 != r11.1)
                    · have H := bifF h10 H
                      refine Tr.cF h10 kr ?_
                      refine Tr.skip ?_
                      show Tr _ _ _ _ _
                      refine Tr.rgn tOk 1 4 0 kr kr ?_
                      refine Tr.ret ?_
                      have H := Option.some.inj H
                      subst H
                      exact Fin.of _ [(false, [cB true])] kr rfl rfl
                    have H := bifT h10 H
                    refine Tr.cT h10 kr ?_
                    refine Tr.rgn tOk 1 4 0 kr kr ?_
                    refine Tr.ret ?_
                    have H := Option.some.inj H
                    subst H
                    exact Fin.of _ [(false, [cB false])] kr rfl rfl
                  have H := bifT h9 H
                  refine Tr.cT h9 kr ?_
                  refine Tr.rgn tOk 1 772 0 kr kr ?_
                  refine Tr.ret ?_
                  have H := Option.some.inj H
                  subst H
                  exact Fin.of _ [(false, [cB false])] kr rfl rfl
                have H := bifT h8 H
                refine Tr.ct kr ?_
                refine Tr.rgn tOk 1 836 0 kr kr ?_
                refine Tr.ret ?_
                have H := Option.some.inj H
                subst H
                exact Fin.of _ [(false, [cB false])] kr rfl rfl
              have H := bifT h7 H
              refine Tr.cT h7 kr ?_
              refine Tr.rgn tOk 1 854 2 kr kr ?_
              refine Tr.ret ?_
              have H := Option.some.inj H
              subst H
              exact Fin.of _ [(false, [cB false])] kr rfl rfl
            have H := bifT h6 H
            refine Tr.cT h6 kr ?_
            refine Tr.rgn tOk 1 854 2 kr kr ?_
            refine Tr.ret ?_
            have H := Option.some.inj H
            subst H
            exact Fin.of _ [(false, [cB false])] kr rfl rfl
          have H := bifT h5 H
          refine Tr.cT h5 kr ?_
          refine Tr.rgn tOk 1 86 2 kr kr ?_
          refine Tr.ret ?_
          have H := Option.some.inj H
          subst H
          exact Fin.of _ [(false, [cB false])] kr rfl rfl
        have H := bifT h4 H
        refine LAt.runU tOk 5 kr ?_
        refine LAt.doneM 4398046511190 2 kr ?_
        refine Tr.ct kr ?_
        refine Tr.rgn tOk 1 86 2 kr kr ?_
        refine Tr.ret ?_
        have H := Option.some.inj H
        subst H
        exact Fin.of _ [(false, [cB false])] kr rfl rfl
      have H := bifT h3 H
      refine Tr.ct kr ?_
      refine Tr.rgn tOk 1 118 34 kr kr ?_
      refine Tr.ret ?_
      have H := Option.some.inj H
      subst H
      exact Fin.of _ [(false, [cB false])] kr rfl rfl
    have H := bifT h2 H
    refine Tr.ct kr ?_
    refine Tr.rgn tOk 1 118 34 kr kr ?_
    refine Tr.ret ?_
    have H := Option.some.inj H
    subst H
    exact Fin.of _ [(false, [cB false])] kr rfl rfl
  have H := bifT h1 H
  refine Tr.cT h1 kr ?_
  refine Tr.rgn tOk 1 6 2 kr kr ?_
  refine Tr.ret ?_
  have H := Option.some.inj H
  subst H
  exact Fin.of _ [(false, [cB true])] kr rfl rfl
end Go.Proofs.Ytjdedhklbdkeoaa.Tw
