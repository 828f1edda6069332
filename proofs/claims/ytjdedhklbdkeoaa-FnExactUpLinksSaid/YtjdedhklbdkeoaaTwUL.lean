/- Functions of the program, over trees. -/
import Derived.Test.YtjdedhklbdkeoaaProg
import Derived.Test.YtjdedhklbdkeoaaTlRule
import Derived.Test.YtjdedhklbdkeoaaTlU5
import Derived.Test.YtjdedhklbdkeoaaTwUL1
import Derived.WalkKit
set_option linter.unusedVariables false
set_option linter.unusedSimpArgs false
set_option maxRecDepth 100000
set_option maxHeartbeats 1000000
namespace Go.Proofs.Ytjdedhklbdkeoaa.Tw
open Go Go.TL Go.Proofs


def laws_markBridgeS_J1 (n : Nat) (y4 : (List Bridge)) (y5 : Int) : Option (Int × (List Bridge)) :=
  (some (y5, y4))
def laws_markBridgeS_L2 (n : Nat) : Nat → Int → (List Bridge) → Int → Option (((List Bridge) × Int) ⊕ (Int × (List Bridge)))
  | 0, _, _, _ => none
  | mo6 + 1, y1, y2, y3 => (bif (decide (y1 < (y2.length : Int))) then ((idx y2 y1).bind fun v7 => ((laws_markTextF n (IntKind.wrap .i64 (y3 + 1))).bind fun r8 => ((idx (y2.set (y1.toNat) (⟨y3, v7.Name, v7.Ports, v7.F, v7.V, v7.Ticks, v7.Parse, v7.Word, v7.Drops, v7.Vers⟩ : Bridge)) y1).bind fun v9 => ((idx ((y2.set (y1.toNat) (⟨y3, v7.Name, v7.Ports, v7.F, v7.V, v7.Ticks, v7.Parse, v7.Word, v7.Drops, v7.Vers⟩ : Bridge)).set (y1.toNat) (⟨v9.Id, r8, v9.Ports, v9.F, v9.V, v9.Ticks, v9.Parse, v9.Word, v9.Drops, v9.Vers⟩ : Bridge)) y1).bind fun v10 => ((laws_markPtSF n v10.Ports (IntKind.wrap .i64 ((IntKind.wrap .i64 (y3 + 1)) + 1))).bind fun r11 => ((idx (((y2.set (y1.toNat) (⟨y3, v7.Name, v7.Ports, v7.F, v7.V, v7.Ticks, v7.Parse, v7.Word, v7.Drops, v7.Vers⟩ : Bridge)).set (y1.toNat) (⟨v9.Id, r8, v9.Ports, v9.F, v9.V, v9.Ticks, v9.Parse, v9.Word, v9.Drops, v9.Vers⟩ : Bridge)).set (y1.toNat) (⟨v10.Id, v10.Name, r11.2, v10.F, v10.V, v10.Ticks, v10.Parse, v10.Word, v10.Drops, v10.Vers⟩ : Bridge)) y1).bind fun v12 => ((laws_markFentSF n v12.F r11.1).bind fun r13 => ((idx ((((y2.set (y1.toNat) (⟨y3, v7.Name, v7.Ports, v7.F, v7.V, v7.Ticks, v7.Parse, v7.Word, v7.Drops, v7.Vers⟩ : Bridge)).set (y1.toNat) (⟨v9.Id, r8, v9.Ports, v9.F, v9.V, v9.Ticks, v9.Parse, v9.Word, v9.Drops, v9.Vers⟩ : Bridge)).set (y1.toNat) (⟨v10.Id, v10.Name, r11.2, v10.F, v10.V, v10.Ticks, v10.Parse, v10.Word, v10.Drops, v10.Vers⟩ : Bridge)).set (y1.toNat) (⟨v12.Id, v12.Name, v12.Ports, r13.2, v12.V, v12.Ticks, v12.Parse, v12.Word, v12.Drops, v12.Vers⟩ : Bridge)) y1).bind fun v14 => ((laws_markVrowSF n v14.V.Rows r13.1).bind fun r15 => ((idx (((((y2.set (y1.toNat) (⟨y3, v7.Name, v7.Ports, v7.F, v7.V, v7.Ticks, v7.Parse, v7.Word, v7.Drops, v7.Vers⟩ : Bridge)).set (y1.toNat) (⟨v9.Id, r8, v9.Ports, v9.F, v9.V, v9.Ticks, v9.Parse, v9.Word, v9.Drops, v9.Vers⟩ : Bridge)).set (y1.toNat) (⟨v10.Id, v10.Name, r11.2, v10.F, v10.V, v10.Ticks, v10.Parse, v10.Word, v10.Drops, v10.Vers⟩ : Bridge)).set (y1.toNat) (⟨v12.Id, v12.Name, v12.Ports, r13.2, v12.V, v12.Ticks, v12.Parse, v12.Word, v12.Drops, v12.Vers⟩ : Bridge)).set (y1.toNat) (⟨v14.Id, v14.Name, v14.Ports, v14.F, (⟨r15.2, v14.V.Pvid⟩ : Vtab), v14.Ticks, v14.Parse, v14.Word, v14.Drops, v14.Vers⟩ : Bridge)) y1).bind fun v16 => ((laws_markIntSF n v16.V.Pvid r15.1).bind fun r17 => ((idx ((((((y2.set (y1.toNat) (⟨y3, v7.Name, v7.Ports, v7.F, v7.V, v7.Ticks, v7.Parse, v7.Word, v7.Drops, v7.Vers⟩ : Bridge)).set (y1.toNat) (⟨v9.Id, r8, v9.Ports, v9.F, v9.V, v9.Ticks, v9.Parse, v9.Word, v9.Drops, v9.Vers⟩ : Bridge)).set (y1.toNat) (⟨v10.Id, v10.Name, r11.2, v10.F, v10.V, v10.Ticks, v10.Parse, v10.Word, v10.Drops, v10.Vers⟩ : Bridge)).set (y1.toNat) (⟨v12.Id, v12.Name, v12.Ports, r13.2, v12.V, v12.Ticks, v12.Parse, v12.Word, v12.Drops, v12.Vers⟩ : Bridge)).set (y1.toNat) (⟨v14.Id, v14.Name, v14.Ports, v14.F, (⟨r15.2, v14.V.Pvid⟩ : Vtab), v14.Ticks, v14.Parse, v14.Word, v14.Drops, v14.Vers⟩ : Bridge)).set (y1.toNat) (⟨v16.Id, v16.Name, v16.Ports, v16.F, (⟨v16.V.Rows, r17.2⟩ : Vtab), v16.Ticks, v16.Parse, v16.Word, v16.Drops, v16.Vers⟩ : Bridge)) y1).bind fun v18 => ((idx (((((((y2.set (y1.toNat) (⟨y3, v7.Name, v7.Ports, v7.F, v7.V, v7.Ticks, v7.Parse, v7.Word, v7.Drops, v7.Vers⟩ : Bridge)).set (y1.toNat) (⟨v9.Id, r8, v9.Ports, v9.F, v9.V, v9.Ticks, v9.Parse, v9.Word, v9.Drops, v9.Vers⟩ : Bridge)).set (y1.toNat) (⟨v10.Id, v10.Name, r11.2, v10.F, v10.V, v10.Ticks, v10.Parse, v10.Word, v10.Drops, v10.Vers⟩ : Bridge)).set (y1.toNat) (⟨v12.Id, v12.Name, v12.Ports, r13.2, v12.V, v12.Ticks, v12.Parse, v12.Word, v12.Drops, v12.Vers⟩ : Bridge)).set (y1.toNat) (⟨v14.Id, v14.Name, v14.Ports, v14.F, (⟨r15.2, v14.V.Pvid⟩ : Vtab), v14.Ticks, v14.Parse, v14.Word, v14.Drops, v14.Vers⟩ : Bridge)).set (y1.toNat) (⟨v16.Id, v16.Name, v16.Ports, v16.F, (⟨v16.V.Rows, r17.2⟩ : Vtab), v16.Ticks, v16.Parse, v16.Word, v16.Drops, v16.Vers⟩ : Bridge)).set (y1.toNat) (⟨v18.Id, v18.Name, v18.Ports, v18.F, v18.V, r17.1, v18.Parse, v18.Word, v18.Drops, v18.Vers⟩ : Bridge)) y1).bind fun v19 => ((idx ((((((((y2.set (y1.toNat) (⟨y3, v7.Name, v7.Ports, v7.F, v7.V, v7.Ticks, v7.Parse, v7.Word, v7.Drops, v7.Vers⟩ : Bridge)).set (y1.toNat) (⟨v9.Id, r8, v9.Ports, v9.F, v9.V, v9.Ticks, v9.Parse, v9.Word, v9.Drops, v9.Vers⟩ : Bridge)).set (y1.toNat) (⟨v10.Id, v10.Name, r11.2, v10.F, v10.V, v10.Ticks, v10.Parse, v10.Word, v10.Drops, v10.Vers⟩ : Bridge)).set (y1.toNat) (⟨v12.Id, v12.Name, v12.Ports, r13.2, v12.V, v12.Ticks, v12.Parse, v12.Word, v12.Drops, v12.Vers⟩ : Bridge)).set (y1.toNat) (⟨v14.Id, v14.Name, v14.Ports, v14.F, (⟨r15.2, v14.V.Pvid⟩ : Vtab), v14.Ticks, v14.Parse, v14.Word, v14.Drops, v14.Vers⟩ : Bridge)).set (y1.toNat) (⟨v16.Id, v16.Name, v16.Ports, v16.F, (⟨v16.V.Rows, r17.2⟩ : Vtab), v16.Ticks, v16.Parse, v16.Word, v16.Drops, v16.Vers⟩ : Bridge)).set (y1.toNat) (⟨v18.Id, v18.Name, v18.Ports, v18.F, v18.V, r17.1, v18.Parse, v18.Word, v18.Drops, v18.Vers⟩ : Bridge)).set (y1.toNat) (⟨v19.Id, v19.Name, v19.Ports, v19.F, v19.V, v19.Ticks, (IntKind.wrap .i64 (r17.1 + 1)), v19.Word, v19.Drops, v19.Vers⟩ : Bridge)) y1).bind fun v20 => ((idx (((((((((y2.set (y1.toNat) (⟨y3, v7.Name, v7.Ports, v7.F, v7.V, v7.Ticks, v7.Parse, v7.Word, v7.Drops, v7.Vers⟩ : Bridge)).set (y1.toNat) (⟨v9.Id, r8, v9.Ports, v9.F, v9.V, v9.Ticks, v9.Parse, v9.Word, v9.Drops, v9.Vers⟩ : Bridge)).set (y1.toNat) (⟨v10.Id, v10.Name, r11.2, v10.F, v10.V, v10.Ticks, v10.Parse, v10.Word, v10.Drops, v10.Vers⟩ : Bridge)).set (y1.toNat) (⟨v12.Id, v12.Name, v12.Ports, r13.2, v12.V, v12.Ticks, v12.Parse, v12.Word, v12.Drops, v12.Vers⟩ : Bridge)).set (y1.toNat) (⟨v14.Id, v14.Name, v14.Ports, v14.F, (⟨r15.2, v14.V.Pvid⟩ : Vtab), v14.Ticks, v14.Parse, v14.Word, v14.Drops, v14.Vers⟩ : Bridge)).set (y1.toNat) (⟨v16.Id, v16.Name, v16.Ports, v16.F, (⟨v16.V.Rows, r17.2⟩ : Vtab), v16.Ticks, v16.Parse, v16.Word, v16.Drops, v16.Vers⟩ : Bridge)).set (y1.toNat) (⟨v18.Id, v18.Name, v18.Ports, v18.F, v18.V, r17.1, v18.Parse, v18.Word, v18.Drops, v18.Vers⟩ : Bridge)).set (y1.toNat) (⟨v19.Id, v19.Name, v19.Ports, v19.F, v19.V, v19.Ticks, (IntKind.wrap .i64 (r17.1 + 1)), v19.Word, v19.Drops, v19.Vers⟩ : Bridge)).set (y1.toNat) (⟨v20.Id, v20.Name, v20.Ports, v20.F, v20.V, v20.Ticks, v20.Parse, (IntKind.wrap .i64 ((IntKind.wrap .i64 (r17.1 + 1)) + 1)), v20.Drops, v20.Vers⟩ : Bridge)) y1).bind fun v21 => ((idx ((((((((((y2.set (y1.toNat) (⟨y3, v7.Name, v7.Ports, v7.F, v7.V, v7.Ticks, v7.Parse, v7.Word, v7.Drops, v7.Vers⟩ : Bridge)).set (y1.toNat) (⟨v9.Id, r8, v9.Ports, v9.F, v9.V, v9.Ticks, v9.Parse, v9.Word, v9.Drops, v9.Vers⟩ : Bridge)).set (y1.toNat) (⟨v10.Id, v10.Name, r11.2, v10.F, v10.V, v10.Ticks, v10.Parse, v10.Word, v10.Drops, v10.Vers⟩ : Bridge)).set (y1.toNat) (⟨v12.Id, v12.Name, v12.Ports, r13.2, v12.V, v12.Ticks, v12.Parse, v12.Word, v12.Drops, v12.Vers⟩ : Bridge)).set (y1.toNat) (⟨v14.Id, v14.Name, v14.Ports, v14.F, (⟨r15.2, v14.V.Pvid⟩ : Vtab), v14.Ticks, v14.Parse, v14.Word, v14.Drops, v14.Vers⟩ : Bridge)).set (y1.toNat) (⟨v16.Id, v16.Name, v16.Ports, v16.F, (⟨v16.V.Rows, r17.2⟩ : Vtab), v16.Ticks, v16.Parse, v16.Word, v16.Drops, v16.Vers⟩ : Bridge)).set (y1.toNat) (⟨v18.Id, v18.Name, v18.Ports, v18.F, v18.V, r17.1, v18.Parse, v18.Word, v18.Drops, v18.Vers⟩ : Bridge)).set (y1.toNat) (⟨v19.Id, v19.Name, v19.Ports, v19.F, v19.V, v19.Ticks, (IntKind.wrap .i64 (r17.1 + 1)), v19.Word, v19.Drops, v19.Vers⟩ : Bridge)).set (y1.toNat) (⟨v20.Id, v20.Name, v20.Ports, v20.F, v20.V, v20.Ticks, v20.Parse, (IntKind.wrap .i64 ((IntKind.wrap .i64 (r17.1 + 1)) + 1)), v20.Drops, v20.Vers⟩ : Bridge)).set (y1.toNat) (⟨v21.Id, v21.Name, v21.Ports, v21.F, v21.V, v21.Ticks, v21.Parse, v21.Word, (IntKind.wrap .i64 ((IntKind.wrap .i64 ((IntKind.wrap .i64 (r17.1 + 1)) + 1)) + 1)), v21.Vers⟩ : Bridge)) y1).bind fun v22 => (laws_markBridgeS_L2 n mo6 (IntKind.wrap .i64 (y1 + 1)) (((((((((((y2.set (y1.toNat) (⟨y3, v7.Name, v7.Ports, v7.F, v7.V, v7.Ticks, v7.Parse, v7.Word, v7.Drops, v7.Vers⟩ : Bridge)).set (y1.toNat) (⟨v9.Id, r8, v9.Ports, v9.F, v9.V, v9.Ticks, v9.Parse, v9.Word, v9.Drops, v9.Vers⟩ : Bridge)).set (y1.toNat) (⟨v10.Id, v10.Name, r11.2, v10.F, v10.V, v10.Ticks, v10.Parse, v10.Word, v10.Drops, v10.Vers⟩ : Bridge)).set (y1.toNat) (⟨v12.Id, v12.Name, v12.Ports, r13.2, v12.V, v12.Ticks, v12.Parse, v12.Word, v12.Drops, v12.Vers⟩ : Bridge)).set (y1.toNat) (⟨v14.Id, v14.Name, v14.Ports, v14.F, (⟨r15.2, v14.V.Pvid⟩ : Vtab), v14.Ticks, v14.Parse, v14.Word, v14.Drops, v14.Vers⟩ : Bridge)).set (y1.toNat) (⟨v16.Id, v16.Name, v16.Ports, v16.F, (⟨v16.V.Rows, r17.2⟩ : Vtab), v16.Ticks, v16.Parse, v16.Word, v16.Drops, v16.Vers⟩ : Bridge)).set (y1.toNat) (⟨v18.Id, v18.Name, v18.Ports, v18.F, v18.V, r17.1, v18.Parse, v18.Word, v18.Drops, v18.Vers⟩ : Bridge)).set (y1.toNat) (⟨v19.Id, v19.Name, v19.Ports, v19.F, v19.V, v19.Ticks, (IntKind.wrap .i64 (r17.1 + 1)), v19.Word, v19.Drops, v19.Vers⟩ : Bridge)).set (y1.toNat) (⟨v20.Id, v20.Name, v20.Ports, v20.F, v20.V, v20.Ticks, v20.Parse, (IntKind.wrap .i64 ((IntKind.wrap .i64 (r17.1 + 1)) + 1)), v20.Drops, v20.Vers⟩ : Bridge)).set (y1.toNat) (⟨v21.Id, v21.Name, v21.Ports, v21.F, v21.V, v21.Ticks, v21.Parse, v21.Word, (IntKind.wrap .i64 ((IntKind.wrap .i64 ((IntKind.wrap .i64 (r17.1 + 1)) + 1)) + 1)), v21.Vers⟩ : Bridge)).set (y1.toNat) (⟨v22.Id, v22.Name, v22.Ports, v22.F, v22.V, v22.Ticks, v22.Parse, v22.Word, v22.Drops, (IntKind.wrap .i64 ((IntKind.wrap .i64 ((IntKind.wrap .i64 ((IntKind.wrap .i64 (r17.1 + 1)) + 1)) + 1)) + 1))⟩ : Bridge)) (IntKind.wrap .i64 ((IntKind.wrap .i64 ((IntKind.wrap .i64 ((IntKind.wrap .i64 ((IntKind.wrap .i64 (r17.1 + 1)) + 1)) + 1)) + 1)) + 1))))))))))))))))))) else (some (Sum.inl (y2, y3))))
def laws_markBridgeSF (n : Nat) (x0 : (List Bridge)) (x1 : Int) : Option (Int × (List Bridge)) :=
  ((laws_markBridgeS_L2 n n 0 x0 x1).bind fun o => match o with | .inl (y4, y5) => (laws_markBridgeS_J1 n y4 y5) | .inr r => some r)
/-- loop.example/g00326/laws.markBridgeS -/
theorem laws_markBridgeS (n : Nat) (x0 : (List Bridge)) (x1 : Int) (r : Int × (List Bridge)) (H : laws_markBridgeSF n x0 x1 = some r) : LCall Try.prog 81 [.io false [.sl true 11 (x0.map Bridge.row)], .val false [.lit (.int .i64 x1)]] [.val false [.lit (.int .i64 r.1)]] [(0, [.sl true 11 (r.2.map Bridge.row)])] := by
  refine LCall.of_body tOk Try.func81 rfl (c := (.seq (.region 0 (rg Try.f81 0) false) (.seq (.seq (.region 1 (rg Try.f81 1) false) (.block 0 (.loop (.seq (.seq (.region 2 (rg Try.f81 2) false) (.cond (.tmp 9) .skip (.exit 0))) (.seq (.block 1 (.seq (.region 4 (rg Try.f81 4) false) (.seq (.region 5 (rg Try.f81 5) false) (.seq (.region 6 (rg Try.f81 6) false) (.seq (.region 7 (rg Try.f81 7) false) (.seq (.region 8 (rg Try.f81 8) false) (.seq (.region 9 (rg Try.f81 9) false) (.seq (.region 10 (rg Try.f81 10) false) (.seq (.region 11 (rg Try.f81 11) false) (.seq (.region 12 (rg Try.f81 12) false) (.seq (.region 13 (rg Try.f81 13) false) (.seq (.region 14 (rg Try.f81 14) false) (.seq (.region 15 (rg Try.f81 15) false) (.seq (.region 16 (rg Try.f81 16) false) (.seq (.region 17 (rg Try.f81 17) false) (.seq (.region 18 (rg Try.f81 18) false) (.seq (.region 19 (rg Try.f81 19) false) (.seq (.region 20 (rg Try.f81 20) false) (.region 21 (rg Try.f81 21) false))))))))))))))))))) (.region 3 (rg Try.f81 3) false)))))) (.seq (.region 22 (rg Try.f81 22) false) .ret)))) (by kernel_rfl) (Nat.le_of_ble_eq_true (by kernel_rfl)) 1 (rs := [.tmp 4]) rfl [0] (by decide) [(false, [.lit (.int .i64 r.1)])] [[.sl true 11 (r.2.map Bridge.row)]] [] fun cx => ?_
  show Tr _ _ _ ⟨93, 1, [(0, .val false [.sl true 11 (x0.map Bridge.row)]), (1, .val false [.lit (.int .i64 x1)])], []⟩ _
  unfold laws_markBridgeSF at H
  refine Tr.rs ?_
  refine LAt.runU tOk 1 (by kernel_rfl) ?_
  refine LAt.doneU [4, 0, 1] [] (by kernel_rfl) ?_
  refine Tr.seq ?_
  refine Tr.rs ?_
  refine LAt.runU tOk 1 (by kernel_rfl) ?_
  refine LAt.doneU [5, 4, 0, 1] [] (by kernel_rfl) ?_
  obtain ⟨o6, eo6, Ho6⟩ := bind_some H
  clear H
  refine Tr.mid (ι := (List Bridge) × Int) (fun v => ⟨93, 1, [(4, .val false [.lit (.int .i64 0)]), (0, .val false [.sl true 11 (v.1.map Bridge.row)]), (1, .val false [.lit (.int .i64 v.2)])], []⟩) (fun v => laws_markBridgeS_J1 n v.1 v.2 = some r) ?_ ?_
  · refine Tr.block ?_
    refine Tr.loop (ι := Nat × (Int × (List Bridge) × Int)) (fun v => ⟨93, 1, [(5, .val false [.lit (.int .i64 v.2.1)]), (4, .val false [.lit (.int .i64 0)]), (0, .val false [.sl true 11 (v.2.2.1.map Bridge.row)]), (1, .val false [.lit (.int .i64 v.2.2.2)])], []⟩) (fun v => laws_markBridgeS_L2 n v.1 v.2.1 v.2.2.1 v.2.2.2 = some o6) (fun v => v.1) (n, (0, x0, x1)) eo6 (St.sub_of [5, 4, 0, 1] [] (by kernel_rfl)) ?_
    rintro ⟨mo6, y1, y2, y3⟩ H
    have H : laws_markBridgeS_L2 n mo6 y1 y2 y3 = some o6 := H
    obtain _ | mo6 := mo6
    · cases (show (none : Option _) = some o6 from H)
    · rw [laws_markBridgeS_L2] at H
      refine Tr.seq ?_
      refine Tr.rs ?_
      refine LAt.runU tOk 2 (by kernel_rfl) ?_
      refine LAt.lenE tOk (t := 30) (ty := 3) (e := 61) (x := (.tmp 7)) (d := 8) (g := none) ⟨(.slot 0), [], 0, true, 11, (y2.map Bridge.row)⟩ (y2).length _ (by kernel_rfl) (by kernel_rfl) (by kernel_rfl) (by kernel_rfl) (by kernel_rfl) (map_len _ _) rfl ?_
      refine LAt.runU tOk 1 (by kernel_rfl) ?_
      refine LAt.doneU [9, 8, 7, 6, 5, 4, 0, 1] [] (by kernel_rfl) ?_
      refine Tr.to ⟨93, 1, [(9, .val false [.lit (.bool (decide (y1 < (y2.length : Int))))]), (8, .val false [.lit (.int .i64 (y2.length : Int))]), (7, .ref (.slot 0) [] 0 0 1 false), (6, .val false [.lit (.int .i64 y1)]), (5, .val false [.lit (.int .i64 y1)]), (4, .val false [.lit (.int .i64 0)]), (0, .val false [.sl true 11 (y2.map Bridge.row)]), (1, .val false [.lit (.int .i64 y3)])], []⟩ (by kernel_rfl) ?_
      cases h1 : (decide (y1 < (y2.length : Int)))
      · have H := bifF h1 H
        refine Tr.cond (b := false) (by kernel_rfl) (fun h => nomatch h) (fun _ => ?_)
        refine Tr.exit ?_
        refine And.intro (fun _ => ?_) (fun h => absurd rfl h)
        have H := Option.some.inj H
        subst H
        have H := Ho6
        dsimp only at H
        exact Exists.intro (y2, y3) (And.intro H (St.sub_of [4, 0, 1] [] (by kernel_rfl)))
      · have H := bifT h1 H
        refine Tr.cond (b := true) (by kernel_rfl) (fun _ => ?_) (fun h => nomatch h)
        refine Tr.skip ?_
        show Tr _ _ _ _ _
        refine Tr.seq ?_
        refine Tr.block ?_
        refine Tr.rs ?_
        refine LAt.runU tOk 3 (by kernel_rfl) ?_
        obtain ⟨v7, ev7, H⟩ := bind_some H
        refine LAt.indexO tOk (t := 30) (ty := 0) (x := (.tmp 12)) (y := (.tmp 13)) (d := 15) (g := none) ⟨(.slot 0), [], 0, true, 11, (y2.map Bridge.row)⟩ y1 (y1.toNat) (Bridge.row v7) _ (by kernel_rfl) (by kernel_rfl) (by kernel_rfl) (by kernel_rfl) rfl (by kernel_rfl) (idx_isE ev7) rfl rfl ?_
        refine LAt.runU tOk 1 (by kernel_rfl) ?_
        refine LAt.storeK tOk (t := 3) (ty := 0) (ad := (.tmp 16)) (x := (.tmp 14)) (g := none) ⟨.int .i64, 1, 8, [.lit (.int .i64 0)]⟩ false [.lit (.int .i64 y3)] (.slot 0) [(0, (y1.toNat))] [(0, (y1.toNat))] 11 0 [.sl true 11 (y2.map Bridge.row)] (Bridge.row v7) [.sl true 11 (y2.map Bridge.row)] [.sl true 11 ((y2.set (y1.toNat) (⟨y3, v7.Name, v7.Ports, v7.F, v7.V, v7.Ticks, v7.Parse, v7.Word, v7.Drops, v7.Vers⟩ : Bridge)).map Bridge.row)] (by kernel_rfl) (by kernel_rfl) (by kernel_rfl) (by kernel_rfl) (by kernel_rfl) (by kernel_rfl) (getQ_elem rfl (idx_get ev7).2) rfl (by intro h; cases h) (by kernel_rfl) (by kernel_rfl) (by kernel_rfl) (modQ_elem (new := (⟨y3, v7.Name, v7.Ports, v7.F, v7.V, v7.Ticks, v7.Parse, v7.Word, v7.Drops, v7.Vers⟩ : Bridge)) rfl (idx_get ev7).2 rfl) (by kernel_rfl) ?_
        refine LAt.doneU [0, 16, 15, 14, 13, 9, 8, 6, 5, 4, 1, 12, 7] [] (by kernel_rfl) ?_
        refine Tr.rs ?_
        refine LAt.runU tOk 3 (by kernel_rfl) ?_
        refine LAt.doneU [1, 18, 17, 0, 16, 15, 14, 13, 9, 8, 6, 5, 4, 12, 7] [] (by kernel_rfl) ?_
        refine Tr.rs ?_
        refine LAt.runU tOk 3 (by kernel_rfl) ?_
        obtain ⟨r8, er8, H⟩ := bind_some H
        refine LAt.callU tOk [.rd] (f := 129) (av := #[.tmp 21]) (ats := #[3]) (d := (some 22)) (ty := 9) (g := none) (by kernel_rfl) (by kernel_rfl) (by kernel_rfl) [] (laws_markText n (IntKind.wrap .i64 (y3 + 1)) r8 er8) (by kernel_rfl) (.inl rfl) ?_
        obtain ⟨v9, ev9, H⟩ := bind_some H
        refine LAt.indexO tOk (t := 30) (ty := 0) (x := (.tmp 19)) (y := (.tmp 20)) (d := 23) (g := none) ⟨(.slot 0), [], 0, true, 11, ((y2.set (y1.toNat) (⟨y3, v7.Name, v7.Ports, v7.F, v7.V, v7.Ticks, v7.Parse, v7.Word, v7.Drops, v7.Vers⟩ : Bridge)).map Bridge.row)⟩ y1 (y1.toNat) (Bridge.row v9) _ (by kernel_rfl) (by kernel_rfl) (by kernel_rfl) (by kernel_rfl) rfl (by kernel_rfl) (idx_isE ev9) rfl rfl ?_
        refine LAt.runU tOk 1 (by kernel_rfl) ?_
        refine LAt.storeK tOk (t := 9) (ty := 0) (ad := (.tmp 24)) (x := (.tmp 22)) (g := none) ⟨.str, 1, 16, [.lit (.string ⟨#[]⟩)]⟩ false [.lit (.string r8)] (.slot 0) [(0, (y1.toNat))] [(0, (y1.toNat))] 11 1 [.sl true 11 ((y2.set (y1.toNat) (⟨y3, v7.Name, v7.Ports, v7.F, v7.V, v7.Ticks, v7.Parse, v7.Word, v7.Drops, v7.Vers⟩ : Bridge)).map Bridge.row)] (Bridge.row v9) [.sl true 11 ((y2.set (y1.toNat) (⟨y3, v7.Name, v7.Ports, v7.F, v7.V, v7.Ticks, v7.Parse, v7.Word, v7.Drops, v7.Vers⟩ : Bridge)).map Bridge.row)] [.sl true 11 (((y2.set (y1.toNat) (⟨y3, v7.Name, v7.Ports, v7.F, v7.V, v7.Ticks, v7.Parse, v7.Word, v7.Drops, v7.Vers⟩ : Bridge)).set (y1.toNat) (⟨v9.Id, r8, v9.Ports, v9.F, v9.V, v9.Ticks, v9.Parse, v9.Word, v9.Drops, v9.Vers⟩ : Bridge)).map Bridge.row)] (by kernel_rfl) (by kernel_rfl) (by kernel_rfl) (by kernel_rfl) (by kernel_rfl) (by kernel_rfl) (getQ_elem rfl (idx_get ev9).2) rfl (by intro h; cases h) (by kernel_rfl) (by kernel_rfl) (by kernel_rfl) (modQ_elem (new := (⟨v9.Id, r8, v9.Ports, v9.F, v9.V, v9.Ticks, v9.Parse, v9.Word, v9.Drops, v9.Vers⟩ : Bridge)) rfl (idx_get ev9).2 rfl) (by kernel_rfl) ?_
        refine LAt.doneU [0, 24, 23, 22, 21, 20, 1, 18, 17, 16, 15, 14, 13, 9, 8, 6, 5, 4, 19, 12, 7] [] (by kernel_rfl) ?_
        refine Tr.rs ?_
        refine LAt.runU tOk 3 (by kernel_rfl) ?_
        refine LAt.doneU [1, 26, 25, 0, 24, 23, 22, 21, 20, 18, 17, 16, 15, 14, 13, 9, 8, 6, 5, 4, 19, 12, 7] [] (by kernel_rfl) ?_
        refine Tr.rs ?_
        refine LAt.runU tOk 2 (by kernel_rfl) ?_
        obtain ⟨v10, ev10, H⟩ := bind_some H
        refine LAt.indexO tOk (t := 30) (ty := 0) (x := (.tmp 27)) (y := (.tmp 28)) (d := 29) (g := none) ⟨(.slot 0), [], 0, true, 11, (((y2.set (y1.toNat) (⟨y3, v7.Name, v7.Ports, v7.F, v7.V, v7.Ticks, v7.Parse, v7.Word, v7.Drops, v7.Vers⟩ : Bridge)).set (y1.toNat) (⟨v9.Id, r8, v9.Ports, v9.F, v9.V, v9.Ticks, v9.Parse, v9.Word, v9.Drops, v9.Vers⟩ : Bridge)).map Bridge.row)⟩ y1 (y1.toNat) (Bridge.row v10) _ (by kernel_rfl) (by kernel_rfl) (by kernel_rfl) (by kernel_rfl) rfl (by kernel_rfl) (idx_isE ev10) rfl rfl ?_
        refine LAt.runU tOk 1 (by kernel_rfl) ?_
        refine LAt.loadE tOk (t := 55) (ty := 55) (x := (.tmp 30)) (d := 31) (g := none) ⟨.sl 114, 1, 24, [.sl true 8 []]⟩ (.slot 0) [(0, (y1.toNat))] 11 2 [.sl true 11 (((y2.set (y1.toNat) (⟨y3, v7.Name, v7.Ports, v7.F, v7.V, v7.Ticks, v7.Parse, v7.Word, v7.Drops, v7.Vers⟩ : Bridge)).set (y1.toNat) (⟨v9.Id, r8, v9.Ports, v9.F, v9.V, v9.Ticks, v9.Parse, v9.Word, v9.Drops, v9.Vers⟩ : Bridge)).map Bridge.row)] (Bridge.row v10) _ (by kernel_rfl) (by kernel_rfl) (by kernel_rfl) (by kernel_rfl) (by kernel_rfl) (getQ_elem rfl (idx_get ev10).2) rfl (by intro h; cases h) (by kernel_rfl) (by kernel_rfl) rfl ?_
        refine LAt.runU tOk 1 (by kernel_rfl) ?_
        obtain ⟨r11, er11, H⟩ := bind_some H
        refine LAt.callO tOk [.lend, .rd] (f := 109) (av := #[.tmp 31, .tmp 32]) (ats := #[55, 3]) (d := (some 33)) (ty := 3) (g := none) [(31, Bridge.row v10)] (some [.sl true 11 ((((y2.set (y1.toNat) (⟨y3, v7.Name, v7.Ports, v7.F, v7.V, v7.Ticks, v7.Parse, v7.Word, v7.Drops, v7.Vers⟩ : Bridge)).set (y1.toNat) (⟨v9.Id, r8, v9.Ports, v9.F, v9.V, v9.Ticks, v9.Parse, v9.Word, v9.Drops, v9.Vers⟩ : Bridge)).set (y1.toNat) (⟨v10.Id, v10.Name, r11.2, v10.F, v10.V, v10.Ticks, v10.Parse, v10.Word, v10.Drops, v10.Vers⟩ : Bridge)).map Bridge.row)]) (by kernel_rfl) (by kernel_rfl) (by kernel_rfl) [] (laws_markPtS n v10.Ports (IntKind.wrap .i64 ((IntKind.wrap .i64 (y3 + 1)) + 1)) r11 er11) (orc_cons (row := [.sl true 11 (((y2.set (y1.toNat) (⟨y3, v7.Name, v7.Ports, v7.F, v7.V, v7.Ticks, v7.Parse, v7.Word, v7.Drops, v7.Vers⟩ : Bridge)).set (y1.toNat) (⟨v9.Id, r8, v9.Ports, v9.F, v9.V, v9.Ticks, v9.Parse, v9.Word, v9.Drops, v9.Vers⟩ : Bridge)).map Bridge.row)]) (q := [(0, (y1.toNat))]) (by kernel_rfl) (getQ_elem rfl (idx_get ev10).2) orc_nil) (by kernel_rfl) (nr_some [.sl true 11 (((y2.set (y1.toNat) (⟨y3, v7.Name, v7.Ports, v7.F, v7.V, v7.Ticks, v7.Parse, v7.Word, v7.Drops, v7.Vers⟩ : Bridge)).set (y1.toNat) (⟨v9.Id, r8, v9.Ports, v9.F, v9.V, v9.Ticks, v9.Parse, v9.Word, v9.Drops, v9.Vers⟩ : Bridge)).map Bridge.row)] [(0, (y1.toNat))] false 2 [.sl true 8 (r11.2.map Pt.row)] (by kernel_rfl) (modQ_elem (new := (⟨v10.Id, v10.Name, r11.2, v10.F, v10.V, v10.Ticks, v10.Parse, v10.Word, v10.Drops, v10.Vers⟩ : Bridge)) rfl (idx_get ev10).2 rfl)) (.inl rfl) ?_
        refine LAt.runU tOk 1 (by kernel_rfl) ?_
        refine LAt.doneU [1, 33, 0, 32, 28, 26, 25, 22, 21, 20, 18, 17, 14, 13, 9, 8, 6, 5, 4, 31] [] (by kernel_rfl) ?_
        refine Tr.rs ?_
        refine LAt.runU tOk 2 (by kernel_rfl) ?_
        obtain ⟨v12, ev12, H⟩ := bind_some H
        refine LAt.indexO tOk (t := 30) (ty := 0) (x := (.tmp 34)) (y := (.tmp 35)) (d := 36) (g := none) ⟨(.slot 0), [], 0, true, 11, ((((y2.set (y1.toNat) (⟨y3, v7.Name, v7.Ports, v7.F, v7.V, v7.Ticks, v7.Parse, v7.Word, v7.Drops, v7.Vers⟩ : Bridge)).set (y1.toNat) (⟨v9.Id, r8, v9.Ports, v9.F, v9.V, v9.Ticks, v9.Parse, v9.Word, v9.Drops, v9.Vers⟩ : Bridge)).set (y1.toNat) (⟨v10.Id, v10.Name, r11.2, v10.F, v10.V, v10.Ticks, v10.Parse, v10.Word, v10.Drops, v10.Vers⟩ : Bridge)).map Bridge.row)⟩ y1 (y1.toNat) (Bridge.row v12) _ (by kernel_rfl) (by kernel_rfl) (by kernel_rfl) (by kernel_rfl) rfl (by kernel_rfl) (idx_isE ev12) rfl rfl ?_
        refine LAt.runU tOk 1 (by kernel_rfl) ?_
        refine LAt.loadE tOk (t := 56) (ty := 56) (x := (.tmp 37)) (d := 38) (g := none) ⟨.sl 141, 1, 24, [.sl true 5 []]⟩ (.slot 0) [(0, (y1.toNat))] 11 3 [.sl true 11 ((((y2.set (y1.toNat) (⟨y3, v7.Name, v7.Ports, v7.F, v7.V, v7.Ticks, v7.Parse, v7.Word, v7.Drops, v7.Vers⟩ : Bridge)).set (y1.toNat) (⟨v9.Id, r8, v9.Ports, v9.F, v9.V, v9.Ticks, v9.Parse, v9.Word, v9.Drops, v9.Vers⟩ : Bridge)).set (y1.toNat) (⟨v10.Id, v10.Name, r11.2, v10.F, v10.V, v10.Ticks, v10.Parse, v10.Word, v10.Drops, v10.Vers⟩ : Bridge)).map Bridge.row)] (Bridge.row v12) _ (by kernel_rfl) (by kernel_rfl) (by kernel_rfl) (by kernel_rfl) (by kernel_rfl) (getQ_elem rfl (idx_get ev12).2) rfl (by intro h; cases h) (by kernel_rfl) (by kernel_rfl) rfl ?_
        refine LAt.runU tOk 1 (by kernel_rfl) ?_
        obtain ⟨r13, er13, H⟩ := bind_some H
        refine LAt.callO tOk [.lend, .rd] (f := 110) (av := #[.tmp 38, .tmp 39]) (ats := #[56, 3]) (d := (some 40)) (ty := 3) (g := none) [(38, Bridge.row v12)] (some [.sl true 11 (((((y2.set (y1.toNat) (⟨y3, v7.Name, v7.Ports, v7.F, v7.V, v7.Ticks, v7.Parse, v7.Word, v7.Drops, v7.Vers⟩ : Bridge)).set (y1.toNat) (⟨v9.Id, r8, v9.Ports, v9.F, v9.V, v9.Ticks, v9.Parse, v9.Word, v9.Drops, v9.Vers⟩ : Bridge)).set (y1.toNat) (⟨v10.Id, v10.Name, r11.2, v10.F, v10.V, v10.Ticks, v10.Parse, v10.Word, v10.Drops, v10.Vers⟩ : Bridge)).set (y1.toNat) (⟨v12.Id, v12.Name, v12.Ports, r13.2, v12.V, v12.Ticks, v12.Parse, v12.Word, v12.Drops, v12.Vers⟩ : Bridge)).map Bridge.row)]) (by kernel_rfl) (by kernel_rfl) (by kernel_rfl) [] (laws_markFentS n v12.F r11.1 r13 er13) (orc_cons (row := [.sl true 11 ((((y2.set (y1.toNat) (⟨y3, v7.Name, v7.Ports, v7.F, v7.V, v7.Ticks, v7.Parse, v7.Word, v7.Drops, v7.Vers⟩ : Bridge)).set (y1.toNat) (⟨v9.Id, r8, v9.Ports, v9.F, v9.V, v9.Ticks, v9.Parse, v9.Word, v9.Drops, v9.Vers⟩ : Bridge)).set (y1.toNat) (⟨v10.Id, v10.Name, r11.2, v10.F, v10.V, v10.Ticks, v10.Parse, v10.Word, v10.Drops, v10.Vers⟩ : Bridge)).map Bridge.row)]) (q := [(0, (y1.toNat))]) (by kernel_rfl) (getQ_elem rfl (idx_get ev12).2) orc_nil) (by kernel_rfl) (nr_some [.sl true 11 ((((y2.set (y1.toNat) (⟨y3, v7.Name, v7.Ports, v7.F, v7.V, v7.Ticks, v7.Parse, v7.Word, v7.Drops, v7.Vers⟩ : Bridge)).set (y1.toNat) (⟨v9.Id, r8, v9.Ports, v9.F, v9.V, v9.Ticks, v9.Parse, v9.Word, v9.Drops, v9.Vers⟩ : Bridge)).set (y1.toNat) (⟨v10.Id, v10.Name, r11.2, v10.F, v10.V, v10.Ticks, v10.Parse, v10.Word, v10.Drops, v10.Vers⟩ : Bridge)).map Bridge.row)] [(0, (y1.toNat))] false 3 [.sl true 5 (r13.2.map Fent.row)] (by kernel_rfl) (modQ_elem (new := (⟨v12.Id, v12.Name, v12.Ports, r13.2, v12.V, v12.Ticks, v12.Parse, v12.Word, v12.Drops, v12.Vers⟩ : Bridge)) rfl (idx_get ev12).2 rfl)) (.inl rfl) ?_
        refine LAt.runU tOk 1 (by kernel_rfl) ?_
        refine LAt.doneU [1, 40, 0, 39, 35, 33, 32, 28, 26, 25, 22, 21, 20, 18, 17, 14, 13, 9, 8, 6, 5, 4, 38, 31] [] (by kernel_rfl) ?_
        refine Tr.rs ?_
        refine LAt.runU tOk 2 (by kernel_rfl) ?_
        obtain ⟨v14, ev14, H⟩ := bind_some H
        refine LAt.indexO tOk (t := 30) (ty := 0) (x := (.tmp 41)) (y := (.tmp 42)) (d := 43) (g := none) ⟨(.slot 0), [], 0, true, 11, (((((y2.set (y1.toNat) (⟨y3, v7.Name, v7.Ports, v7.F, v7.V, v7.Ticks, v7.Parse, v7.Word, v7.Drops, v7.Vers⟩ : Bridge)).set (y1.toNat) (⟨v9.Id, r8, v9.Ports, v9.F, v9.V, v9.Ticks, v9.Parse, v9.Word, v9.Drops, v9.Vers⟩ : Bridge)).set (y1.toNat) (⟨v10.Id, v10.Name, r11.2, v10.F, v10.V, v10.Ticks, v10.Parse, v10.Word, v10.Drops, v10.Vers⟩ : Bridge)).set (y1.toNat) (⟨v12.Id, v12.Name, v12.Ports, r13.2, v12.V, v12.Ticks, v12.Parse, v12.Word, v12.Drops, v12.Vers⟩ : Bridge)).map Bridge.row)⟩ y1 (y1.toNat) (Bridge.row v14) _ (by kernel_rfl) (by kernel_rfl) (by kernel_rfl) (by kernel_rfl) rfl (by kernel_rfl) (idx_isE ev14) rfl rfl ?_
        refine LAt.runU tOk 2 (by kernel_rfl) ?_
        refine LAt.loadE tOk (t := 57) (ty := 57) (x := (.tmp 45)) (d := 46) (g := none) ⟨.sl 138, 1, 24, [.sl true 3 []]⟩ (.slot 0) [(0, (y1.toNat))] 11 4 [.sl true 11 (((((y2.set (y1.toNat) (⟨y3, v7.Name, v7.Ports, v7.F, v7.V, v7.Ticks, v7.Parse, v7.Word, v7.Drops, v7.Vers⟩ : Bridge)).set (y1.toNat) (⟨v9.Id, r8, v9.Ports, v9.F, v9.V, v9.Ticks, v9.Parse, v9.Word, v9.Drops, v9.Vers⟩ : Bridge)).set (y1.toNat) (⟨v10.Id, v10.Name, r11.2, v10.F, v10.V, v10.Ticks, v10.Parse, v10.Word, v10.Drops, v10.Vers⟩ : Bridge)).set (y1.toNat) (⟨v12.Id, v12.Name, v12.Ports, r13.2, v12.V, v12.Ticks, v12.Parse, v12.Word, v12.Drops, v12.Vers⟩ : Bridge)).map Bridge.row)] (Bridge.row v14) _ (by kernel_rfl) (by kernel_rfl) (by kernel_rfl) (by kernel_rfl) (by kernel_rfl) (getQ_elem rfl (idx_get ev14).2) rfl (by intro h; cases h) (by kernel_rfl) (by kernel_rfl) rfl ?_
        refine LAt.runU tOk 1 (by kernel_rfl) ?_
        obtain ⟨r15, er15, H⟩ := bind_some H
        refine LAt.callO tOk [.lend, .rd] (f := 140) (av := #[.tmp 46, .tmp 47]) (ats := #[57, 3]) (d := (some 48)) (ty := 3) (g := none) [(46, Bridge.row v14)] (some [.sl true 11 ((((((y2.set (y1.toNat) (⟨y3, v7.Name, v7.Ports, v7.F, v7.V, v7.Ticks, v7.Parse, v7.Word, v7.Drops, v7.Vers⟩ : Bridge)).set (y1.toNat) (⟨v9.Id, r8, v9.Ports, v9.F, v9.V, v9.Ticks, v9.Parse, v9.Word, v9.Drops, v9.Vers⟩ : Bridge)).set (y1.toNat) (⟨v10.Id, v10.Name, r11.2, v10.F, v10.V, v10.Ticks, v10.Parse, v10.Word, v10.Drops, v10.Vers⟩ : Bridge)).set (y1.toNat) (⟨v12.Id, v12.Name, v12.Ports, r13.2, v12.V, v12.Ticks, v12.Parse, v12.Word, v12.Drops, v12.Vers⟩ : Bridge)).set (y1.toNat) (⟨v14.Id, v14.Name, v14.Ports, v14.F, (⟨r15.2, v14.V.Pvid⟩ : Vtab), v14.Ticks, v14.Parse, v14.Word, v14.Drops, v14.Vers⟩ : Bridge)).map Bridge.row)]) (by kernel_rfl) (by kernel_rfl) (by kernel_rfl) [] (laws_markVrowS n v14.V.Rows r13.1 r15 er15) (orc_cons (row := [.sl true 11 (((((y2.set (y1.toNat) (⟨y3, v7.Name, v7.Ports, v7.F, v7.V, v7.Ticks, v7.Parse, v7.Word, v7.Drops, v7.Vers⟩ : Bridge)).set (y1.toNat) (⟨v9.Id, r8, v9.Ports, v9.F, v9.V, v9.Ticks, v9.Parse, v9.Word, v9.Drops, v9.Vers⟩ : Bridge)).set (y1.toNat) (⟨v10.Id, v10.Name, r11.2, v10.F, v10.V, v10.Ticks, v10.Parse, v10.Word, v10.Drops, v10.Vers⟩ : Bridge)).set (y1.toNat) (⟨v12.Id, v12.Name, v12.Ports, r13.2, v12.V, v12.Ticks, v12.Parse, v12.Word, v12.Drops, v12.Vers⟩ : Bridge)).map Bridge.row)]) (q := [(0, (y1.toNat))]) (by kernel_rfl) (getQ_elem rfl (idx_get ev14).2) orc_nil) (by kernel_rfl) (nr_some [.sl true 11 (((((y2.set (y1.toNat) (⟨y3, v7.Name, v7.Ports, v7.F, v7.V, v7.Ticks, v7.Parse, v7.Word, v7.Drops, v7.Vers⟩ : Bridge)).set (y1.toNat) (⟨v9.Id, r8, v9.Ports, v9.F, v9.V, v9.Ticks, v9.Parse, v9.Word, v9.Drops, v9.Vers⟩ : Bridge)).set (y1.toNat) (⟨v10.Id, v10.Name, r11.2, v10.F, v10.V, v10.Ticks, v10.Parse, v10.Word, v10.Drops, v10.Vers⟩ : Bridge)).set (y1.toNat) (⟨v12.Id, v12.Name, v12.Ports, r13.2, v12.V, v12.Ticks, v12.Parse, v12.Word, v12.Drops, v12.Vers⟩ : Bridge)).map Bridge.row)] [(0, (y1.toNat))] false 4 [.sl true 3 (r15.2.map Vrow.row)] (by kernel_rfl) (modQ_elem (new := (⟨v14.Id, v14.Name, v14.Ports, v14.F, (⟨r15.2, v14.V.Pvid⟩ : Vtab), v14.Ticks, v14.Parse, v14.Word, v14.Drops, v14.Vers⟩ : Bridge)) rfl (idx_get ev14).2 rfl)) (.inl rfl) ?_
        refine LAt.runU tOk 1 (by kernel_rfl) ?_
        refine LAt.doneU [1, 48, 0, 47, 42, 40, 39, 35, 33, 32, 28, 26, 25, 22, 21, 20, 18, 17, 14, 13, 9, 8, 6, 5, 4, 46, 38, 31] [] (by kernel_rfl) ?_
        refine Tr.rs ?_
        refine LAt.runU tOk 2 (by kernel_rfl) ?_
        obtain ⟨v16, ev16, H⟩ := bind_some H
        refine LAt.indexO tOk (t := 30) (ty := 0) (x := (.tmp 49)) (y := (.tmp 50)) (d := 51) (g := none) ⟨(.slot 0), [], 0, true, 11, ((((((y2.set (y1.toNat) (⟨y3, v7.Name, v7.Ports, v7.F, v7.V, v7.Ticks, v7.Parse, v7.Word, v7.Drops, v7.Vers⟩ : Bridge)).set (y1.toNat) (⟨v9.Id, r8, v9.Ports, v9.F, v9.V, v9.Ticks, v9.Parse, v9.Word, v9.Drops, v9.Vers⟩ : Bridge)).set (y1.toNat) (⟨v10.Id, v10.Name, r11.2, v10.F, v10.V, v10.Ticks, v10.Parse, v10.Word, v10.Drops, v10.Vers⟩ : Bridge)).set (y1.toNat) (⟨v12.Id, v12.Name, v12.Ports, r13.2, v12.V, v12.Ticks, v12.Parse, v12.Word, v12.Drops, v12.Vers⟩ : Bridge)).set (y1.toNat) (⟨v14.Id, v14.Name, v14.Ports, v14.F, (⟨r15.2, v14.V.Pvid⟩ : Vtab), v14.Ticks, v14.Parse, v14.Word, v14.Drops, v14.Vers⟩ : Bridge)).map Bridge.row)⟩ y1 (y1.toNat) (Bridge.row v16) _ (by kernel_rfl) (by kernel_rfl) (by kernel_rfl) (by kernel_rfl) rfl (by kernel_rfl) (idx_isE ev16) rfl rfl ?_
        refine LAt.runU tOk 2 (by kernel_rfl) ?_
        refine LAt.loadE tOk (t := 27) (ty := 27) (x := (.tmp 53)) (d := 54) (g := none) ⟨.sl 3, 1, 24, [.sl true 1 []]⟩ (.slot 0) [(0, (y1.toNat))] 11 5 [.sl true 11 ((((((y2.set (y1.toNat) (⟨y3, v7.Name, v7.Ports, v7.F, v7.V, v7.Ticks, v7.Parse, v7.Word, v7.Drops, v7.Vers⟩ : Bridge)).set (y1.toNat) (⟨v9.Id, r8, v9.Ports, v9.F, v9.V, v9.Ticks, v9.Parse, v9.Word, v9.Drops, v9.Vers⟩ : Bridge)).set (y1.toNat) (⟨v10.Id, v10.Name, r11.2, v10.F, v10.V, v10.Ticks, v10.Parse, v10.Word, v10.Drops, v10.Vers⟩ : Bridge)).set (y1.toNat) (⟨v12.Id, v12.Name, v12.Ports, r13.2, v12.V, v12.Ticks, v12.Parse, v12.Word, v12.Drops, v12.Vers⟩ : Bridge)).set (y1.toNat) (⟨v14.Id, v14.Name, v14.Ports, v14.F, (⟨r15.2, v14.V.Pvid⟩ : Vtab), v14.Ticks, v14.Parse, v14.Word, v14.Drops, v14.Vers⟩ : Bridge)).map Bridge.row)] (Bridge.row v16) _ (by kernel_rfl) (by kernel_rfl) (by kernel_rfl) (by kernel_rfl) (by kernel_rfl) (getQ_elem rfl (idx_get ev16).2) rfl (by intro h; cases h) (by kernel_rfl) (by kernel_rfl) rfl ?_
        refine LAt.runU tOk 1 (by kernel_rfl) ?_
        obtain ⟨r17, er17, H⟩ := bind_some H
        refine LAt.callO tOk [.lend, .rd] (f := 27) (av := #[.tmp 54, .tmp 55]) (ats := #[27, 3]) (d := (some 56)) (ty := 3) (g := none) [(54, Bridge.row v16)] (some [.sl true 11 (((((((y2.set (y1.toNat) (⟨y3, v7.Name, v7.Ports, v7.F, v7.V, v7.Ticks, v7.Parse, v7.Word, v7.Drops, v7.Vers⟩ : Bridge)).set (y1.toNat) (⟨v9.Id, r8, v9.Ports, v9.F, v9.V, v9.Ticks, v9.Parse, v9.Word, v9.Drops, v9.Vers⟩ : Bridge)).set (y1.toNat) (⟨v10.Id, v10.Name, r11.2, v10.F, v10.V, v10.Ticks, v10.Parse, v10.Word, v10.Drops, v10.Vers⟩ : Bridge)).set (y1.toNat) (⟨v12.Id, v12.Name, v12.Ports, r13.2, v12.V, v12.Ticks, v12.Parse, v12.Word, v12.Drops, v12.Vers⟩ : Bridge)).set (y1.toNat) (⟨v14.Id, v14.Name, v14.Ports, v14.F, (⟨r15.2, v14.V.Pvid⟩ : Vtab), v14.Ticks, v14.Parse, v14.Word, v14.Drops, v14.Vers⟩ : Bridge)).set (y1.toNat) (⟨v16.Id, v16.Name, v16.Ports, v16.F, (⟨v16.V.Rows, r17.2⟩ : Vtab), v16.Ticks, v16.Parse, v16.Word, v16.Drops, v16.Vers⟩ : Bridge)).map Bridge.row)]) (by kernel_rfl) (by kernel_rfl) (by kernel_rfl) [] (laws_markIntS n v16.V.Pvid r15.1 r17 er17) (orc_cons (row := [.sl true 11 ((((((y2.set (y1.toNat) (⟨y3, v7.Name, v7.Ports, v7.F, v7.V, v7.Ticks, v7.Parse, v7.Word, v7.Drops, v7.Vers⟩ : Bridge)).set (y1.toNat) (⟨v9.Id, r8, v9.Ports, v9.F, v9.V, v9.Ticks, v9.Parse, v9.Word, v9.Drops, v9.Vers⟩ : Bridge)).set (y1.toNat) (⟨v10.Id, v10.Name, r11.2, v10.F, v10.V, v10.Ticks, v10.Parse, v10.Word, v10.Drops, v10.Vers⟩ : Bridge)).set (y1.toNat) (⟨v12.Id, v12.Name, v12.Ports, r13.2, v12.V, v12.Ticks, v12.Parse, v12.Word, v12.Drops, v12.Vers⟩ : Bridge)).set (y1.toNat) (⟨v14.Id, v14.Name, v14.Ports, v14.F, (⟨r15.2, v14.V.Pvid⟩ : Vtab), v14.Ticks, v14.Parse, v14.Word, v14.Drops, v14.Vers⟩ : Bridge)).map Bridge.row)]) (q := [(0, (y1.toNat))]) (by kernel_rfl) (getQ_elem rfl (idx_get ev16).2) orc_nil) (by kernel_rfl) (nr_some [.sl true 11 ((((((y2.set (y1.toNat) (⟨y3, v7.Name, v7.Ports, v7.F, v7.V, v7.Ticks, v7.Parse, v7.Word, v7.Drops, v7.Vers⟩ : Bridge)).set (y1.toNat) (⟨v9.Id, r8, v9.Ports, v9.F, v9.V, v9.Ticks, v9.Parse, v9.Word, v9.Drops, v9.Vers⟩ : Bridge)).set (y1.toNat) (⟨v10.Id, v10.Name, r11.2, v10.F, v10.V, v10.Ticks, v10.Parse, v10.Word, v10.Drops, v10.Vers⟩ : Bridge)).set (y1.toNat) (⟨v12.Id, v12.Name, v12.Ports, r13.2, v12.V, v12.Ticks, v12.Parse, v12.Word, v12.Drops, v12.Vers⟩ : Bridge)).set (y1.toNat) (⟨v14.Id, v14.Name, v14.Ports, v14.F, (⟨r15.2, v14.V.Pvid⟩ : Vtab), v14.Ticks, v14.Parse, v14.Word, v14.Drops, v14.Vers⟩ : Bridge)).map Bridge.row)] [(0, (y1.toNat))] false 5 [.sl true 1 (r17.2.map intRow)] (by kernel_rfl) (modQ_elem (new := (⟨v16.Id, v16.Name, v16.Ports, v16.F, (⟨v16.V.Rows, r17.2⟩ : Vtab), v16.Ticks, v16.Parse, v16.Word, v16.Drops, v16.Vers⟩ : Bridge)) rfl (idx_get ev16).2 rfl)) (.inl rfl) ?_
        refine LAt.runU tOk 1 (by kernel_rfl) ?_
        refine LAt.doneU [1, 56, 0, 55, 50, 48, 47, 42, 40, 39, 35, 33, 32, 28, 26, 25, 22, 21, 20, 18, 17, 14, 13, 9, 8, 6, 5, 4, 54, 46, 38, 31] [] (by kernel_rfl) ?_
        refine Tr.rs ?_
        refine LAt.runU tOk 3 (by kernel_rfl) ?_
        obtain ⟨v18, ev18, H⟩ := bind_some H
        refine LAt.indexO tOk (t := 30) (ty := 0) (x := (.tmp 57)) (y := (.tmp 58)) (d := 60) (g := none) ⟨(.slot 0), [], 0, true, 11, (((((((y2.set (y1.toNat) (⟨y3, v7.Name, v7.Ports, v7.F, v7.V, v7.Ticks, v7.Parse, v7.Word, v7.Drops, v7.Vers⟩ : Bridge)).set (y1.toNat) (⟨v9.Id, r8, v9.Ports, v9.F, v9.V, v9.Ticks, v9.Parse, v9.Word, v9.Drops, v9.Vers⟩ : Bridge)).set (y1.toNat) (⟨v10.Id, v10.Name, r11.2, v10.F, v10.V, v10.Ticks, v10.Parse, v10.Word, v10.Drops, v10.Vers⟩ : Bridge)).set (y1.toNat) (⟨v12.Id, v12.Name, v12.Ports, r13.2, v12.V, v12.Ticks, v12.Parse, v12.Word, v12.Drops, v12.Vers⟩ : Bridge)).set (y1.toNat) (⟨v14.Id, v14.Name, v14.Ports, v14.F, (⟨r15.2, v14.V.Pvid⟩ : Vtab), v14.Ticks, v14.Parse, v14.Word, v14.Drops, v14.Vers⟩ : Bridge)).set (y1.toNat) (⟨v16.Id, v16.Name, v16.Ports, v16.F, (⟨v16.V.Rows, r17.2⟩ : Vtab), v16.Ticks, v16.Parse, v16.Word, v16.Drops, v16.Vers⟩ : Bridge)).map Bridge.row)⟩ y1 (y1.toNat) (Bridge.row v18) _ (by kernel_rfl) (by kernel_rfl) (by kernel_rfl) (by kernel_rfl) rfl (by kernel_rfl) (idx_isE ev18) rfl rfl ?_
        refine LAt.runU tOk 1 (by kernel_rfl) ?_
        refine LAt.storeK tOk (t := 3) (ty := 0) (ad := (.tmp 61)) (x := (.tmp 59)) (g := none) ⟨.int .i64, 1, 8, [.lit (.int .i64 0)]⟩ false [.lit (.int .i64 r17.1)] (.slot 0) [(0, (y1.toNat))] [(0, (y1.toNat))] 11 6 [.sl true 11 (((((((y2.set (y1.toNat) (⟨y3, v7.Name, v7.Ports, v7.F, v7.V, v7.Ticks, v7.Parse, v7.Word, v7.Drops, v7.Vers⟩ : Bridge)).set (y1.toNat) (⟨v9.Id, r8, v9.Ports, v9.F, v9.V, v9.Ticks, v9.Parse, v9.Word, v9.Drops, v9.Vers⟩ : Bridge)).set (y1.toNat) (⟨v10.Id, v10.Name, r11.2, v10.F, v10.V, v10.Ticks, v10.Parse, v10.Word, v10.Drops, v10.Vers⟩ : Bridge)).set (y1.toNat) (⟨v12.Id, v12.Name, v12.Ports, r13.2, v12.V, v12.Ticks, v12.Parse, v12.Word, v12.Drops, v12.Vers⟩ : Bridge)).set (y1.toNat) (⟨v14.Id, v14.Name, v14.Ports, v14.F, (⟨r15.2, v14.V.Pvid⟩ : Vtab), v14.Ticks, v14.Parse, v14.Word, v14.Drops, v14.Vers⟩ : Bridge)).set (y1.toNat) (⟨v16.Id, v16.Name, v16.Ports, v16.F, (⟨v16.V.Rows, r17.2⟩ : Vtab), v16.Ticks, v16.Parse, v16.Word, v16.Drops, v16.Vers⟩ : Bridge)).map Bridge.row)] (Bridge.row v18) [.sl true 11 (((((((y2.set (y1.toNat) (⟨y3, v7.Name, v7.Ports, v7.F, v7.V, v7.Ticks, v7.Parse, v7.Word, v7.Drops, v7.Vers⟩ : Bridge)).set (y1.toNat) (⟨v9.Id, r8, v9.Ports, v9.F, v9.V, v9.Ticks, v9.Parse, v9.Word, v9.Drops, v9.Vers⟩ : Bridge)).set (y1.toNat) (⟨v10.Id, v10.Name, r11.2, v10.F, v10.V, v10.Ticks, v10.Parse, v10.Word, v10.Drops, v10.Vers⟩ : Bridge)).set (y1.toNat) (⟨v12.Id, v12.Name, v12.Ports, r13.2, v12.V, v12.Ticks, v12.Parse, v12.Word, v12.Drops, v12.Vers⟩ : Bridge)).set (y1.toNat) (⟨v14.Id, v14.Name, v14.Ports, v14.F, (⟨r15.2, v14.V.Pvid⟩ : Vtab), v14.Ticks, v14.Parse, v14.Word, v14.Drops, v14.Vers⟩ : Bridge)).set (y1.toNat) (⟨v16.Id, v16.Name, v16.Ports, v16.F, (⟨v16.V.Rows, r17.2⟩ : Vtab), v16.Ticks, v16.Parse, v16.Word, v16.Drops, v16.Vers⟩ : Bridge)).map Bridge.row)] [.sl true 11 ((((((((y2.set (y1.toNat) (⟨y3, v7.Name, v7.Ports, v7.F, v7.V, v7.Ticks, v7.Parse, v7.Word, v7.Drops, v7.Vers⟩ : Bridge)).set (y1.toNat) (⟨v9.Id, r8, v9.Ports, v9.F, v9.V, v9.Ticks, v9.Parse, v9.Word, v9.Drops, v9.Vers⟩ : Bridge)).set (y1.toNat) (⟨v10.Id, v10.Name, r11.2, v10.F, v10.V, v10.Ticks, v10.Parse, v10.Word, v10.Drops, v10.Vers⟩ : Bridge)).set (y1.toNat) (⟨v12.Id, v12.Name, v12.Ports, r13.2, v12.V, v12.Ticks, v12.Parse, v12.Word, v12.Drops, v12.Vers⟩ : Bridge)).set (y1.toNat) (⟨v14.Id, v14.Name, v14.Ports, v14.F, (⟨r15.2, v14.V.Pvid⟩ : Vtab), v14.Ticks, v14.Parse, v14.Word, v14.Drops, v14.Vers⟩ : Bridge)).set (y1.toNat) (⟨v16.Id, v16.Name, v16.Ports, v16.F, (⟨v16.V.Rows, r17.2⟩ : Vtab), v16.Ticks, v16.Parse, v16.Word, v16.Drops, v16.Vers⟩ : Bridge)).set (y1.toNat) (⟨v18.Id, v18.Name, v18.Ports, v18.F, v18.V, r17.1, v18.Parse, v18.Word, v18.Drops, v18.Vers⟩ : Bridge)).map Bridge.row)] (by kernel_rfl) (by kernel_rfl) (by kernel_rfl) (by kernel_rfl) (by kernel_rfl) (by kernel_rfl) (getQ_elem rfl (idx_get ev18).2) rfl (by intro h; cases h) (by kernel_rfl) (by kernel_rfl) (by kernel_rfl) (modQ_elem (new := (⟨v18.Id, v18.Name, v18.Ports, v18.F, v18.V, r17.1, v18.Parse, v18.Word, v18.Drops, v18.Vers⟩ : Bridge)) rfl (idx_get ev18).2 rfl) (by kernel_rfl) ?_
        refine LAt.doneU [0, 61, 60, 59, 58, 1, 56, 55, 50, 48, 47, 42, 40, 39, 35, 33, 32, 28, 26, 25, 22, 21, 20, 18, 17, 14, 13, 9, 8, 6, 5, 4, 57] [] (by kernel_rfl) ?_
        refine Tr.rs ?_
        refine LAt.runU tOk 3 (by kernel_rfl) ?_
        refine LAt.doneU [1, 63, 62, 0, 61, 60, 59, 58, 56, 55, 50, 48, 47, 42, 40, 39, 35, 33, 32, 28, 26, 25, 22, 21, 20, 18, 17, 14, 13, 9, 8, 6, 5, 4, 57] [] (by kernel_rfl) ?_
        refine Tr.rs ?_
        refine LAt.runU tOk 3 (by kernel_rfl) ?_
        obtain ⟨v19, ev19, H⟩ := bind_some H
        refine LAt.indexO tOk (t := 30) (ty := 0) (x := (.tmp 64)) (y := (.tmp 65)) (d := 67) (g := none) ⟨(.slot 0), [], 0, true, 11, ((((((((y2.set (y1.toNat) (⟨y3, v7.Name, v7.Ports, v7.F, v7.V, v7.Ticks, v7.Parse, v7.Word, v7.Drops, v7.Vers⟩ : Bridge)).set (y1.toNat) (⟨v9.Id, r8, v9.Ports, v9.F, v9.V, v9.Ticks, v9.Parse, v9.Word, v9.Drops, v9.Vers⟩ : Bridge)).set (y1.toNat) (⟨v10.Id, v10.Name, r11.2, v10.F, v10.V, v10.Ticks, v10.Parse, v10.Word, v10.Drops, v10.Vers⟩ : Bridge)).set (y1.toNat) (⟨v12.Id, v12.Name, v12.Ports, r13.2, v12.V, v12.Ticks, v12.Parse, v12.Word, v12.Drops, v12.Vers⟩ : Bridge)).set (y1.toNat) (⟨v14.Id, v14.Name, v14.Ports, v14.F, (⟨r15.2, v14.V.Pvid⟩ : Vtab), v14.Ticks, v14.Parse, v14.Word, v14.Drops, v14.Vers⟩ : Bridge)).set (y1.toNat) (⟨v16.Id, v16.Name, v16.Ports, v16.F, (⟨v16.V.Rows, r17.2⟩ : Vtab), v16.Ticks, v16.Parse, v16.Word, v16.Drops, v16.Vers⟩ : Bridge)).set (y1.toNat) (⟨v18.Id, v18.Name, v18.Ports, v18.F, v18.V, r17.1, v18.Parse, v18.Word, v18.Drops, v18.Vers⟩ : Bridge)).map Bridge.row)⟩ y1 (y1.toNat) (Bridge.row v19) _ (by kernel_rfl) (by kernel_rfl) (by kernel_rfl) (by kernel_rfl) rfl (by kernel_rfl) (idx_isE ev19) rfl rfl ?_
        refine LAt.runU tOk 1 (by kernel_rfl) ?_
        refine LAt.storeK tOk (t := 3) (ty := 0) (ad := (.tmp 68)) (x := (.tmp 66)) (g := none) ⟨.int .i64, 1, 8, [.lit (.int .i64 0)]⟩ false [.lit (.int .i64 (IntKind.wrap .i64 (r17.1 + 1)))] (.slot 0) [(0, (y1.toNat))] [(0, (y1.toNat))] 11 7 [.sl true 11 ((((((((y2.set (y1.toNat) (⟨y3, v7.Name, v7.Ports, v7.F, v7.V, v7.Ticks, v7.Parse, v7.Word, v7.Drops, v7.Vers⟩ : Bridge)).set (y1.toNat) (⟨v9.Id, r8, v9.Ports, v9.F, v9.V, v9.Ticks, v9.Parse, v9.Word, v9.Drops, v9.Vers⟩ : Bridge)).set (y1.toNat) (⟨v10.Id, v10.Name, r11.2, v10.F, v10.V, v10.Ticks, v10.Parse, v10.Word, v10.Drops, v10.Vers⟩ : Bridge)).set (y1.toNat) (⟨v12.Id, v12.Name, v12.Ports, r13.2, v12.V, v12.Ticks, v12.Parse, v12.Word, v12.Drops, v12.Vers⟩ : Bridge)).set (y1.toNat) (⟨v14.Id, v14.Name, v14.Ports, v14.F, (⟨r15.2, v14.V.Pvid⟩ : Vtab), v14.Ticks, v14.Parse, v14.Word, v14.Drops, v14.Vers⟩ : Bridge)).set (y1.toNat) (⟨v16.Id, v16.Name, v16.Ports, v16.F, (⟨v16.V.Rows, r17.2⟩ : Vtab), v16.Ticks, v16.Parse, v16.Word, v16.Drops, v16.Vers⟩ : Bridge)).set (y1.toNat) (⟨v18.Id, v18.Name, v18.Ports, v18.F, v18.V, r17.1, v18.Parse, v18.Word, v18.Drops, v18.Vers⟩ : Bridge)).map Bridge.row)] (Bridge.row v19) [.sl true 11 ((((((((y2.set (y1.toNat) (⟨y3, v7.Name, v7.Ports, v7.F, v7.V, v7.Ticks, v7.Parse, v7.Word, v7.Drops, v7.Vers⟩ : Bridge)).set (y1.toNat) (⟨v9.Id, r8, v9.Ports, v9.F, v9.V, v9.Ticks, v9.Parse, v9.Word, v9.Drops, v9.Vers⟩ : Bridge)).set (y1.toNat) (⟨v10.Id, v10.Name, r11.2, v10.F, v10.V, v10.Ticks, v10.Parse, v10.Word, v10.Drops, v10.Vers⟩ : Bridge)).set (y1.toNat) (⟨v12.Id, v12.Name, v12.Ports, r13.2, v12.V, v12.Ticks, v12.Parse, v12.Word, v12.Drops, v12.Vers⟩ : Bridge)).set (y1.toNat) (⟨v14.Id, v14.Name, v14.Ports, v14.F, (⟨r15.2, v14.V.Pvid⟩ : Vtab), v14.Ticks, v14.Parse, v14.Word, v14.Drops, v14.Vers⟩ : Bridge)).set (y1.toNat) (⟨v16.Id, v16.Name, v16.Ports, v16.F, (⟨v16.V.Rows, r17.2⟩ : Vtab), v16.Ticks, v16.Parse, v16.Word, v16.Drops, v16.Vers⟩ : Bridge)).set (y1.toNat) (⟨v18.Id, v18.Name, v18.Ports, v18.F, v18.V, r17.1, v18.Parse, v18.Word, v18.Drops, v18.Vers⟩ : Bridge)).map Bridge.row)] [.sl true 11 (((((((((y2.set (y1.toNat) (⟨y3, v7.Name, v7.Ports, v7.F, v7.V, v7.Ticks, v7.Parse, v7.Word, v7.Drops, v7.Vers⟩ : Bridge)).set (y1.toNat) (⟨v9.Id, r8, v9.Ports, v9.F, v9.V, v9.Ticks, v9.Parse, v9.Word, v9.Drops, v9.Vers⟩ : Bridge)).set (y1.toNat) (⟨v10.Id, v10.Name, r11.2, v10.F, v10.V, v10.Ticks, v10.Parse, v10.Word, v10.Drops, v10.Vers⟩ : Bridge)).set (y1.toNat) (⟨v12.Id, v12.Name, v12.Ports, r13.2, v12.V, v12.Ticks, v12.Parse, v12.Word, v12.Drops, v12.Vers⟩ : Bridge)).set (y1.toNat) (⟨v14.Id, v14.Name, v14.Ports, v14.F, (⟨r15.2, v14.V.Pvid⟩ : Vtab), v14.Ticks, v14.Parse, v14.Word, v14.Drops, v14.Vers⟩ : Bridge)).set (y1.toNat) (⟨v16.Id, v16.Name, v16.Ports, v16.F, (⟨v16.V.Rows, r17.2⟩ : Vtab), v16.Ticks, v16.Parse, v16.Word, v16.Drops, v16.Vers⟩ : Bridge)).set (y1.toNat) (⟨v18.Id, v18.Name, v18.Ports, v18.F, v18.V, r17.1, v18.Parse, v18.Word, v18.Drops, v18.Vers⟩ : Bridge)).set (y1.toNat) (⟨v19.Id, v19.Name, v19.Ports, v19.F, v19.V, v19.Ticks, (IntKind.wrap .i64 (r17.1 + 1)), v19.Word, v19.Drops, v19.Vers⟩ : Bridge)).map Bridge.row)] (by kernel_rfl) (by kernel_rfl) (by kernel_rfl) (by kernel_rfl) (by kernel_rfl) (by kernel_rfl) (getQ_elem rfl (idx_get ev19).2) rfl (by intro h; cases h) (by kernel_rfl) (by kernel_rfl) (by kernel_rfl) (modQ_elem (new := (⟨v19.Id, v19.Name, v19.Ports, v19.F, v19.V, v19.Ticks, (IntKind.wrap .i64 (r17.1 + 1)), v19.Word, v19.Drops, v19.Vers⟩ : Bridge)) rfl (idx_get ev19).2 rfl) (by kernel_rfl) ?_
        refine LAt.doneU [0, 68, 67, 66, 65, 1, 63, 62, 61, 60, 59, 58, 56, 55, 50, 48, 47, 42, 40, 39, 35, 33, 32, 28, 26, 25, 22, 21, 20, 18, 17, 14, 13, 9, 8, 6, 5, 4, 64, 57] [] (by kernel_rfl) ?_
        refine Tr.rs ?_
        refine LAt.runU tOk 3 (by kernel_rfl) ?_
        refine LAt.doneU [1, 70, 69, 0, 68, 67, 66, 65, 63, 62, 61, 60, 59, 58, 56, 55, 50, 48, 47, 42, 40, 39, 35, 33, 32, 28, 26, 25, 22, 21, 20, 18, 17, 14, 13, 9, 8, 6, 5, 4, 64, 57] [] (by kernel_rfl) ?_
        refine Tr.rs ?_
        refine LAt.runU tOk 3 (by kernel_rfl) ?_
        obtain ⟨v20, ev20, H⟩ := bind_some H
        refine LAt.indexO tOk (t := 30) (ty := 0) (x := (.tmp 71)) (y := (.tmp 72)) (d := 74) (g := none) ⟨(.slot 0), [], 0, true, 11, (((((((((y2.set (y1.toNat) (⟨y3, v7.Name, v7.Ports, v7.F, v7.V, v7.Ticks, v7.Parse, v7.Word, v7.Drops, v7.Vers⟩ : Bridge)).set (y1.toNat) (⟨v9.Id, r8, v9.Ports, v9.F, v9.V, v9.Ticks, v9.Parse, v9.Word, v9.Drops, v9.Vers⟩ : Bridge)).set (y1.toNat) (⟨v10.Id, v10.Name, r11.2, v10.F, v10.V, v10.Ticks, v10.Parse, v10.Word, v10.Drops, v10.Vers⟩ : Bridge)).set (y1.toNat) (⟨v12.Id, v12.Name, v12.Ports, r13.2, v12.V, v12.Ticks, v12.Parse, v12.Word, v12.Drops, v12.Vers⟩ : Bridge)).set (y1.toNat) (⟨v14.Id, v14.Name, v14.Ports, v14.F, (⟨r15.2, v14.V.Pvid⟩ : Vtab), v14.Ticks, v14.Parse, v14.Word, v14.Drops, v14.Vers⟩ : Bridge)).set (y1.toNat) (⟨v16.Id, v16.Name, v16.Ports, v16.F, (⟨v16.V.Rows, r17.2⟩ : Vtab), v16.Ticks, v16.Parse, v16.Word, v16.Drops, v16.Vers⟩ : Bridge)).set (y1.toNat) (⟨v18.Id, v18.Name, v18.Ports, v18.F, v18.V, r17.1, v18.Parse, v18.Word, v18.Drops, v18.Vers⟩ : Bridge)).set (y1.toNat) (⟨v19.Id, v19.Name, v19.Ports, v19.F, v19.V, v19.Ticks, (IntKind.wrap .i64 (r17.1 + 1)), v19.Word, v19.Drops, v19.Vers⟩ : Bridge)).map Bridge.row)⟩ y1 (y1.toNat) (Bridge.row v20) _ (by kernel_rfl) (by kernel_rfl) (by kernel_rfl) (by kernel_rfl) rfl (by kernel_rfl) (idx_isE ev20) rfl rfl ?_
        refine LAt.runU tOk 1 (by kernel_rfl) ?_
        refine LAt.storeK tOk (t := 3) (ty := 0) (ad := (.tmp 75)) (x := (.tmp 73)) (g := none) ⟨.int .i64, 1, 8, [.lit (.int .i64 0)]⟩ false [.lit (.int .i64 (IntKind.wrap .i64 ((IntKind.wrap .i64 (r17.1 + 1)) + 1)))] (.slot 0) [(0, (y1.toNat))] [(0, (y1.toNat))] 11 8 [.sl true 11 (((((((((y2.set (y1.toNat) (⟨y3, v7.Name, v7.Ports, v7.F, v7.V, v7.Ticks, v7.Parse, v7.Word, v7.Drops, v7.Vers⟩ : Bridge)).set (y1.toNat) (⟨v9.Id, r8, v9.Ports, v9.F, v9.V, v9.Ticks, v9.Parse, v9.Word, v9.Drops, v9.Vers⟩ : Bridge)).set (y1.toNat) (⟨v10.Id, v10.Name, r11.2, v10.F, v10.V, v10.Ticks, v10.Parse, v10.Word, v10.Drops, v10.Vers⟩ : Bridge)).set (y1.toNat) (⟨v12.Id, v12.Name, v12.Ports, r13.2, v12.V, v12.Ticks, v12.Parse, v12.Word, v12.Drops, v12.Vers⟩ : Bridge)).set (y1.toNat) (⟨v14.Id, v14.Name, v14.Ports, v14.F, (⟨r15.2, v14.V.Pvid⟩ : Vtab), v14.Ticks, v14.Parse, v14.Word, v14.Drops, v14.Vers⟩ : Bridge)).set (y1.toNat) (⟨v16.Id, v16.Name, v16.Ports, v16.F, (⟨v16.V.Rows, r17.2⟩ : Vtab), v16.Ticks, v16.Parse, v16.Word, v16.Drops, v16.Vers⟩ : Bridge)).set (y1.toNat) (⟨v18.Id, v18.Name, v18.Ports, v18.F, v18.V, r17.1, v18.Parse, v18.Word, v18.Drops, v18.Vers⟩ : Bridge)).set (y1.toNat) (⟨v19.Id, v19.Name, v19.Ports, v19.F, v19.V, v19.Ticks, (IntKind.wrap .i64 (r17.1 + 1)), v19.Word, v19.Drops, v19.Vers⟩ : Bridge)).map Bridge.row)] (Bridge.row v20) [.sl true 11 (((((((((y2.set (y1.toNat) (⟨y3, v7.Name, v7.Ports, v7.F, v7.V, v7.Ticks, v7.Parse, v7.Word, v7.Drops, v7.Vers⟩ : Bridge)).set (y1.toNat) (⟨v9.Id, r8, v9.Ports, v9.F, v9.V, v9.Ticks, v9.Parse, v9.Word, v9.Drops, v9.Vers⟩ : Bridge)).set (y1.toNat) (⟨v10.Id, v10.Name, r11.2, v10.F, v10.V, v10.Ticks, v10.Parse, v10.Word, v10.Drops, v10.Vers⟩ : Bridge)).set (y1.toNat) (⟨v12.Id, v12.Name, v12.Ports, r13.2, v12.V, v12.Ticks, v12.Parse, v12.Word, v12.Drops, v12.Vers⟩ : Bridge)).set (y1.toNat) (⟨v14.Id, v14.Name, v14.Ports, v14.F, (⟨r15.2, v14.V.Pvid⟩ : Vtab), v14.Ticks, v14.Parse, v14.Word, v14.Drops, v14.Vers⟩ : Bridge)).set (y1.toNat) (⟨v16.Id, v16.Name, v16.Ports, v16.F, (⟨v16.V.Rows, r17.2⟩ : Vtab), v16.Ticks, v16.Parse, v16.Word, v16.Drops, v16.Vers⟩ : Bridge)).set (y1.toNat) (⟨v18.Id, v18.Name, v18.Ports, v18.F, v18.V, r17.1, v18.Parse, v18.Word, v18.Drops, v18.Vers⟩ : Bridge)).set (y1.toNat) (⟨v19.Id, v19.Name, v19.Ports, v19.F, v19.V, v19.Ticks, (IntKind.wrap .i64 (r17.1 + 1)), v19.Word, v19.Drops, v19.Vers⟩ : Bridge)).map Bridge.row)] [.sl true 11 ((((((((((y2.set (y1.toNat) (⟨y3, v7.Name, v7.Ports, v7.F, v7.V, v7.Ticks, v7.Parse, v7.Word, v7.Drops, v7.Vers⟩ : Bridge)).set (y1.toNat) (⟨v9.Id, r8, v9.Ports, v9.F, v9.V, v9.Ticks, v9.Parse, v9.Word, v9.Drops, v9.Vers⟩ : Bridge)).set (y1.toNat) (⟨v10.Id, v10.Name, r11.2, v10.F, v10.V, v10.Ticks, v10.Parse, v10.Word, v10.Drops, v10.Vers⟩ : Bridge)).set (y1.toNat) (⟨v12.Id, v12.Name, v12.Ports, r13.2, v12.V, v12.Ticks, v12.Parse, v12.Word, v12.Drops, v12.Vers⟩ : Bridge)).set (y1.toNat) (⟨v14.Id, v14.Name, v14.Ports, v14.F, (⟨r15.2, v14.V.Pvid⟩ : Vtab), v14.Ticks, v14.Parse, v14.Word, v14.Drops, v14.Vers⟩ : Bridge)).set (y1.toNat) (⟨v16.Id, v16.Name, v16.Ports, v16.F, (⟨v16.V.Rows, r17.2⟩ : Vtab), v16.Ticks, v16.Parse, v16.Word, v16.Drops, v16.Vers⟩ : Bridge)).set (y1.toNat) (⟨v18.Id, v18.Name, v18.Ports, v18.F, v18.V, r17.1, v18.Parse, v18.Word, v18.Drops, v18.Vers⟩ : Bridge)).set (y1.toNat) (⟨v19.Id, v19.Name, v19.Ports, v19.F, v19.V, v19.Ticks, (IntKind.wrap .i64 (r17.1 + 1)), v19.Word, v19.Drops, v19.Vers⟩ : Bridge)).set (y1.toNat) (⟨v20.Id, v20.Name, v20.Ports, v20.F, v20.V, v20.Ticks, v20.Parse, (IntKind.wrap .i64 ((IntKind.wrap .i64 (r17.1 + 1)) + 1)), v20.Drops, v20.Vers⟩ : Bridge)).map Bridge.row)] (by kernel_rfl) (by kernel_rfl) (by kernel_rfl) (by kernel_rfl) (by kernel_rfl) (by kernel_rfl) (getQ_elem rfl (idx_get ev20).2) rfl (by intro h; cases h) (by kernel_rfl) (by kernel_rfl) (by kernel_rfl) (modQ_elem (new := (⟨v20.Id, v20.Name, v20.Ports, v20.F, v20.V, v20.Ticks, v20.Parse, (IntKind.wrap .i64 ((IntKind.wrap .i64 (r17.1 + 1)) + 1)), v20.Drops, v20.Vers⟩ : Bridge)) rfl (idx_get ev20).2 rfl) (by kernel_rfl) ?_
        refine LAt.doneU [0, 75, 74, 73, 72, 1, 70, 69, 68, 67, 66, 65, 63, 62, 61, 60, 59, 58, 56, 55, 50, 48, 47, 42, 40, 39, 35, 33, 32, 28, 26, 25, 22, 21, 20, 18, 17, 14, 13, 9, 8, 6, 5, 4, 71, 64, 57] [] (by kernel_rfl) ?_
        refine Tr.rs ?_
        refine LAt.runU tOk 3 (by kernel_rfl) ?_
        refine LAt.doneU [1, 77, 76, 0, 75, 74, 73, 72, 70, 69, 68, 67, 66, 65, 63, 62, 61, 60, 59, 58, 56, 55, 50, 48, 47, 42, 40, 39, 35, 33, 32, 28, 26, 25, 22, 21, 20, 18, 17, 14, 13, 9, 8, 6, 5, 4, 71, 64, 57] [] (by kernel_rfl) ?_
        refine Tr.rs ?_
        refine LAt.runU tOk 3 (by kernel_rfl) ?_
        obtain ⟨v21, ev21, H⟩ := bind_some H
        refine LAt.indexO tOk (t := 30) (ty := 0) (x := (.tmp 78)) (y := (.tmp 79)) (d := 81) (g := none) ⟨(.slot 0), [], 0, true, 11, ((((((((((y2.set (y1.toNat) (⟨y3, v7.Name, v7.Ports, v7.F, v7.V, v7.Ticks, v7.Parse, v7.Word, v7.Drops, v7.Vers⟩ : Bridge)).set (y1.toNat) (⟨v9.Id, r8, v9.Ports, v9.F, v9.V, v9.Ticks, v9.Parse, v9.Word, v9.Drops, v9.Vers⟩ : Bridge)).set (y1.toNat) (⟨v10.Id, v10.Name, r11.2, v10.F, v10.V, v10.Ticks, v10.Parse, v10.Word, v10.Drops, v10.Vers⟩ : Bridge)).set (y1.toNat) (⟨v12.Id, v12.Name, v12.Ports, r13.2, v12.V, v12.Ticks, v12.Parse, v12.Word, v12.Drops, v12.Vers⟩ : Bridge)).set (y1.toNat) (⟨v14.Id, v14.Name, v14.Ports, v14.F, (⟨r15.2, v14.V.Pvid⟩ : Vtab), v14.Ticks, v14.Parse, v14.Word, v14.Drops, v14.Vers⟩ : Bridge)).set (y1.toNat) (⟨v16.Id, v16.Name, v16.Ports, v16.F, (⟨v16.V.Rows, r17.2⟩ : Vtab), v16.Ticks, v16.Parse, v16.Word, v16.Drops, v16.Vers⟩ : Bridge)).set (y1.toNat) (⟨v18.Id, v18.Name, v18.Ports, v18.F, v18.V, r17.1, v18.Parse, v18.Word, v18.Drops, v18.Vers⟩ : Bridge)).set (y1.toNat) (⟨v19.Id, v19.Name, v19.Ports, v19.F, v19.V, v19.Ticks, (IntKind.wrap .i64 (r17.1 + 1)), v19.Word, v19.Drops, v19.Vers⟩ : Bridge)).set (y1.toNat) (⟨v20.Id, v20.Name, v20.Ports, v20.F, v20.V, v20.Ticks, v20.Parse, (IntKind.wrap .i64 ((IntKind.wrap .i64 (r17.1 + 1)) + 1)), v20.Drops, v20.Vers⟩ : Bridge)).map Bridge.row)⟩ y1 (y1.toNat) (Bridge.row v21) _ (by kernel_rfl) (by kernel_rfl) (by kernel_rfl) (by kernel_rfl) rfl (by kernel_rfl) (idx_isE ev21) rfl rfl ?_
        refine LAt.runU tOk 1 (by kernel_rfl) ?_
        refine LAt.storeK tOk (t := 3) (ty := 0) (ad := (.tmp 82)) (x := (.tmp 80)) (g := none) ⟨.int .i64, 1, 8, [.lit (.int .i64 0)]⟩ false [.lit (.int .i64 (IntKind.wrap .i64 ((IntKind.wrap .i64 ((IntKind.wrap .i64 (r17.1 + 1)) + 1)) + 1)))] (.slot 0) [(0, (y1.toNat))] [(0, (y1.toNat))] 11 9 [.sl true 11 ((((((((((y2.set (y1.toNat) (⟨y3, v7.Name, v7.Ports, v7.F, v7.V, v7.Ticks, v7.Parse, v7.Word, v7.Drops, v7.Vers⟩ : Bridge)).set (y1.toNat) (⟨v9.Id, r8, v9.Ports, v9.F, v9.V, v9.Ticks, v9.Parse, v9.Word, v9.Drops, v9.Vers⟩ : Bridge)).set (y1.toNat) (⟨v10.Id, v10.Name, r11.2, v10.F, v10.V, v10.Ticks, v10.Parse, v10.Word, v10.Drops, v10.Vers⟩ : Bridge)).set (y1.toNat) (⟨v12.Id, v12.Name, v12.Ports, r13.2, v12.V, v12.Ticks, v12.Parse, v12.Word, v12.Drops, v12.Vers⟩ : Bridge)).set (y1.toNat) (⟨v14.Id, v14.Name, v14.Ports, v14.F, (⟨r15.2, v14.V.Pvid⟩ : Vtab), v14.Ticks, v14.Parse, v14.Word, v14.Drops, v14.Vers⟩ : Bridge)).set (y1.toNat) (⟨v16.Id, v16.Name, v16.Ports, v16.F, (⟨v16.V.Rows, r17.2⟩ : Vtab), v16.Ticks, v16.Parse, v16.Word, v16.Drops, v16.Vers⟩ : Bridge)).set (y1.toNat) (⟨v18.Id, v18.Name, v18.Ports, v18.F, v18.V, r17.1, v18.Parse, v18.Word, v18.Drops, v18.Vers⟩ : Bridge)).set (y1.toNat) (⟨v19.Id, v19.Name, v19.Ports, v19.F, v19.V, v19.Ticks, (IntKind.wrap .i64 (r17.1 + 1)), v19.Word, v19.Drops, v19.Vers⟩ : Bridge)).set (y1.toNat) (⟨v20.Id, v20.Name, v20.Ports, v20.F, v20.V, v20.Ticks, v20.Parse, (IntKind.wrap .i64 ((IntKind.wrap .i64 (r17.1 + 1)) + 1)), v20.Drops, v20.Vers⟩ : Bridge)).map Bridge.row)] (Bridge.row v21) [.sl true 11 ((((((((((y2.set (y1.toNat) (⟨y3, v7.Name, v7.Ports, v7.F, v7.V, v7.Ticks, v7.Parse, v7.Word, v7.Drops, v7.Vers⟩ : Bridge)).set (y1.toNat) (⟨v9.Id, r8, v9.Ports, v9.F, v9.V, v9.Ticks, v9.Parse, v9.Word, v9.Drops, v9.Vers⟩ : Bridge)).set (y1.toNat) (⟨v10.Id, v10.Name, r11.2, v10.F, v10.V, v10.Ticks, v10.Parse, v10.Word, v10.Drops, v10.Vers⟩ : Bridge)).set (y1.toNat) (⟨v12.Id, v12.Name, v12.Ports, r13.2, v12.V, v12.Ticks, v12.Parse, v12.Word, v12.Drops, v12.Vers⟩ : Bridge)).set (y1.toNat) (⟨v14.Id, v14.Name, v14.Ports, v14.F, (⟨r15.2, v14.V.Pvid⟩ : Vtab), v14.Ticks, v14.Parse, v14.Word, v14.Drops, v14.Vers⟩ : Bridge)).set (y1.toNat) (⟨v16.Id, v16.Name, v16.Ports, v16.F, (⟨v16.V.Rows, r17.2⟩ : Vtab), v16.Ticks, v16.Parse, v16.Word, v16.Drops, v16.Vers⟩ : Bridge)).set (y1.toNat) (⟨v18.Id, v18.Name, v18.Ports, v18.F, v18.V, r17.1, v18.Parse, v18.Word, v18.Drops, v18.Vers⟩ : Bridge)).set (y1.toNat) (⟨v19.Id, v19.Name, v19.Ports, v19.F, v19.V, v19.Ticks, (IntKind.wrap .i64 (r17.1 + 1)), v19.Word, v19.Drops, v19.Vers⟩ : Bridge)).set (y1.toNat) (⟨v20.Id, v20.Name, v20.Ports, v20.F, v20.V, v20.Ticks, v20.Parse, (IntKind.wrap .i64 ((IntKind.wrap .i64 (r17.1 + 1)) + 1)), v20.Drops, v20.Vers⟩ : Bridge)).map Bridge.row)] [.sl true 11 (((((((((((y2.set (y1.toNat) (⟨y3, v7.Name, v7.Ports, v7.F, v7.V, v7.Ticks, v7.Parse, v7.Word, v7.Drops, v7.Vers⟩ : Bridge)).set (y1.toNat) (⟨v9.Id, r8, v9.Ports, v9.F, v9.V, v9.Ticks, v9.Parse, v9.Word, v9.Drops, v9.Vers⟩ : Bridge)).set (y1.toNat) (⟨v10.Id, v10.Name, r11.2, v10.F, v10.V, v10.Ticks, v10.Parse, v10.Word, v10.Drops, v10.Vers⟩ : Bridge)).set (y1.toNat) (⟨v12.Id, v12.Name, v12.Ports, r13.2, v12.V, v12.Ticks, v12.Parse, v12.Word, v12.Drops, v12.Vers⟩ : Bridge)).set (y1.toNat) (⟨v14.Id, v14.Name, v14.Ports, v14.F, (⟨r15.2, v14.V.Pvid⟩ : Vtab), v14.Ticks, v14.Parse, v14.Word, v14.Drops, v14.Vers⟩ : Bridge)).set (y1.toNat) (⟨v16.Id, v16.Name, v16.Ports, v16.F, (⟨v16.V.Rows, r17.2⟩ : Vtab), v16.Ticks, v16.Parse, v16.Word, v16.Drops, v16.Vers⟩ : Bridge)).set (y1.toNat) (⟨v18.Id, v18.Name, v18.Ports, v18.F, v18.V, r17.1, v18.Parse, v18.Word, v18.Drops, v18.Vers⟩ : Bridge)).set (y1.toNat) (⟨v19.Id, v19.Name, v19.Ports, v19.F, v19.V, v19.Ticks, (IntKind.wrap .i64 (r17.1 + 1)), v19.Word, v19.Drops, v19.Vers⟩ : Bridge)).set (y1.toNat) (⟨v20.Id, v20.Name, v20.Ports, v20.F, v20.V, v20.Ticks, v20.Parse, (IntKind.wrap .i64 ((IntKind.wrap .i64 (r17.1 + 1)) + 1)), v20.Drops, v20.Vers⟩ : Bridge)).set (y1.toNat) (⟨v21.Id, v21.Name, v21.Ports, v21.F, v21.V, v21.Ticks, v21.Parse, v21.Word, (IntKind.wrap .i64 ((IntKind.wrap .i64 ((IntKind.wrap .i64 (r17.1 + 1)) + 1)) + 1)), v21.Vers⟩ : Bridge)).map Bridge.row)] (by kernel_rfl) (by kernel_rfl) (by kernel_rfl) (by kernel_rfl) (by kernel_rfl) (by kernel_rfl) (getQ_elem rfl (idx_get ev21).2) rfl (by intro h; cases h) (by kernel_rfl) (by kernel_rfl) (by kernel_rfl) (modQ_elem (new := (⟨v21.Id, v21.Name, v21.Ports, v21.F, v21.V, v21.Ticks, v21.Parse, v21.Word, (IntKind.wrap .i64 ((IntKind.wrap .i64 ((IntKind.wrap .i64 (r17.1 + 1)) + 1)) + 1)), v21.Vers⟩ : Bridge)) rfl (idx_get ev21).2 rfl) (by kernel_rfl) ?_
        refine LAt.doneU [0, 82, 81, 80, 79, 1, 77, 76, 75, 74, 73, 72, 70, 69, 68, 67, 66, 65, 63, 62, 61, 60, 59, 58, 56, 55, 50, 48, 47, 42, 40, 39, 35, 33, 32, 28, 26, 25, 22, 21, 20, 18, 17, 14, 13, 9, 8, 6, 5, 4, 78, 71, 64, 57] [] (by kernel_rfl) ?_
        refine Tr.rs ?_
        refine LAt.runU tOk 3 (by kernel_rfl) ?_
        refine LAt.doneU [1, 84, 83, 0, 82, 81, 80, 79, 77, 76, 75, 74, 73, 72, 70, 69, 68, 67, 66, 65, 63, 62, 61, 60, 59, 58, 56, 55, 50, 48, 47, 42, 40, 39, 35, 33, 32, 28, 26, 25, 22, 21, 20, 18, 17, 14, 13, 9, 8, 6, 5, 4, 78, 71, 64, 57] [] (by kernel_rfl) ?_
        refine Tr.rs ?_
        refine LAt.runU tOk 3 (by kernel_rfl) ?_
        obtain ⟨v22, ev22, H⟩ := bind_some H
        refine LAt.indexO tOk (t := 30) (ty := 0) (x := (.tmp 85)) (y := (.tmp 86)) (d := 88) (g := none) ⟨(.slot 0), [], 0, true, 11, (((((((((((y2.set (y1.toNat) (⟨y3, v7.Name, v7.Ports, v7.F, v7.V, v7.Ticks, v7.Parse, v7.Word, v7.Drops, v7.Vers⟩ : Bridge)).set (y1.toNat) (⟨v9.Id, r8, v9.Ports, v9.F, v9.V, v9.Ticks, v9.Parse, v9.Word, v9.Drops, v9.Vers⟩ : Bridge)).set (y1.toNat) (⟨v10.Id, v10.Name, r11.2, v10.F, v10.V, v10.Ticks, v10.Parse, v10.Word, v10.Drops, v10.Vers⟩ : Bridge)).set (y1.toNat) (⟨v12.Id, v12.Name, v12.Ports, r13.2, v12.V, v12.Ticks, v12.Parse, v12.Word, v12.Drops, v12.Vers⟩ : Bridge)).set (y1.toNat) (⟨v14.Id, v14.Name, v14.Ports, v14.F, (⟨r15.2, v14.V.Pvid⟩ : Vtab), v14.Ticks, v14.Parse, v14.Word, v14.Drops, v14.Vers⟩ : Bridge)).set (y1.toNat) (⟨v16.Id, v16.Name, v16.Ports, v16.F, (⟨v16.V.Rows, r17.2⟩ : Vtab), v16.Ticks, v16.Parse, v16.Word, v16.Drops, v16.Vers⟩ : Bridge)).set (y1.toNat) (⟨v18.Id, v18.Name, v18.Ports, v18.F, v18.V, r17.1, v18.Parse, v18.Word, v18.Drops, v18.Vers⟩ : Bridge)).set (y1.toNat) (⟨v19.Id, v19.Name, v19.Ports, v19.F, v19.V, v19.Ticks, (IntKind.wrap .i64 (r17.1 + 1)), v19.Word, v19.Drops, v19.Vers⟩ : Bridge)).set (y1.toNat) (⟨v20.Id, v20.Name, v20.Ports, v20.F, v20.V, v20.Ticks, v20.Parse, (IntKind.wrap .i64 ((IntKind.wrap .i64 (r17.1 + 1)) + 1)), v20.Drops, v20.Vers⟩ : Bridge)).set (y1.toNat) (⟨v21.Id, v21.Name, v21.Ports, v21.F, v21.V, v21.Ticks, v21.Parse, v21.Word, (IntKind.wrap .i64 ((IntKind.wrap .i64 ((IntKind.wrap .i64 (r17.1 + 1)) + 1)) + 1)), v21.Vers⟩ : Bridge)).map Bridge.row)⟩ y1 (y1.toNat) (Bridge.row v22) _ (by kernel_rfl) (by kernel_rfl) (by kernel_rfl) (by kernel_rfl) rfl (by kernel_rfl) (idx_isE ev22) rfl rfl ?_
        refine LAt.runU tOk 1 (by kernel_rfl) ?_
        refine LAt.storeK tOk (t := 3) (ty := 0) (ad := (.tmp 89)) (x := (.tmp 87)) (g := none) ⟨.int .i64, 1, 8, [.lit (.int .i64 0)]⟩ false [.lit (.int .i64 (IntKind.wrap .i64 ((IntKind.wrap .i64 ((IntKind.wrap .i64 ((IntKind.wrap .i64 (r17.1 + 1)) + 1)) + 1)) + 1)))] (.slot 0) [(0, (y1.toNat))] [(0, (y1.toNat))] 11 10 [.sl true 11 (((((((((((y2.set (y1.toNat) (⟨y3, v7.Name, v7.Ports, v7.F, v7.V, v7.Ticks, v7.Parse, v7.Word, v7.Drops, v7.Vers⟩ : Bridge)).set (y1.toNat) (⟨v9.Id, r8, v9.Ports, v9.F, v9.V, v9.Ticks, v9.Parse, v9.Word, v9.Drops, v9.Vers⟩ : Bridge)).set (y1.toNat) (⟨v10.Id, v10.Name, r11.2, v10.F, v10.V, v10.Ticks, v10.Parse, v10.Word, v10.Drops, v10.Vers⟩ : Bridge)).set (y1.toNat) (⟨v12.Id, v12.Name, v12.Ports, r13.2, v12.V, v12.Ticks, v12.Parse, v12.Word, v12.Drops, v12.Vers⟩ : Bridge)).set (y1.toNat) (⟨v14.Id, v14.Name, v14.Ports, v14.F, (⟨r15.2, v14.V.Pvid⟩ : Vtab), v14.Ticks, v14.Parse, v14.Word, v14.Drops, v14.Vers⟩ : Bridge)).set (y1.toNat) (⟨v16.Id, v16.Name, v16.Ports, v16.F, (⟨v16.V.Rows, r17.2⟩ : Vtab), v16.Ticks, v16.Parse, v16.Word, v16.Drops, v16.Vers⟩ : Bridge)).set (y1.toNat) (⟨v18.Id, v18.Name, v18.Ports, v18.F, v18.V, r17.1, v18.Parse, v18.Word, v18.Drops, v18.Vers⟩ : Bridge)).set (y1.toNat) (⟨v19.Id, v19.Name, v19.Ports, v19.F, v19.V, v19.Ticks, (IntKind.wrap .i64 (r17.1 + 1)), v19.Word, v19.Drops, v19.Vers⟩ : Bridge)).set (y1.toNat) (⟨v20.Id, v20.Name, v20.Ports, v20.F, v20.V, v20.Ticks, v20.Parse, (IntKind.wrap .i64 ((IntKind.wrap .i64 (r17.1 + 1)) + 1)), v20.Drops, v20.Vers⟩ : Bridge)).set (y1.toNat) (⟨v21.Id, v21.Name, v21.Ports, v21.F, v21.V, v21.Ticks, v21.Parse, v21.Word, (IntKind.wrap .i64 ((IntKind.wrap .i64 ((IntKind.wrap .i64 (r17.1 + 1)) + 1)) + 1)), v21.Vers⟩ : Bridge)).map Bridge.row)] (Bridge.row v22) [.sl true 11 (((((((((((y2.set (y1.toNat) (⟨y3, v7.Name, v7.Ports, v7.F, v7.V, v7.Ticks, v7.Parse, v7.Word, v7.Drops, v7.Vers⟩ : Bridge)).set (y1.toNat) (⟨v9.Id, r8, v9.Ports, v9.F, v9.V, v9.Ticks, v9.Parse, v9.Word, v9.Drops, v9.Vers⟩ : Bridge)).set (y1.toNat) (⟨v10.Id, v10.Name, r11.2, v10.F, v10.V, v10.Ticks, v10.Parse, v10.Word, v10.Drops, v10.Vers⟩ : Bridge)).set (y1.toNat) (⟨v12.Id, v12.Name, v12.Ports, r13.2, v12.V, v12.Ticks, v12.Parse, v12.Word, v12.Drops, v12.Vers⟩ : Bridge)).set (y1.toNat) (⟨v14.Id, v14.Name, v14.Ports, v14.F, (⟨r15.2, v14.V.Pvid⟩ : Vtab), v14.Ticks, v14.Parse, v14.Word, v14.Drops, v14.Vers⟩ : Bridge)).set (y1.toNat) (⟨v16.Id, v16.Name, v16.Ports, v16.F, (⟨v16.V.Rows, r17.2⟩ : Vtab), v16.Ticks, v16.Parse, v16.Word, v16.Drops, v16.Vers⟩ : Bridge)).set (y1.toNat) (⟨v18.Id, v18.Name, v18.Ports, v18.F, v18.V, r17.1, v18.Parse, v18.Word, v18.Drops, v18.Vers⟩ : Bridge)).set (y1.toNat) (⟨v19.Id, v19.Name, v19.Ports, v19.F, v19.V, v19.Ticks, (IntKind.wrap .i64 (r17.1 + 1)), v19.Word, v19.Drops, v19.Vers⟩ : Bridge)).set (y1.toNat) (⟨v20.Id, v20.Name, v20.Ports, v20.F, v20.V, v20.Ticks, v20.Parse, (IntKind.wrap .i64 ((IntKind.wrap .i64 (r17.1 + 1)) + 1)), v20.Drops, v20.Vers⟩ : Bridge)).set (y1.toNat) (⟨v21.Id, v21.Name, v21.Ports, v21.F, v21.V, v21.Ticks, v21.Parse, v21.Word, (IntKind.wrap .i64 ((IntKind.wrap .i64 ((IntKind.wrap .i64 (r17.1 + 1)) + 1)) + 1)), v21.Vers⟩ : Bridge)).map Bridge.row)] [.sl true 11 ((((((((((((y2.set (y1.toNat) (⟨y3, v7.Name, v7.Ports, v7.F, v7.V, v7.Ticks, v7.Parse, v7.Word, v7.Drops, v7.Vers⟩ : Bridge)).set (y1.toNat) (⟨v9.Id, r8, v9.Ports, v9.F, v9.V, v9.Ticks, v9.Parse, v9.Word, v9.Drops, v9.Vers⟩ : Bridge)).set (y1.toNat) (⟨v10.Id, v10.Name, r11.2, v10.F, v10.V, v10.Ticks, v10.Parse, v10.Word, v10.Drops, v10.Vers⟩ : Bridge)).set (y1.toNat) (⟨v12.Id, v12.Name, v12.Ports, r13.2, v12.V, v12.Ticks, v12.Parse, v12.Word, v12.Drops, v12.Vers⟩ : Bridge)).set (y1.toNat) (⟨v14.Id, v14.Name, v14.Ports, v14.F, (⟨r15.2, v14.V.Pvid⟩ : Vtab), v14.Ticks, v14.Parse, v14.Word, v14.Drops, v14.Vers⟩ : Bridge)).set (y1.toNat) (⟨v16.Id, v16.Name, v16.Ports, v16.F, (⟨v16.V.Rows, r17.2⟩ : Vtab), v16.Ticks, v16.Parse, v16.Word, v16.Drops, v16.Vers⟩ : Bridge)).set (y1.toNat) (⟨v18.Id, v18.Name, v18.Ports, v18.F, v18.V, r17.1, v18.Parse, v18.Word, v18.Drops, v18.Vers⟩ : Bridge)).set (y1.toNat) (⟨v19.Id, v19.Name, v19.Ports, v19.F, v19.V, v19.Ticks, (IntKind.wrap .i64 (r17.1 + 1)), v19.Word, v19.Drops, v19.Vers⟩ : Bridge)).set (y1.toNat) (⟨v20.Id, v20.Name, v20.Ports, v20.F, v20.V, v20.Ticks, v20.Parse, (IntKind.wrap .i64 ((IntKind.wrap .i64 (r17.1 + 1)) + 1)), v20.Drops, v20.Vers⟩ : Bridge)).set (y1.toNat) (⟨v21.Id, v21.Name, v21.Ports, v21.F, v21.V, v21.Ticks, v21.Parse, v21.Word, (IntKind.wrap .i64 ((IntKind.wrap .i64 ((IntKind.wrap .i64 (r17.1 + 1)) + 1)) + 1)), v21.Vers⟩ : Bridge)).set (y1.toNat) (⟨v22.Id, v22.Name, v22.Ports, v22.F, v22.V, v22.Ticks, v22.Parse, v22.Word, v22.Drops, (IntKind.wrap .i64 ((IntKind.wrap .i64 ((IntKind.wrap .i64 ((IntKind.wrap .i64 (r17.1 + 1)) + 1)) + 1)) + 1))⟩ : Bridge)).map Bridge.row)] (by kernel_rfl) (by kernel_rfl) (by kernel_rfl) (by kernel_rfl) (by kernel_rfl) (by kernel_rfl) (getQ_elem rfl (idx_get ev22).2) rfl (by intro h; cases h) (by kernel_rfl) (by kernel_rfl) (by kernel_rfl) (modQ_elem (new := (⟨v22.Id, v22.Name, v22.Ports, v22.F, v22.V, v22.Ticks, v22.Parse, v22.Word, v22.Drops, (IntKind.wrap .i64 ((IntKind.wrap .i64 ((IntKind.wrap .i64 ((IntKind.wrap .i64 (r17.1 + 1)) + 1)) + 1)) + 1))⟩ : Bridge)) rfl (idx_get ev22).2 rfl) (by kernel_rfl) ?_
        refine LAt.doneU [0, 89, 88, 87, 86, 1, 84, 83, 82, 81, 80, 79, 77, 76, 75, 74, 73, 72, 70, 69, 68, 67, 66, 65, 63, 62, 61, 60, 59, 58, 56, 55, 50, 48, 47, 42, 40, 39, 35, 33, 32, 28, 26, 25, 22, 21, 20, 18, 17, 14, 13, 9, 8, 6, 5, 4, 85, 78, 71, 64, 57] [] (by kernel_rfl) ?_
        refine Tr.at ?_
        refine LAt.runU tOk 3 (by kernel_rfl) ?_
        refine LAt.doneU [1, 91, 90, 0, 89, 88, 87, 86, 84, 83, 82, 81, 80, 79, 77, 76, 75, 74, 73, 72, 70, 69, 68, 67, 66, 65, 63, 62, 61, 60, 59, 58, 56, 55, 50, 48, 47, 42, 40, 39, 35, 33, 32, 28, 26, 25, 22, 21, 20, 18, 17, 14, 13, 9, 8, 6, 5, 4, 85, 78, 71, 64, 57] [] (by kernel_rfl) ?_
        show Tr _ _ _ _ _
        refine Tr.at ?_
        refine LAt.runU tOk 3 (by kernel_rfl) ?_
        refine LAt.doneU [5, 11, 10, 1, 91, 90, 0, 89, 88, 87, 86, 84, 83, 82, 81, 80, 79, 77, 76, 75, 74, 73, 72, 70, 69, 68, 67, 66, 65, 63, 62, 61, 60, 59, 58, 56, 55, 50, 48, 47, 42, 40, 39, 35, 33, 32, 28, 26, 25, 22, 21, 20, 18, 17, 14, 13, 9, 8, 6, 4, 85, 78, 71, 64, 57] [] (by kernel_rfl) ?_
        exact Exists.intro (mo6, ((IntKind.wrap .i64 (y1 + 1)), (((((((((((y2.set (y1.toNat) (⟨y3, v7.Name, v7.Ports, v7.F, v7.V, v7.Ticks, v7.Parse, v7.Word, v7.Drops, v7.Vers⟩ : Bridge)).set (y1.toNat) (⟨v9.Id, r8, v9.Ports, v9.F, v9.V, v9.Ticks, v9.Parse, v9.Word, v9.Drops, v9.Vers⟩ : Bridge)).set (y1.toNat) (⟨v10.Id, v10.Name, r11.2, v10.F, v10.V, v10.Ticks, v10.Parse, v10.Word, v10.Drops, v10.Vers⟩ : Bridge)).set (y1.toNat) (⟨v12.Id, v12.Name, v12.Ports, r13.2, v12.V, v12.Ticks, v12.Parse, v12.Word, v12.Drops, v12.Vers⟩ : Bridge)).set (y1.toNat) (⟨v14.Id, v14.Name, v14.Ports, v14.F, (⟨r15.2, v14.V.Pvid⟩ : Vtab), v14.Ticks, v14.Parse, v14.Word, v14.Drops, v14.Vers⟩ : Bridge)).set (y1.toNat) (⟨v16.Id, v16.Name, v16.Ports, v16.F, (⟨v16.V.Rows, r17.2⟩ : Vtab), v16.Ticks, v16.Parse, v16.Word, v16.Drops, v16.Vers⟩ : Bridge)).set (y1.toNat) (⟨v18.Id, v18.Name, v18.Ports, v18.F, v18.V, r17.1, v18.Parse, v18.Word, v18.Drops, v18.Vers⟩ : Bridge)).set (y1.toNat) (⟨v19.Id, v19.Name, v19.Ports, v19.F, v19.V, v19.Ticks, (IntKind.wrap .i64 (r17.1 + 1)), v19.Word, v19.Drops, v19.Vers⟩ : Bridge)).set (y1.toNat) (⟨v20.Id, v20.Name, v20.Ports, v20.F, v20.V, v20.Ticks, v20.Parse, (IntKind.wrap .i64 ((IntKind.wrap .i64 (r17.1 + 1)) + 1)), v20.Drops, v20.Vers⟩ : Bridge)).set (y1.toNat) (⟨v21.Id, v21.Name, v21.Ports, v21.F, v21.V, v21.Ticks, v21.Parse, v21.Word, (IntKind.wrap .i64 ((IntKind.wrap .i64 ((IntKind.wrap .i64 (r17.1 + 1)) + 1)) + 1)), v21.Vers⟩ : Bridge)).set (y1.toNat) (⟨v22.Id, v22.Name, v22.Ports, v22.F, v22.V, v22.Ticks, v22.Parse, v22.Word, v22.Drops, (IntKind.wrap .i64 ((IntKind.wrap .i64 ((IntKind.wrap .i64 ((IntKind.wrap .i64 (r17.1 + 1)) + 1)) + 1)) + 1))⟩ : Bridge)), (IntKind.wrap .i64 ((IntKind.wrap .i64 ((IntKind.wrap .i64 ((IntKind.wrap .i64 ((IntKind.wrap .i64 (r17.1 + 1)) + 1)) + 1)) + 1)) + 1)))) (And.intro H (And.intro (Nat.lt_succ_self mo6) (St.sub_of [5, 4, 0, 1] [] (by kernel_rfl))))
  · rintro ⟨y4, y5⟩ H
    have H : (laws_markBridgeS_J1 n y4 y5) = some r := H
    unfold laws_markBridgeS_J1 at H
    show Tr _ _ _ _ _
    refine Tr.rs ?_
    refine LAt.runU tOk 2 (by kernel_rfl) ?_
    refine LAt.doneU [4, 0] [] (by kernel_rfl) ?_
    refine Tr.ret ?_
    have H := Option.some.inj H
    subst H
    exact Fin.ofY _ [(false, [.lit (.int .i64 y5)])] [false] _ [[.sl true 11 (y4.map Bridge.row)]] _ [] (by kernel_rfl) rfl rfl rfl (by kernel_rfl) (by kernel_rfl) (by kernel_rfl) (by kernel_rfl) rfl rfl rfl

def laws_markLinkS_J1 (n : Nat) (y4 : (List Link)) (y5 : Int) : Option (Int × (List Link)) :=
  (some (y5, y4))
def laws_markLinkS_L2 (n : Nat) : Nat → Int → (List Link) → Int → Option (((List Link) × Int) ⊕ (Int × (List Link)))
  | 0, _, _, _ => none
  | mo6 + 1, y1, y2, y3 => (bif (decide (y1 < (y2.length : Int))) then ((idx y2 y1).bind fun v7 => ((idx (y2.set (y1.toNat) (⟨y3, v7.P, v7.B, v7.Q⟩ : Link)) y1).bind fun v8 => ((idx ((y2.set (y1.toNat) (⟨y3, v7.P, v7.B, v7.Q⟩ : Link)).set (y1.toNat) (⟨v8.A, (IntKind.wrap .i64 (y3 + 1)), v8.B, v8.Q⟩ : Link)) y1).bind fun v9 => ((idx (((y2.set (y1.toNat) (⟨y3, v7.P, v7.B, v7.Q⟩ : Link)).set (y1.toNat) (⟨v8.A, (IntKind.wrap .i64 (y3 + 1)), v8.B, v8.Q⟩ : Link)).set (y1.toNat) (⟨v9.A, v9.P, (IntKind.wrap .i64 ((IntKind.wrap .i64 (y3 + 1)) + 1)), v9.Q⟩ : Link)) y1).bind fun v10 => (laws_markLinkS_L2 n mo6 (IntKind.wrap .i64 (y1 + 1)) ((((y2.set (y1.toNat) (⟨y3, v7.P, v7.B, v7.Q⟩ : Link)).set (y1.toNat) (⟨v8.A, (IntKind.wrap .i64 (y3 + 1)), v8.B, v8.Q⟩ : Link)).set (y1.toNat) (⟨v9.A, v9.P, (IntKind.wrap .i64 ((IntKind.wrap .i64 (y3 + 1)) + 1)), v9.Q⟩ : Link)).set (y1.toNat) (⟨v10.A, v10.P, v10.B, (IntKind.wrap .i64 ((IntKind.wrap .i64 ((IntKind.wrap .i64 (y3 + 1)) + 1)) + 1))⟩ : Link)) (IntKind.wrap .i64 ((IntKind.wrap .i64 ((IntKind.wrap .i64 ((IntKind.wrap .i64 (y3 + 1)) + 1)) + 1)) + 1))))))) else (some (Sum.inl (y2, y3))))
def laws_markLinkSF (n : Nat) (x0 : (List Link)) (x1 : Int) : Option (Int × (List Link)) :=
  ((laws_markLinkS_L2 n n 0 x0 x1).bind fun o => match o with | .inl (y4, y5) => (laws_markLinkS_J1 n y4 y5) | .inr r => some r)
/-- loop.example/g00326/laws.markLinkS -/
theorem laws_markLinkS (n : Nat) (x0 : (List Link)) (x1 : Int) (r : Int × (List Link)) (H : laws_markLinkSF n x0 x1 = some r) : LCall Try.prog 82 [.io false [.sl true 4 (x0.map Link.row)], .val false [.lit (.int .i64 x1)]] [.val false [.lit (.int .i64 r.1)]] [(0, [.sl true 4 (r.2.map Link.row)])] := by
  refine LCall.of_body tOk Try.func82 rfl (c := (.seq (.region 0 (rg Try.f82 0) false) (.seq (.seq (.region 1 (rg Try.f82 1) false) (.block 0 (.loop (.seq (.seq (.region 2 (rg Try.f82 2) false) (.cond (.tmp 9) .skip (.exit 0))) (.seq (.block 1 (.seq (.region 4 (rg Try.f82 4) false) (.seq (.region 5 (rg Try.f82 5) false) (.seq (.region 6 (rg Try.f82 6) false) (.seq (.region 7 (rg Try.f82 7) false) (.seq (.region 8 (rg Try.f82 8) false) (.seq (.region 9 (rg Try.f82 9) false) (.seq (.region 10 (rg Try.f82 10) false) (.region 11 (rg Try.f82 11) false))))))))) (.region 3 (rg Try.f82 3) false)))))) (.seq (.region 12 (rg Try.f82 12) false) .ret)))) (by kernel_rfl) (Nat.le_of_ble_eq_true (by kernel_rfl)) 1 (rs := [.tmp 4]) rfl [0] (by decide) [(false, [.lit (.int .i64 r.1)])] [[.sl true 4 (r.2.map Link.row)]] [] fun cx => ?_
  show Tr _ _ _ ⟨41, 1, [(0, .val false [.sl true 4 (x0.map Link.row)]), (1, .val false [.lit (.int .i64 x1)])], []⟩ _
  unfold laws_markLinkSF at H
  refine Tr.rs ?_
  refine LAt.runU tOk 1 (by kernel_rfl) ?_
  refine LAt.doneU [4, 0, 1] [] (by kernel_rfl) ?_
  refine Tr.seq ?_
  refine Tr.rs ?_
  refine LAt.runU tOk 1 (by kernel_rfl) ?_
  refine LAt.doneU [5, 4, 0, 1] [] (by kernel_rfl) ?_
  obtain ⟨o6, eo6, Ho6⟩ := bind_some H
  clear H
  refine Tr.mid (ι := (List Link) × Int) (fun v => ⟨41, 1, [(4, .val false [.lit (.int .i64 0)]), (0, .val false [.sl true 4 (v.1.map Link.row)]), (1, .val false [.lit (.int .i64 v.2)])], []⟩) (fun v => laws_markLinkS_J1 n v.1 v.2 = some r) ?_ ?_
  · refine Tr.block ?_
    refine Tr.loop (ι := Nat × (Int × (List Link) × Int)) (fun v => ⟨41, 1, [(5, .val false [.lit (.int .i64 v.2.1)]), (4, .val false [.lit (.int .i64 0)]), (0, .val false [.sl true 4 (v.2.2.1.map Link.row)]), (1, .val false [.lit (.int .i64 v.2.2.2)])], []⟩) (fun v => laws_markLinkS_L2 n v.1 v.2.1 v.2.2.1 v.2.2.2 = some o6) (fun v => v.1) (n, (0, x0, x1)) eo6 (St.sub_of [5, 4, 0, 1] [] (by kernel_rfl)) ?_
    rintro ⟨mo6, y1, y2, y3⟩ H
    have H : laws_markLinkS_L2 n mo6 y1 y2 y3 = some o6 := H
    obtain _ | mo6 := mo6
    · cases (show (none : Option _) = some o6 from H)
    · rw [laws_markLinkS_L2] at H
      refine Tr.seq ?_
      refine Tr.rs ?_
      refine LAt.runU tOk 2 (by kernel_rfl) ?_
      refine LAt.lenE tOk (t := 31) (ty := 3) (e := 96) (x := (.tmp 7)) (d := 8) (g := none) ⟨(.slot 0), [], 0, true, 4, (y2.map Link.row)⟩ (y2).length _ (by kernel_rfl) (by kernel_rfl) (by kernel_rfl) (by kernel_rfl) (by kernel_rfl) (map_len _ _) rfl ?_
      refine LAt.runU tOk 1 (by kernel_rfl) ?_
      refine LAt.doneU [9, 8, 7, 6, 5, 4, 0, 1] [] (by kernel_rfl) ?_
      refine Tr.to ⟨41, 1, [(9, .val false [.lit (.bool (decide (y1 < (y2.length : Int))))]), (8, .val false [.lit (.int .i64 (y2.length : Int))]), (7, .ref (.slot 0) [] 0 0 1 false), (6, .val false [.lit (.int .i64 y1)]), (5, .val false [.lit (.int .i64 y1)]), (4, .val false [.lit (.int .i64 0)]), (0, .val false [.sl true 4 (y2.map Link.row)]), (1, .val false [.lit (.int .i64 y3)])], []⟩ (by kernel_rfl) ?_
      cases h1 : (decide (y1 < (y2.length : Int)))
      · have H := bifF h1 H
        refine Tr.cond (b := false) (by kernel_rfl) (fun h => nomatch h) (fun _ => ?_)
        refine Tr.exit ?_
        refine And.intro (fun _ => ?_) (fun h => absurd rfl h)
        have H := Option.some.inj H
        subst H
        have H := Ho6
        dsimp only at H
        exact Exists.intro (y2, y3) (And.intro H (St.sub_of [4, 0, 1] [] (by kernel_rfl)))
      · have H := bifT h1 H
        refine Tr.cond (b := true) (by kernel_rfl) (fun _ => ?_) (fun h => nomatch h)
        refine Tr.skip ?_
        show Tr _ _ _ _ _
        refine Tr.seq ?_
        refine Tr.block ?_
        refine Tr.rs ?_
        refine LAt.runU tOk 3 (by kernel_rfl) ?_
        obtain ⟨v7, ev7, H⟩ := bind_some H
        refine LAt.indexO tOk (t := 31) (ty := 0) (x := (.tmp 12)) (y := (.tmp 13)) (d := 15) (g := none) ⟨(.slot 0), [], 0, true, 4, (y2.map Link.row)⟩ y1 (y1.toNat) (Link.row v7) _ (by kernel_rfl) (by kernel_rfl) (by kernel_rfl) (by kernel_rfl) rfl (by kernel_rfl) (idx_isE ev7) rfl rfl ?_
        refine LAt.runU tOk 1 (by kernel_rfl) ?_
        refine LAt.storeK tOk (t := 3) (ty := 0) (ad := (.tmp 16)) (x := (.tmp 14)) (g := none) ⟨.int .i64, 1, 8, [.lit (.int .i64 0)]⟩ false [.lit (.int .i64 y3)] (.slot 0) [(0, (y1.toNat))] [(0, (y1.toNat))] 4 0 [.sl true 4 (y2.map Link.row)] (Link.row v7) [.sl true 4 (y2.map Link.row)] [.sl true 4 ((y2.set (y1.toNat) (⟨y3, v7.P, v7.B, v7.Q⟩ : Link)).map Link.row)] (by kernel_rfl) (by kernel_rfl) (by kernel_rfl) (by kernel_rfl) (by kernel_rfl) (by kernel_rfl) (getQ_elem rfl (idx_get ev7).2) rfl (by intro h; cases h) (by kernel_rfl) (by kernel_rfl) (by kernel_rfl) (modQ_elem (new := (⟨y3, v7.P, v7.B, v7.Q⟩ : Link)) rfl (idx_get ev7).2 rfl) (by kernel_rfl) ?_
        refine LAt.doneU [0, 16, 15, 14, 13, 9, 8, 6, 5, 4, 1, 12, 7] [] (by kernel_rfl) ?_
        refine Tr.rs ?_
        refine LAt.runU tOk 3 (by kernel_rfl) ?_
        refine LAt.doneU [1, 18, 17, 0, 16, 15, 14, 13, 9, 8, 6, 5, 4, 12, 7] [] (by kernel_rfl) ?_
        refine Tr.rs ?_
        refine LAt.runU tOk 3 (by kernel_rfl) ?_
        obtain ⟨v8, ev8, H⟩ := bind_some H
        refine LAt.indexO tOk (t := 31) (ty := 0) (x := (.tmp 19)) (y := (.tmp 20)) (d := 22) (g := none) ⟨(.slot 0), [], 0, true, 4, ((y2.set (y1.toNat) (⟨y3, v7.P, v7.B, v7.Q⟩ : Link)).map Link.row)⟩ y1 (y1.toNat) (Link.row v8) _ (by kernel_rfl) (by kernel_rfl) (by kernel_rfl) (by kernel_rfl) rfl (by kernel_rfl) (idx_isE ev8) rfl rfl ?_
        refine LAt.runU tOk 1 (by kernel_rfl) ?_
        refine LAt.storeK tOk (t := 3) (ty := 0) (ad := (.tmp 23)) (x := (.tmp 21)) (g := none) ⟨.int .i64, 1, 8, [.lit (.int .i64 0)]⟩ false [.lit (.int .i64 (IntKind.wrap .i64 (y3 + 1)))] (.slot 0) [(0, (y1.toNat))] [(0, (y1.toNat))] 4 1 [.sl true 4 ((y2.set (y1.toNat) (⟨y3, v7.P, v7.B, v7.Q⟩ : Link)).map Link.row)] (Link.row v8) [.sl true 4 ((y2.set (y1.toNat) (⟨y3, v7.P, v7.B, v7.Q⟩ : Link)).map Link.row)] [.sl true 4 (((y2.set (y1.toNat) (⟨y3, v7.P, v7.B, v7.Q⟩ : Link)).set (y1.toNat) (⟨v8.A, (IntKind.wrap .i64 (y3 + 1)), v8.B, v8.Q⟩ : Link)).map Link.row)] (by kernel_rfl) (by kernel_rfl) (by kernel_rfl) (by kernel_rfl) (by kernel_rfl) (by kernel_rfl) (getQ_elem rfl (idx_get ev8).2) rfl (by intro h; cases h) (by kernel_rfl) (by kernel_rfl) (by kernel_rfl) (modQ_elem (new := (⟨v8.A, (IntKind.wrap .i64 (y3 + 1)), v8.B, v8.Q⟩ : Link)) rfl (idx_get ev8).2 rfl) (by kernel_rfl) ?_
        refine LAt.doneU [0, 23, 22, 21, 20, 1, 18, 17, 16, 15, 14, 13, 9, 8, 6, 5, 4, 19, 12, 7] [] (by kernel_rfl) ?_
        refine Tr.rs ?_
        refine LAt.runU tOk 3 (by kernel_rfl) ?_
        refine LAt.doneU [1, 25, 24, 0, 23, 22, 21, 20, 18, 17, 16, 15, 14, 13, 9, 8, 6, 5, 4, 19, 12, 7] [] (by kernel_rfl) ?_
        refine Tr.rs ?_
        refine LAt.runU tOk 3 (by kernel_rfl) ?_
        obtain ⟨v9, ev9, H⟩ := bind_some H
        refine LAt.indexO tOk (t := 31) (ty := 0) (x := (.tmp 26)) (y := (.tmp 27)) (d := 29) (g := none) ⟨(.slot 0), [], 0, true, 4, (((y2.set (y1.toNat) (⟨y3, v7.P, v7.B, v7.Q⟩ : Link)).set (y1.toNat) (⟨v8.A, (IntKind.wrap .i64 (y3 + 1)), v8.B, v8.Q⟩ : Link)).map Link.row)⟩ y1 (y1.toNat) (Link.row v9) _ (by kernel_rfl) (by kernel_rfl) (by kernel_rfl) (by kernel_rfl) rfl (by kernel_rfl) (idx_isE ev9) rfl rfl ?_
        refine LAt.runU tOk 1 (by kernel_rfl) ?_
        refine LAt.storeK tOk (t := 3) (ty := 0) (ad := (.tmp 30)) (x := (.tmp 28)) (g := none) ⟨.int .i64, 1, 8, [.lit (.int .i64 0)]⟩ false [.lit (.int .i64 (IntKind.wrap .i64 ((IntKind.wrap .i64 (y3 + 1)) + 1)))] (.slot 0) [(0, (y1.toNat))] [(0, (y1.toNat))] 4 2 [.sl true 4 (((y2.set (y1.toNat) (⟨y3, v7.P, v7.B, v7.Q⟩ : Link)).set (y1.toNat) (⟨v8.A, (IntKind.wrap .i64 (y3 + 1)), v8.B, v8.Q⟩ : Link)).map Link.row)] (Link.row v9) [.sl true 4 (((y2.set (y1.toNat) (⟨y3, v7.P, v7.B, v7.Q⟩ : Link)).set (y1.toNat) (⟨v8.A, (IntKind.wrap .i64 (y3 + 1)), v8.B, v8.Q⟩ : Link)).map Link.row)] [.sl true 4 ((((y2.set (y1.toNat) (⟨y3, v7.P, v7.B, v7.Q⟩ : Link)).set (y1.toNat) (⟨v8.A, (IntKind.wrap .i64 (y3 + 1)), v8.B, v8.Q⟩ : Link)).set (y1.toNat) (⟨v9.A, v9.P, (IntKind.wrap .i64 ((IntKind.wrap .i64 (y3 + 1)) + 1)), v9.Q⟩ : Link)).map Link.row)] (by kernel_rfl) (by kernel_rfl) (by kernel_rfl) (by kernel_rfl) (by kernel_rfl) (by kernel_rfl) (getQ_elem rfl (idx_get ev9).2) rfl (by intro h; cases h) (by kernel_rfl) (by kernel_rfl) (by kernel_rfl) (modQ_elem (new := (⟨v9.A, v9.P, (IntKind.wrap .i64 ((IntKind.wrap .i64 (y3 + 1)) + 1)), v9.Q⟩ : Link)) rfl (idx_get ev9).2 rfl) (by kernel_rfl) ?_
        refine LAt.doneU [0, 30, 29, 28, 27, 1, 25, 24, 23, 22, 21, 20, 18, 17, 16, 15, 14, 13, 9, 8, 6, 5, 4, 26, 19, 12, 7] [] (by kernel_rfl) ?_
        refine Tr.rs ?_
        refine LAt.runU tOk 3 (by kernel_rfl) ?_
        refine LAt.doneU [1, 32, 31, 0, 30, 29, 28, 27, 25, 24, 23, 22, 21, 20, 18, 17, 16, 15, 14, 13, 9, 8, 6, 5, 4, 26, 19, 12, 7] [] (by kernel_rfl) ?_
        refine Tr.rs ?_
        refine LAt.runU tOk 3 (by kernel_rfl) ?_
        obtain ⟨v10, ev10, H⟩ := bind_some H
        refine LAt.indexO tOk (t := 31) (ty := 0) (x := (.tmp 33)) (y := (.tmp 34)) (d := 36) (g := none) ⟨(.slot 0), [], 0, true, 4, ((((y2.set (y1.toNat) (⟨y3, v7.P, v7.B, v7.Q⟩ : Link)).set (y1.toNat) (⟨v8.A, (IntKind.wrap .i64 (y3 + 1)), v8.B, v8.Q⟩ : Link)).set (y1.toNat) (⟨v9.A, v9.P, (IntKind.wrap .i64 ((IntKind.wrap .i64 (y3 + 1)) + 1)), v9.Q⟩ : Link)).map Link.row)⟩ y1 (y1.toNat) (Link.row v10) _ (by kernel_rfl) (by kernel_rfl) (by kernel_rfl) (by kernel_rfl) rfl (by kernel_rfl) (idx_isE ev10) rfl rfl ?_
        refine LAt.runU tOk 1 (by kernel_rfl) ?_
        refine LAt.storeK tOk (t := 3) (ty := 0) (ad := (.tmp 37)) (x := (.tmp 35)) (g := none) ⟨.int .i64, 1, 8, [.lit (.int .i64 0)]⟩ false [.lit (.int .i64 (IntKind.wrap .i64 ((IntKind.wrap .i64 ((IntKind.wrap .i64 (y3 + 1)) + 1)) + 1)))] (.slot 0) [(0, (y1.toNat))] [(0, (y1.toNat))] 4 3 [.sl true 4 ((((y2.set (y1.toNat) (⟨y3, v7.P, v7.B, v7.Q⟩ : Link)).set (y1.toNat) (⟨v8.A, (IntKind.wrap .i64 (y3 + 1)), v8.B, v8.Q⟩ : Link)).set (y1.toNat) (⟨v9.A, v9.P, (IntKind.wrap .i64 ((IntKind.wrap .i64 (y3 + 1)) + 1)), v9.Q⟩ : Link)).map Link.row)] (Link.row v10) [.sl true 4 ((((y2.set (y1.toNat) (⟨y3, v7.P, v7.B, v7.Q⟩ : Link)).set (y1.toNat) (⟨v8.A, (IntKind.wrap .i64 (y3 + 1)), v8.B, v8.Q⟩ : Link)).set (y1.toNat) (⟨v9.A, v9.P, (IntKind.wrap .i64 ((IntKind.wrap .i64 (y3 + 1)) + 1)), v9.Q⟩ : Link)).map Link.row)] [.sl true 4 (((((y2.set (y1.toNat) (⟨y3, v7.P, v7.B, v7.Q⟩ : Link)).set (y1.toNat) (⟨v8.A, (IntKind.wrap .i64 (y3 + 1)), v8.B, v8.Q⟩ : Link)).set (y1.toNat) (⟨v9.A, v9.P, (IntKind.wrap .i64 ((IntKind.wrap .i64 (y3 + 1)) + 1)), v9.Q⟩ : Link)).set (y1.toNat) (⟨v10.A, v10.P, v10.B, (IntKind.wrap .i64 ((IntKind.wrap .i64 ((IntKind.wrap .i64 (y3 + 1)) + 1)) + 1))⟩ : Link)).map Link.row)] (by kernel_rfl) (by kernel_rfl) (by kernel_rfl) (by kernel_rfl) (by kernel_rfl) (by kernel_rfl) (getQ_elem rfl (idx_get ev10).2) rfl (by intro h; cases h) (by kernel_rfl) (by kernel_rfl) (by kernel_rfl) (modQ_elem (new := (⟨v10.A, v10.P, v10.B, (IntKind.wrap .i64 ((IntKind.wrap .i64 ((IntKind.wrap .i64 (y3 + 1)) + 1)) + 1))⟩ : Link)) rfl (idx_get ev10).2 rfl) (by kernel_rfl) ?_
        refine LAt.doneU [0, 37, 36, 35, 34, 1, 32, 31, 30, 29, 28, 27, 25, 24, 23, 22, 21, 20, 18, 17, 16, 15, 14, 13, 9, 8, 6, 5, 4, 33, 26, 19, 12, 7] [] (by kernel_rfl) ?_
        refine Tr.at ?_
        refine LAt.runU tOk 3 (by kernel_rfl) ?_
        refine LAt.doneU [1, 39, 38, 0, 37, 36, 35, 34, 32, 31, 30, 29, 28, 27, 25, 24, 23, 22, 21, 20, 18, 17, 16, 15, 14, 13, 9, 8, 6, 5, 4, 33, 26, 19, 12, 7] [] (by kernel_rfl) ?_
        show Tr _ _ _ _ _
        refine Tr.at ?_
        refine LAt.runU tOk 3 (by kernel_rfl) ?_
        refine LAt.doneU [5, 11, 10, 1, 39, 38, 0, 37, 36, 35, 34, 32, 31, 30, 29, 28, 27, 25, 24, 23, 22, 21, 20, 18, 17, 16, 15, 14, 13, 9, 8, 6, 4, 33, 26, 19, 12, 7] [] (by kernel_rfl) ?_
        exact Exists.intro (mo6, ((IntKind.wrap .i64 (y1 + 1)), ((((y2.set (y1.toNat) (⟨y3, v7.P, v7.B, v7.Q⟩ : Link)).set (y1.toNat) (⟨v8.A, (IntKind.wrap .i64 (y3 + 1)), v8.B, v8.Q⟩ : Link)).set (y1.toNat) (⟨v9.A, v9.P, (IntKind.wrap .i64 ((IntKind.wrap .i64 (y3 + 1)) + 1)), v9.Q⟩ : Link)).set (y1.toNat) (⟨v10.A, v10.P, v10.B, (IntKind.wrap .i64 ((IntKind.wrap .i64 ((IntKind.wrap .i64 (y3 + 1)) + 1)) + 1))⟩ : Link)), (IntKind.wrap .i64 ((IntKind.wrap .i64 ((IntKind.wrap .i64 ((IntKind.wrap .i64 (y3 + 1)) + 1)) + 1)) + 1)))) (And.intro H (And.intro (Nat.lt_succ_self mo6) (St.sub_of [5, 4, 0, 1] [] (by kernel_rfl))))
  · rintro ⟨y4, y5⟩ H
    have H : (laws_markLinkS_J1 n y4 y5) = some r := H
    unfold laws_markLinkS_J1 at H
    show Tr _ _ _ _ _
    refine Tr.rs ?_
    refine LAt.runU tOk 2 (by kernel_rfl) ?_
    refine LAt.doneU [4, 0] [] (by kernel_rfl) ?_
    refine Tr.ret ?_
    have H := Option.some.inj H
    subst H
    exact Fin.ofY _ [(false, [.lit (.int .i64 y5)])] [false] _ [[.sl true 4 (y4.map Link.row)]] _ [] (by kernel_rfl) rfl rfl rfl (by kernel_rfl) (by kernel_rfl) (by kernel_rfl) (by kernel_rfl) rfl rfl rfl

def laws_markSayS_J1 (n : Nat) (y4 : (List Say)) (y5 : Int) : Option (Int × (List Say)) :=
  (some (y5, y4))
def laws_markSayS_L2 (n : Nat) : Nat → Int → (List Say) → Int → Option (((List Say) × Int) ⊕ (Int × (List Say)))
  | 0, _, _, _ => none
  | mo6 + 1, y1, y2, y3 => (bif (decide (y1 < (y2.length : Int))) then ((idx y2 y1).bind fun v7 => (bif (decide ((3 : Int) ≠ 0)) then ((idx (y2.set (y1.toNat) (⟨y3, v7.Back, v7.V⟩ : Say)) y1).bind fun v9 => ((idx ((y2.set (y1.toNat) (⟨y3, v7.Back, v7.V⟩ : Say)).set (y1.toNat) (⟨v9.Link, ((Int.tmod (IntKind.wrap .i64 (y3 + 1)) 3) == 0), v9.V⟩ : Say)) y1).bind fun v10 => ((idx (((y2.set (y1.toNat) (⟨y3, v7.Back, v7.V⟩ : Say)).set (y1.toNat) (⟨v9.Link, ((Int.tmod (IntKind.wrap .i64 (y3 + 1)) 3) == 0), v9.V⟩ : Say)).set (y1.toNat) (⟨v10.Link, v10.Back, (⟨(IntKind.wrap .i64 ((IntKind.wrap .i64 (y3 + 1)) + 1)), v10.V.Cost, v10.V.Hops, v10.V.Bridge, v10.V.Port⟩ : Vec)⟩ : Say)) y1).bind fun v11 => ((idx ((((y2.set (y1.toNat) (⟨y3, v7.Back, v7.V⟩ : Say)).set (y1.toNat) (⟨v9.Link, ((Int.tmod (IntKind.wrap .i64 (y3 + 1)) 3) == 0), v9.V⟩ : Say)).set (y1.toNat) (⟨v10.Link, v10.Back, (⟨(IntKind.wrap .i64 ((IntKind.wrap .i64 (y3 + 1)) + 1)), v10.V.Cost, v10.V.Hops, v10.V.Bridge, v10.V.Port⟩ : Vec)⟩ : Say)).set (y1.toNat) (⟨v11.Link, v11.Back, (⟨v11.V.Root, (IntKind.wrap .i64 ((IntKind.wrap .i64 ((IntKind.wrap .i64 (y3 + 1)) + 1)) + 1)), v11.V.Hops, v11.V.Bridge, v11.V.Port⟩ : Vec)⟩ : Say)) y1).bind fun v12 => ((idx (((((y2.set (y1.toNat) (⟨y3, v7.Back, v7.V⟩ : Say)).set (y1.toNat) (⟨v9.Link, ((Int.tmod (IntKind.wrap .i64 (y3 + 1)) 3) == 0), v9.V⟩ : Say)).set (y1.toNat) (⟨v10.Link, v10.Back, (⟨(IntKind.wrap .i64 ((IntKind.wrap .i64 (y3 + 1)) + 1)), v10.V.Cost, v10.V.Hops, v10.V.Bridge, v10.V.Port⟩ : Vec)⟩ : Say)).set (y1.toNat) (⟨v11.Link, v11.Back, (⟨v11.V.Root, (IntKind.wrap .i64 ((IntKind.wrap .i64 ((IntKind.wrap .i64 (y3 + 1)) + 1)) + 1)), v11.V.Hops, v11.V.Bridge, v11.V.Port⟩ : Vec)⟩ : Say)).set (y1.toNat) (⟨v12.Link, v12.Back, (⟨v12.V.Root, v12.V.Cost, (IntKind.wrap .i64 ((IntKind.wrap .i64 ((IntKind.wrap .i64 ((IntKind.wrap .i64 (y3 + 1)) + 1)) + 1)) + 1)), v12.V.Bridge, v12.V.Port⟩ : Vec)⟩ : Say)) y1).bind fun v13 => ((idx ((((((y2.set (y1.toNat) (⟨y3, v7.Back, v7.V⟩ : Say)).set (y1.toNat) (⟨v9.Link, ((Int.tmod (IntKind.wrap .i64 (y3 + 1)) 3) == 0), v9.V⟩ : Say)).set (y1.toNat) (⟨v10.Link, v10.Back, (⟨(IntKind.wrap .i64 ((IntKind.wrap .i64 (y3 + 1)) + 1)), v10.V.Cost, v10.V.Hops, v10.V.Bridge, v10.V.Port⟩ : Vec)⟩ : Say)).set (y1.toNat) (⟨v11.Link, v11.Back, (⟨v11.V.Root, (IntKind.wrap .i64 ((IntKind.wrap .i64 ((IntKind.wrap .i64 (y3 + 1)) + 1)) + 1)), v11.V.Hops, v11.V.Bridge, v11.V.Port⟩ : Vec)⟩ : Say)).set (y1.toNat) (⟨v12.Link, v12.Back, (⟨v12.V.Root, v12.V.Cost, (IntKind.wrap .i64 ((IntKind.wrap .i64 ((IntKind.wrap .i64 ((IntKind.wrap .i64 (y3 + 1)) + 1)) + 1)) + 1)), v12.V.Bridge, v12.V.Port⟩ : Vec)⟩ : Say)).set (y1.toNat) (⟨v13.Link, v13.Back, (⟨v13.V.Root, v13.V.Cost, v13.V.Hops, (IntKind.wrap .i64 ((IntKind.wrap .i64 ((IntKind.wrap .i64 ((IntKind.wrap .i64 ((IntKind.wrap .i64 (y3 + 1)) + 1)) + 1)) + 1)) + 1)), v13.V.Port⟩ : Vec)⟩ : Say)) y1).bind fun v14 => (laws_markSayS_L2 n mo6 (IntKind.wrap .i64 (y1 + 1)) (((((((y2.set (y1.toNat) (⟨y3, v7.Back, v7.V⟩ : Say)).set (y1.toNat) (⟨v9.Link, ((Int.tmod (IntKind.wrap .i64 (y3 + 1)) 3) == 0), v9.V⟩ : Say)).set (y1.toNat) (⟨v10.Link, v10.Back, (⟨(IntKind.wrap .i64 ((IntKind.wrap .i64 (y3 + 1)) + 1)), v10.V.Cost, v10.V.Hops, v10.V.Bridge, v10.V.Port⟩ : Vec)⟩ : Say)).set (y1.toNat) (⟨v11.Link, v11.Back, (⟨v11.V.Root, (IntKind.wrap .i64 ((IntKind.wrap .i64 ((IntKind.wrap .i64 (y3 + 1)) + 1)) + 1)), v11.V.Hops, v11.V.Bridge, v11.V.Port⟩ : Vec)⟩ : Say)).set (y1.toNat) (⟨v12.Link, v12.Back, (⟨v12.V.Root, v12.V.Cost, (IntKind.wrap .i64 ((IntKind.wrap .i64 ((IntKind.wrap .i64 ((IntKind.wrap .i64 (y3 + 1)) + 1)) + 1)) + 1)), v12.V.Bridge, v12.V.Port⟩ : Vec)⟩ : Say)).set (y1.toNat) (⟨v13.Link, v13.Back, (⟨v13.V.Root, v13.V.Cost, v13.V.Hops, (IntKind.wrap .i64 ((IntKind.wrap .i64 ((IntKind.wrap .i64 ((IntKind.wrap .i64 ((IntKind.wrap .i64 (y3 + 1)) + 1)) + 1)) + 1)) + 1)), v13.V.Port⟩ : Vec)⟩ : Say)).set (y1.toNat) (⟨v14.Link, v14.Back, (⟨v14.V.Root, v14.V.Cost, v14.V.Hops, v14.V.Bridge, (IntKind.wrap .i64 ((IntKind.wrap .i64 ((IntKind.wrap .i64 ((IntKind.wrap .i64 ((IntKind.wrap .i64 ((IntKind.wrap .i64 (y3 + 1)) + 1)) + 1)) + 1)) + 1)) + 1))⟩ : Vec)⟩ : Say)) (IntKind.wrap .i64 ((IntKind.wrap .i64 ((IntKind.wrap .i64 ((IntKind.wrap .i64 ((IntKind.wrap .i64 ((IntKind.wrap .i64 ((IntKind.wrap .i64 (y3 + 1)) + 1)) + 1)) + 1)) + 1)) + 1)) + 1))))))))) else none)) else (some (Sum.inl (y2, y3))))
def laws_markSaySF (n : Nat) (x0 : (List Say)) (x1 : Int) : Option (Int × (List Say)) :=
  ((laws_markSayS_L2 n n 0 x0 x1).bind fun o => match o with | .inl (y4, y5) => (laws_markSayS_J1 n y4 y5) | .inr r => some r)
/-- loop.example/g00326/laws.markSayS -/
theorem laws_markSayS (n : Nat) (x0 : (List Say)) (x1 : Int) (r : Int × (List Say)) (H : laws_markSaySF n x0 x1 = some r) : LCall Try.prog 83 [.io false [.sl true 7 (x0.map Say.row)], .val false [.lit (.int .i64 x1)]] [.val false [.lit (.int .i64 r.1)]] [(0, [.sl true 7 (r.2.map Say.row)])] := by
  refine LCall.of_body tOk Try.func83 rfl (c := (.seq (.region 0 (rg Try.f83 0) false) (.seq (.seq (.region 1 (rg Try.f83 1) false) (.block 0 (.loop (.seq (.seq (.region 2 (rg Try.f83 2) false) (.cond (.tmp 9) .skip (.exit 0))) (.seq (.block 1 (.seq (.region 4 (rg Try.f83 4) false) (.seq (.region 5 (rg Try.f83 5) false) (.seq (.region 6 (rg Try.f83 6) false) (.seq (.region 7 (rg Try.f83 7) false) (.seq (.region 8 (rg Try.f83 8) false) (.seq (.region 9 (rg Try.f83 9) false) (.seq (.region 10 (rg Try.f83 10) false) (.seq (.region 11 (rg Try.f83 11) false) (.seq (.region 12 (rg Try.f83 12) false) (.seq (.region 13 (rg Try.f83 13) false) (.seq (.region 14 (rg Try.f83 14) false) (.seq (.region 15 (rg Try.f83 15) false) (.seq (.region 16 (rg Try.f83 16) false) (.region 17 (rg Try.f83 17) false))))))))))))))) (.region 3 (rg Try.f83 3) false)))))) (.seq (.region 18 (rg Try.f83 18) false) .ret)))) (by kernel_rfl) (Nat.le_of_ble_eq_true (by kernel_rfl)) 1 (rs := [.tmp 4]) rfl [0] (by decide) [(false, [.lit (.int .i64 r.1)])] [[.sl true 7 (r.2.map Say.row)]] [] fun cx => ?_
  show Tr _ _ _ ⟨69, 1, [(0, .val false [.sl true 7 (x0.map Say.row)]), (1, .val false [.lit (.int .i64 x1)])], []⟩ _
  unfold laws_markSaySF at H
  refine Tr.rs ?_
  refine LAt.runU tOk 1 (by kernel_rfl) ?_
  refine LAt.doneU [4, 0, 1] [] (by kernel_rfl) ?_
  refine Tr.seq ?_
  refine Tr.rs ?_
  refine LAt.runU tOk 1 (by kernel_rfl) ?_
  refine LAt.doneU [5, 4, 0, 1] [] (by kernel_rfl) ?_
  obtain ⟨o6, eo6, Ho6⟩ := bind_some H
  clear H
  refine Tr.mid (ι := (List Say) × Int) (fun v => ⟨69, 1, [(4, .val false [.lit (.int .i64 0)]), (0, .val false [.sl true 7 (v.1.map Say.row)]), (1, .val false [.lit (.int .i64 v.2)])], []⟩) (fun v => laws_markSayS_J1 n v.1 v.2 = some r) ?_ ?_
  · refine Tr.block ?_
    refine Tr.loop (ι := Nat × (Int × (List Say) × Int)) (fun v => ⟨69, 1, [(5, .val false [.lit (.int .i64 v.2.1)]), (4, .val false [.lit (.int .i64 0)]), (0, .val false [.sl true 7 (v.2.2.1.map Say.row)]), (1, .val false [.lit (.int .i64 v.2.2.2)])], []⟩) (fun v => laws_markSayS_L2 n v.1 v.2.1 v.2.2.1 v.2.2.2 = some o6) (fun v => v.1) (n, (0, x0, x1)) eo6 (St.sub_of [5, 4, 0, 1] [] (by kernel_rfl)) ?_
    rintro ⟨mo6, y1, y2, y3⟩ H
    have H : laws_markSayS_L2 n mo6 y1 y2 y3 = some o6 := H
    obtain _ | mo6 := mo6
    · cases (show (none : Option _) = some o6 from H)
    · rw [laws_markSayS_L2] at H
      refine Tr.seq ?_
      refine Tr.rs ?_
      refine LAt.runU tOk 2 (by kernel_rfl) ?_
      refine LAt.lenE tOk (t := 32) (ty := 3) (e := 116) (x := (.tmp 7)) (d := 8) (g := none) ⟨(.slot 0), [], 0, true, 7, (y2.map Say.row)⟩ (y2).length _ (by kernel_rfl) (by kernel_rfl) (by kernel_rfl) (by kernel_rfl) (by kernel_rfl) (map_len _ _) rfl ?_
      refine LAt.runU tOk 1 (by kernel_rfl) ?_
      refine LAt.doneU [9, 8, 7, 6, 5, 4, 0, 1] [] (by kernel_rfl) ?_
      refine Tr.to ⟨69, 1, [(9, .val false [.lit (.bool (decide (y1 < (y2.length : Int))))]), (8, .val false [.lit (.int .i64 (y2.length : Int))]), (7, .ref (.slot 0) [] 0 0 1 false), (6, .val false [.lit (.int .i64 y1)]), (5, .val false [.lit (.int .i64 y1)]), (4, .val false [.lit (.int .i64 0)]), (0, .val false [.sl true 7 (y2.map Say.row)]), (1, .val false [.lit (.int .i64 y3)])], []⟩ (by kernel_rfl) ?_
      cases h1 : (decide (y1 < (y2.length : Int)))
      · have H := bifF h1 H
        refine Tr.cond (b := false) (by kernel_rfl) (fun h => nomatch h) (fun _ => ?_)
        refine Tr.exit ?_
        refine And.intro (fun _ => ?_) (fun h => absurd rfl h)
        have H := Option.some.inj H
        subst H
        have H := Ho6
        dsimp only at H
        exact Exists.intro (y2, y3) (And.intro H (St.sub_of [4, 0, 1] [] (by kernel_rfl)))
      · have H := bifT h1 H
        refine Tr.cond (b := true) (by kernel_rfl) (fun _ => ?_) (fun h => nomatch h)
        refine Tr.skip ?_
        show Tr _ _ _ _ _
        refine Tr.seq ?_
        refine Tr.block ?_
        refine Tr.rs ?_
        refine LAt.runU tOk 3 (by kernel_rfl) ?_
        obtain ⟨v7, ev7, H⟩ := bind_some H
        refine LAt.indexO tOk (t := 32) (ty := 0) (x := (.tmp 12)) (y := (.tmp 13)) (d := 15) (g := none) ⟨(.slot 0), [], 0, true, 7, (y2.map Say.row)⟩ y1 (y1.toNat) (Say.row v7) _ (by kernel_rfl) (by kernel_rfl) (by kernel_rfl) (by kernel_rfl) rfl (by kernel_rfl) (idx_isE ev7) rfl rfl ?_
        refine LAt.runU tOk 1 (by kernel_rfl) ?_
        refine LAt.storeK tOk (t := 3) (ty := 0) (ad := (.tmp 16)) (x := (.tmp 14)) (g := none) ⟨.int .i64, 1, 8, [.lit (.int .i64 0)]⟩ false [.lit (.int .i64 y3)] (.slot 0) [(0, (y1.toNat))] [(0, (y1.toNat))] 7 0 [.sl true 7 (y2.map Say.row)] (Say.row v7) [.sl true 7 (y2.map Say.row)] [.sl true 7 ((y2.set (y1.toNat) (⟨y3, v7.Back, v7.V⟩ : Say)).map Say.row)] (by kernel_rfl) (by kernel_rfl) (by kernel_rfl) (by kernel_rfl) (by kernel_rfl) (by kernel_rfl) (getQ_elem rfl (idx_get ev7).2) rfl (by intro h; cases h) (by kernel_rfl) (by kernel_rfl) (by kernel_rfl) (modQ_elem (new := (⟨y3, v7.Back, v7.V⟩ : Say)) rfl (idx_get ev7).2 rfl) (by kernel_rfl) ?_
        refine LAt.doneU [0, 16, 15, 14, 13, 9, 8, 6, 5, 4, 1, 12, 7] [] (by kernel_rfl) ?_
        refine Tr.rs ?_
        refine LAt.runU tOk 3 (by kernel_rfl) ?_
        refine LAt.doneU [1, 18, 17, 0, 16, 15, 14, 13, 9, 8, 6, 5, 4, 12, 7] [] (by kernel_rfl) ?_
        refine Tr.rs ?_
        refine LAt.runU tOk 3 (by kernel_rfl) ?_
        obtain ⟨hg8, H⟩ := guard_some H
        refine LAt.binC tOk (op := .rem) (t := 3) (ty := 3) (ty' := 3) (x := (.tmp 21)) (y := (.const (.int .i64 3))) (d := 22) (g := none) (.int .i64 (IntKind.wrap .i64 (y3 + 1))) (.int .i64 3) (.int .i64 (Int.tmod (IntKind.wrap .i64 (y3 + 1)) 3)) _ (by kernel_rfl) (by kernel_rfl) (by kernel_rfl) (by kernel_rfl) (by kernel_rfl) (φ := (IntKind.i64 = IntKind.i64 ∧ (3 : Int) ≠ 0)) (by kernel_rfl) (⟨rfl, of_decide_eq_true hg8⟩) rfl ?_
        refine LAt.runU tOk 1 (by kernel_rfl) ?_
        obtain ⟨v9, ev9, H⟩ := bind_some H
        refine LAt.indexO tOk (t := 32) (ty := 0) (x := (.tmp 19)) (y := (.tmp 20)) (d := 24) (g := none) ⟨(.slot 0), [], 0, true, 7, ((y2.set (y1.toNat) (⟨y3, v7.Back, v7.V⟩ : Say)).map Say.row)⟩ y1 (y1.toNat) (Say.row v9) _ (by kernel_rfl) (by kernel_rfl) (by kernel_rfl) (by kernel_rfl) rfl (by kernel_rfl) (idx_isE ev9) rfl rfl ?_
        refine LAt.runU tOk 1 (by kernel_rfl) ?_
        refine LAt.storeK tOk (t := 4) (ty := 0) (ad := (.tmp 25)) (x := (.tmp 23)) (g := none) ⟨.bool, 1, 1, [.lit (.bool false)]⟩ false [.lit (.bool ((Int.tmod (IntKind.wrap .i64 (y3 + 1)) 3) == 0))] (.slot 0) [(0, (y1.toNat))] [(0, (y1.toNat))] 7 1 [.sl true 7 ((y2.set (y1.toNat) (⟨y3, v7.Back, v7.V⟩ : Say)).map Say.row)] (Say.row v9) [.sl true 7 ((y2.set (y1.toNat) (⟨y3, v7.Back, v7.V⟩ : Say)).map Say.row)] [.sl true 7 (((y2.set (y1.toNat) (⟨y3, v7.Back, v7.V⟩ : Say)).set (y1.toNat) (⟨v9.Link, ((Int.tmod (IntKind.wrap .i64 (y3 + 1)) 3) == 0), v9.V⟩ : Say)).map Say.row)] (by kernel_rfl) (by kernel_rfl) (by kernel_rfl) (by kernel_rfl) (by kernel_rfl) (by kernel_rfl) (getQ_elem rfl (idx_get ev9).2) rfl (by intro h; cases h) (by kernel_rfl) (by kernel_rfl) (by kernel_rfl) (modQ_elem (new := (⟨v9.Link, ((Int.tmod (IntKind.wrap .i64 (y3 + 1)) 3) == 0), v9.V⟩ : Say)) rfl (idx_get ev9).2 rfl) (by kernel_rfl) ?_
        refine LAt.doneU [0, 25, 24, 23, 22, 21, 20, 1, 18, 17, 16, 15, 14, 13, 9, 8, 6, 5, 4, 19, 12, 7] [] (by kernel_rfl) ?_
        refine Tr.rs ?_
        refine LAt.runU tOk 3 (by kernel_rfl) ?_
        refine LAt.doneU [1, 27, 26, 0, 25, 24, 23, 22, 21, 20, 18, 17, 16, 15, 14, 13, 9, 8, 6, 5, 4, 19, 12, 7] [] (by kernel_rfl) ?_
        refine Tr.rs ?_
        refine LAt.runU tOk 3 (by kernel_rfl) ?_
        obtain ⟨v10, ev10, H⟩ := bind_some H
        refine LAt.indexO tOk (t := 32) (ty := 0) (x := (.tmp 28)) (y := (.tmp 29)) (d := 31) (g := none) ⟨(.slot 0), [], 0, true, 7, (((y2.set (y1.toNat) (⟨y3, v7.Back, v7.V⟩ : Say)).set (y1.toNat) (⟨v9.Link, ((Int.tmod (IntKind.wrap .i64 (y3 + 1)) 3) == 0), v9.V⟩ : Say)).map Say.row)⟩ y1 (y1.toNat) (Say.row v10) _ (by kernel_rfl) (by kernel_rfl) (by kernel_rfl) (by kernel_rfl) rfl (by kernel_rfl) (idx_isE ev10) rfl rfl ?_
        refine LAt.runU tOk 2 (by kernel_rfl) ?_
        refine LAt.storeK tOk (t := 3) (ty := 0) (ad := (.tmp 33)) (x := (.tmp 30)) (g := none) ⟨.int .i64, 1, 8, [.lit (.int .i64 0)]⟩ false [.lit (.int .i64 (IntKind.wrap .i64 ((IntKind.wrap .i64 (y3 + 1)) + 1)))] (.slot 0) [(0, (y1.toNat))] [(0, (y1.toNat))] 7 2 [.sl true 7 (((y2.set (y1.toNat) (⟨y3, v7.Back, v7.V⟩ : Say)).set (y1.toNat) (⟨v9.Link, ((Int.tmod (IntKind.wrap .i64 (y3 + 1)) 3) == 0), v9.V⟩ : Say)).map Say.row)] (Say.row v10) [.sl true 7 (((y2.set (y1.toNat) (⟨y3, v7.Back, v7.V⟩ : Say)).set (y1.toNat) (⟨v9.Link, ((Int.tmod (IntKind.wrap .i64 (y3 + 1)) 3) == 0), v9.V⟩ : Say)).map Say.row)] [.sl true 7 ((((y2.set (y1.toNat) (⟨y3, v7.Back, v7.V⟩ : Say)).set (y1.toNat) (⟨v9.Link, ((Int.tmod (IntKind.wrap .i64 (y3 + 1)) 3) == 0), v9.V⟩ : Say)).set (y1.toNat) (⟨v10.Link, v10.Back, (⟨(IntKind.wrap .i64 ((IntKind.wrap .i64 (y3 + 1)) + 1)), v10.V.Cost, v10.V.Hops, v10.V.Bridge, v10.V.Port⟩ : Vec)⟩ : Say)).map Say.row)] (by kernel_rfl) (by kernel_rfl) (by kernel_rfl) (by kernel_rfl) (by kernel_rfl) (by kernel_rfl) (getQ_elem rfl (idx_get ev10).2) rfl (by intro h; cases h) (by kernel_rfl) (by kernel_rfl) (by kernel_rfl) (modQ_elem (new := (⟨v10.Link, v10.Back, (⟨(IntKind.wrap .i64 ((IntKind.wrap .i64 (y3 + 1)) + 1)), v10.V.Cost, v10.V.Hops, v10.V.Bridge, v10.V.Port⟩ : Vec)⟩ : Say)) rfl (idx_get ev10).2 rfl) (by kernel_rfl) ?_
        refine LAt.doneU [0, 33, 32, 31, 30, 29, 1, 27, 26, 25, 24, 23, 22, 21, 20, 18, 17, 16, 15, 14, 13, 9, 8, 6, 5, 4, 28, 19, 12, 7] [] (by kernel_rfl) ?_
        refine Tr.rs ?_
        refine LAt.runU tOk 3 (by kernel_rfl) ?_
        refine LAt.doneU [1, 35, 34, 0, 33, 32, 31, 30, 29, 27, 26, 25, 24, 23, 22, 21, 20, 18, 17, 16, 15, 14, 13, 9, 8, 6, 5, 4, 28, 19, 12, 7] [] (by kernel_rfl) ?_
        refine Tr.rs ?_
        refine LAt.runU tOk 3 (by kernel_rfl) ?_
        obtain ⟨v11, ev11, H⟩ := bind_some H
        refine LAt.indexO tOk (t := 32) (ty := 0) (x := (.tmp 36)) (y := (.tmp 37)) (d := 39) (g := none) ⟨(.slot 0), [], 0, true, 7, ((((y2.set (y1.toNat) (⟨y3, v7.Back, v7.V⟩ : Say)).set (y1.toNat) (⟨v9.Link, ((Int.tmod (IntKind.wrap .i64 (y3 + 1)) 3) == 0), v9.V⟩ : Say)).set (y1.toNat) (⟨v10.Link, v10.Back, (⟨(IntKind.wrap .i64 ((IntKind.wrap .i64 (y3 + 1)) + 1)), v10.V.Cost, v10.V.Hops, v10.V.Bridge, v10.V.Port⟩ : Vec)⟩ : Say)).map Say.row)⟩ y1 (y1.toNat) (Say.row v11) _ (by kernel_rfl) (by kernel_rfl) (by kernel_rfl) (by kernel_rfl) rfl (by kernel_rfl) (idx_isE ev11) rfl rfl ?_
        refine LAt.runU tOk 2 (by kernel_rfl) ?_
        refine LAt.storeK tOk (t := 3) (ty := 0) (ad := (.tmp 41)) (x := (.tmp 38)) (g := none) ⟨.int .i64, 1, 8, [.lit (.int .i64 0)]⟩ false [.lit (.int .i64 (IntKind.wrap .i64 ((IntKind.wrap .i64 ((IntKind.wrap .i64 (y3 + 1)) + 1)) + 1)))] (.slot 0) [(0, (y1.toNat))] [(0, (y1.toNat))] 7 3 [.sl true 7 ((((y2.set (y1.toNat) (⟨y3, v7.Back, v7.V⟩ : Say)).set (y1.toNat) (⟨v9.Link, ((Int.tmod (IntKind.wrap .i64 (y3 + 1)) 3) == 0), v9.V⟩ : Say)).set (y1.toNat) (⟨v10.Link, v10.Back, (⟨(IntKind.wrap .i64 ((IntKind.wrap .i64 (y3 + 1)) + 1)), v10.V.Cost, v10.V.Hops, v10.V.Bridge, v10.V.Port⟩ : Vec)⟩ : Say)).map Say.row)] (Say.row v11) [.sl true 7 ((((y2.set (y1.toNat) (⟨y3, v7.Back, v7.V⟩ : Say)).set (y1.toNat) (⟨v9.Link, ((Int.tmod (IntKind.wrap .i64 (y3 + 1)) 3) == 0), v9.V⟩ : Say)).set (y1.toNat) (⟨v10.Link, v10.Back, (⟨(IntKind.wrap .i64 ((IntKind.wrap .i64 (y3 + 1)) + 1)), v10.V.Cost, v10.V.Hops, v10.V.Bridge, v10.V.Port⟩ : Vec)⟩ : Say)).map Say.row)] [.sl true 7 (((((y2.set (y1.toNat) (⟨y3, v7.Back, v7.V⟩ : Say)).set (y1.toNat) (⟨v9.Link, ((Int.tmod (IntKind.wrap .i64 (y3 + 1)) 3) == 0), v9.V⟩ : Say)).set (y1.toNat) (⟨v10.Link, v10.Back, (⟨(IntKind.wrap .i64 ((IntKind.wrap .i64 (y3 + 1)) + 1)), v10.V.Cost, v10.V.Hops, v10.V.Bridge, v10.V.Port⟩ : Vec)⟩ : Say)).set (y1.toNat) (⟨v11.Link, v11.Back, (⟨v11.V.Root, (IntKind.wrap .i64 ((IntKind.wrap .i64 ((IntKind.wrap .i64 (y3 + 1)) + 1)) + 1)), v11.V.Hops, v11.V.Bridge, v11.V.Port⟩ : Vec)⟩ : Say)).map Say.row)] (by kernel_rfl) (by kernel_rfl) (by kernel_rfl) (by kernel_rfl) (by kernel_rfl) (by kernel_rfl) (getQ_elem rfl (idx_get ev11).2) rfl (by intro h; cases h) (by kernel_rfl) (by kernel_rfl) (by kernel_rfl) (modQ_elem (new := (⟨v11.Link, v11.Back, (⟨v11.V.Root, (IntKind.wrap .i64 ((IntKind.wrap .i64 ((IntKind.wrap .i64 (y3 + 1)) + 1)) + 1)), v11.V.Hops, v11.V.Bridge, v11.V.Port⟩ : Vec)⟩ : Say)) rfl (idx_get ev11).2 rfl) (by kernel_rfl) ?_
        refine LAt.doneU [0, 41, 40, 39, 38, 37, 1, 35, 34, 33, 32, 31, 30, 29, 27, 26, 25, 24, 23, 22, 21, 20, 18, 17, 16, 15, 14, 13, 9, 8, 6, 5, 4, 36, 28, 19, 12, 7] [] (by kernel_rfl) ?_
        refine Tr.rs ?_
        refine LAt.runU tOk 3 (by kernel_rfl) ?_
        refine LAt.doneU [1, 43, 42, 0, 41, 40, 39, 38, 37, 35, 34, 33, 32, 31, 30, 29, 27, 26, 25, 24, 23, 22, 21, 20, 18, 17, 16, 15, 14, 13, 9, 8, 6, 5, 4, 36, 28, 19, 12, 7] [] (by kernel_rfl) ?_
        refine Tr.rs ?_
        refine LAt.runU tOk 3 (by kernel_rfl) ?_
        obtain ⟨v12, ev12, H⟩ := bind_some H
        refine LAt.indexO tOk (t := 32) (ty := 0) (x := (.tmp 44)) (y := (.tmp 45)) (d := 47) (g := none) ⟨(.slot 0), [], 0, true, 7, (((((y2.set (y1.toNat) (⟨y3, v7.Back, v7.V⟩ : Say)).set (y1.toNat) (⟨v9.Link, ((Int.tmod (IntKind.wrap .i64 (y3 + 1)) 3) == 0), v9.V⟩ : Say)).set (y1.toNat) (⟨v10.Link, v10.Back, (⟨(IntKind.wrap .i64 ((IntKind.wrap .i64 (y3 + 1)) + 1)), v10.V.Cost, v10.V.Hops, v10.V.Bridge, v10.V.Port⟩ : Vec)⟩ : Say)).set (y1.toNat) (⟨v11.Link, v11.Back, (⟨v11.V.Root, (IntKind.wrap .i64 ((IntKind.wrap .i64 ((IntKind.wrap .i64 (y3 + 1)) + 1)) + 1)), v11.V.Hops, v11.V.Bridge, v11.V.Port⟩ : Vec)⟩ : Say)).map Say.row)⟩ y1 (y1.toNat) (Say.row v12) _ (by kernel_rfl) (by kernel_rfl) (by kernel_rfl) (by kernel_rfl) rfl (by kernel_rfl) (idx_isE ev12) rfl rfl ?_
        refine LAt.runU tOk 2 (by kernel_rfl) ?_
        refine LAt.storeK tOk (t := 3) (ty := 0) (ad := (.tmp 49)) (x := (.tmp 46)) (g := none) ⟨.int .i64, 1, 8, [.lit (.int .i64 0)]⟩ false [.lit (.int .i64 (IntKind.wrap .i64 ((IntKind.wrap .i64 ((IntKind.wrap .i64 ((IntKind.wrap .i64 (y3 + 1)) + 1)) + 1)) + 1)))] (.slot 0) [(0, (y1.toNat))] [(0, (y1.toNat))] 7 4 [.sl true 7 (((((y2.set (y1.toNat) (⟨y3, v7.Back, v7.V⟩ : Say)).set (y1.toNat) (⟨v9.Link, ((Int.tmod (IntKind.wrap .i64 (y3 + 1)) 3) == 0), v9.V⟩ : Say)).set (y1.toNat) (⟨v10.Link, v10.Back, (⟨(IntKind.wrap .i64 ((IntKind.wrap .i64 (y3 + 1)) + 1)), v10.V.Cost, v10.V.Hops, v10.V.Bridge, v10.V.Port⟩ : Vec)⟩ : Say)).set (y1.toNat) (⟨v11.Link, v11.Back, (⟨v11.V.Root, (IntKind.wrap .i64 ((IntKind.wrap .i64 ((IntKind.wrap .i64 (y3 + 1)) + 1)) + 1)), v11.V.Hops, v11.V.Bridge, v11.V.Port⟩ : Vec)⟩ : Say)).map Say.row)] (Say.row v12) [.sl true 7 (((((y2.set (y1.toNat) (⟨y3, v7.Back, v7.V⟩ : Say)).set (y1.toNat) (⟨v9.Link, ((Int.tmod (IntKind.wrap .i64 (y3 + 1)) 3) == 0), v9.V⟩ : Say)).set (y1.toNat) (⟨v10.Link, v10.Back, (⟨(IntKind.wrap .i64 ((IntKind.wrap .i64 (y3 + 1)) + 1)), v10.V.Cost, v10.V.Hops, v10.V.Bridge, v10.V.Port⟩ : Vec)⟩ : Say)).set (y1.toNat) (⟨v11.Link, v11.Back, (⟨v11.V.Root, (IntKind.wrap .i64 ((IntKind.wrap .i64 ((IntKind.wrap .i64 (y3 + 1)) + 1)) + 1)), v11.V.Hops, v11.V.Bridge, v11.V.Port⟩ : Vec)⟩ : Say)).map Say.row)] [.sl true 7 ((((((y2.set (y1.toNat) (⟨y3, v7.Back, v7.V⟩ : Say)).set (y1.toNat) (⟨v9.Link, ((Int.tmod (IntKind.wrap .i64 (y3 + 1)) 3) == 0), v9.V⟩ : Say)).set (y1.toNat) (⟨v10.Link, v10.Back, (⟨(IntKind.wrap .i64 ((IntKind.wrap .i64 (y3 + 1)) + 1)), v10.V.Cost, v10.V.Hops, v10.V.Bridge, v10.V.Port⟩ : Vec)⟩ : Say)).set (y1.toNat) (⟨v11.Link, v11.Back, (⟨v11.V.Root, (IntKind.wrap .i64 ((IntKind.wrap .i64 ((IntKind.wrap .i64 (y3 + 1)) + 1)) + 1)), v11.V.Hops, v11.V.Bridge, v11.V.Port⟩ : Vec)⟩ : Say)).set (y1.toNat) (⟨v12.Link, v12.Back, (⟨v12.V.Root, v12.V.Cost, (IntKind.wrap .i64 ((IntKind.wrap .i64 ((IntKind.wrap .i64 ((IntKind.wrap .i64 (y3 + 1)) + 1)) + 1)) + 1)), v12.V.Bridge, v12.V.Port⟩ : Vec)⟩ : Say)).map Say.row)] (by kernel_rfl) (by kernel_rfl) (by kernel_rfl) (by kernel_rfl) (by kernel_rfl) (by kernel_rfl) (getQ_elem rfl (idx_get ev12).2) rfl (by intro h; cases h) (by kernel_rfl) (by kernel_rfl) (by kernel_rfl) (modQ_elem (new := (⟨v12.Link, v12.Back, (⟨v12.V.Root, v12.V.Cost, (IntKind.wrap .i64 ((IntKind.wrap .i64 ((IntKind.wrap .i64 ((IntKind.wrap .i64 (y3 + 1)) + 1)) + 1)) + 1)), v12.V.Bridge, v12.V.Port⟩ : Vec)⟩ : Say)) rfl (idx_get ev12).2 rfl) (by kernel_rfl) ?_
        refine LAt.doneU [0, 49, 48, 47, 46, 45, 1, 43, 42, 41, 40, 39, 38, 37, 35, 34, 33, 32, 31, 30, 29, 27, 26, 25, 24, 23, 22, 21, 20, 18, 17, 16, 15, 14, 13, 9, 8, 6, 5, 4, 44, 36, 28, 19, 12, 7] [] (by kernel_rfl) ?_
        refine Tr.rs ?_
        refine LAt.runU tOk 3 (by kernel_rfl) ?_
        refine LAt.doneU [1, 51, 50, 0, 49, 48, 47, 46, 45, 43, 42, 41, 40, 39, 38, 37, 35, 34, 33, 32, 31, 30, 29, 27, 26, 25, 24, 23, 22, 21, 20, 18, 17, 16, 15, 14, 13, 9, 8, 6, 5, 4, 44, 36, 28, 19, 12, 7] [] (by kernel_rfl) ?_
        refine Tr.rs ?_
        refine LAt.runU tOk 3 (by kernel_rfl) ?_
        obtain ⟨v13, ev13, H⟩ := bind_some H
        refine LAt.indexO tOk (t := 32) (ty := 0) (x := (.tmp 52)) (y := (.tmp 53)) (d := 55) (g := none) ⟨(.slot 0), [], 0, true, 7, ((((((y2.set (y1.toNat) (⟨y3, v7.Back, v7.V⟩ : Say)).set (y1.toNat) (⟨v9.Link, ((Int.tmod (IntKind.wrap .i64 (y3 + 1)) 3) == 0), v9.V⟩ : Say)).set (y1.toNat) (⟨v10.Link, v10.Back, (⟨(IntKind.wrap .i64 ((IntKind.wrap .i64 (y3 + 1)) + 1)), v10.V.Cost, v10.V.Hops, v10.V.Bridge, v10.V.Port⟩ : Vec)⟩ : Say)).set (y1.toNat) (⟨v11.Link, v11.Back, (⟨v11.V.Root, (IntKind.wrap .i64 ((IntKind.wrap .i64 ((IntKind.wrap .i64 (y3 + 1)) + 1)) + 1)), v11.V.Hops, v11.V.Bridge, v11.V.Port⟩ : Vec)⟩ : Say)).set (y1.toNat) (⟨v12.Link, v12.Back, (⟨v12.V.Root, v12.V.Cost, (IntKind.wrap .i64 ((IntKind.wrap .i64 ((IntKind.wrap .i64 ((IntKind.wrap .i64 (y3 + 1)) + 1)) + 1)) + 1)), v12.V.Bridge, v12.V.Port⟩ : Vec)⟩ : Say)).map Say.row)⟩ y1 (y1.toNat) (Say.row v13) _ (by kernel_rfl) (by kernel_rfl) (by kernel_rfl) (by kernel_rfl) rfl (by kernel_rfl) (idx_isE ev13) rfl rfl ?_
        refine LAt.runU tOk 2 (by kernel_rfl) ?_
        refine LAt.storeK tOk (t := 3) (ty := 0) (ad := (.tmp 57)) (x := (.tmp 54)) (g := none) ⟨.int .i64, 1, 8, [.lit (.int .i64 0)]⟩ false [.lit (.int .i64 (IntKind.wrap .i64 ((IntKind.wrap .i64 ((IntKind.wrap .i64 ((IntKind.wrap .i64 ((IntKind.wrap .i64 (y3 + 1)) + 1)) + 1)) + 1)) + 1)))] (.slot 0) [(0, (y1.toNat))] [(0, (y1.toNat))] 7 5 [.sl true 7 ((((((y2.set (y1.toNat) (⟨y3, v7.Back, v7.V⟩ : Say)).set (y1.toNat) (⟨v9.Link, ((Int.tmod (IntKind.wrap .i64 (y3 + 1)) 3) == 0), v9.V⟩ : Say)).set (y1.toNat) (⟨v10.Link, v10.Back, (⟨(IntKind.wrap .i64 ((IntKind.wrap .i64 (y3 + 1)) + 1)), v10.V.Cost, v10.V.Hops, v10.V.Bridge, v10.V.Port⟩ : Vec)⟩ : Say)).set (y1.toNat) (⟨v11.Link, v11.Back, (⟨v11.V.Root, (IntKind.wrap .i64 ((IntKind.wrap .i64 ((IntKind.wrap .i64 (y3 + 1)) + 1)) + 1)), v11.V.Hops, v11.V.Bridge, v11.V.Port⟩ : Vec)⟩ : Say)).set (y1.toNat) (⟨v12.Link, v12.Back, (⟨v12.V.Root, v12.V.Cost, (IntKind.wrap .i64 ((IntKind.wrap .i64 ((IntKind.wrap .i64 ((IntKind.wrap .i64 (y3 + 1)) + 1)) + 1)) + 1)), v12.V.Bridge, v12.V.Port⟩ : Vec)⟩ : Say)).map Say.row)] (Say.row v13) [.sl true 7 ((((((y2.set (y1.toNat) (⟨y3, v7.Back, v7.V⟩ : Say)).set (y1.toNat) (⟨v9.Link, ((Int.tmod (IntKind.wrap .i64 (y3 + 1)) 3) == 0), v9.V⟩ : Say)).set (y1.toNat) (⟨v10.Link, v10.Back, (⟨(IntKind.wrap .i64 ((IntKind.wrap .i64 (y3 + 1)) + 1)), v10.V.Cost, v10.V.Hops, v10.V.Bridge, v10.V.Port⟩ : Vec)⟩ : Say)).set (y1.toNat) (⟨v11.Link, v11.Back, (⟨v11.V.Root, (IntKind.wrap .i64 ((IntKind.wrap .i64 ((IntKind.wrap .i64 (y3 + 1)) + 1)) + 1)), v11.V.Hops, v11.V.Bridge, v11.V.Port⟩ : Vec)⟩ : Say)).set (y1.toNat) (⟨v12.Link, v12.Back, (⟨v12.V.Root, v12.V.Cost, (IntKind.wrap .i64 ((IntKind.wrap .i64 ((IntKind.wrap .i64 ((IntKind.wrap .i64 (y3 + 1)) + 1)) + 1)) + 1)), v12.V.Bridge, v12.V.Port⟩ : Vec)⟩ : Say)).map Say.row)] [.sl true 7 (((((((y2.set (y1.toNat) (⟨y3, v7.Back, v7.V⟩ : Say)).set (y1.toNat) (⟨v9.Link, ((Int.tmod (IntKind.wrap .i64 (y3 + 1)) 3) == 0), v9.V⟩ : Say)).set (y1.toNat) (⟨v10.Link, v10.Back, (⟨(IntKind.wrap .i64 ((IntKind.wrap .i64 (y3 + 1)) + 1)), v10.V.Cost, v10.V.Hops, v10.V.Bridge, v10.V.Port⟩ : Vec)⟩ : Say)).set (y1.toNat) (⟨v11.Link, v11.Back, (⟨v11.V.Root, (IntKind.wrap .i64 ((IntKind.wrap .i64 ((IntKind.wrap .i64 (y3 + 1)) + 1)) + 1)), v11.V.Hops, v11.V.Bridge, v11.V.Port⟩ : Vec)⟩ : Say)).set (y1.toNat) (⟨v12.Link, v12.Back, (⟨v12.V.Root, v12.V.Cost, (IntKind.wrap .i64 ((IntKind.wrap .i64 ((IntKind.wrap .i64 ((IntKind.wrap .i64 (y3 + 1)) + 1)) + 1)) + 1)), v12.V.Bridge, v12.V.Port⟩ : Vec)⟩ : Say)).set (y1.toNat) (⟨v13.Link, v13.Back, (⟨v13.V.Root, v13.V.Cost, v13.V.Hops, (IntKind.wrap .i64 ((IntKind.wrap .i64 ((IntKind.wrap .i64 ((IntKind.wrap .i64 ((IntKind.wrap .i64 (y3 + 1)) + 1)) + 1)) + 1)) + 1)), v13.V.Port⟩ : Vec)⟩ : Say)).map Say.row)] (by kernel_rfl) (by kernel_rfl) (by kernel_rfl) (by kernel_rfl) (by kernel_rfl) (by kernel_rfl) (getQ_elem rfl (idx_get ev13).2) rfl (by intro h; cases h) (by kernel_rfl) (by kernel_rfl) (by kernel_rfl) (modQ_elem (new := (⟨v13.Link, v13.Back, (⟨v13.V.Root, v13.V.Cost, v13.V.Hops, (IntKind.wrap .i64 ((IntKind.wrap .i64 ((IntKind.wrap .i64 ((IntKind.wrap .i64 ((IntKind.wrap .i64 (y3 + 1)) + 1)) + 1)) + 1)) + 1)), v13.V.Port⟩ : Vec)⟩ : Say)) rfl (idx_get ev13).2 rfl) (by kernel_rfl) ?_
        refine LAt.doneU [0, 57, 56, 55, 54, 53, 1, 51, 50, 49, 48, 47, 46, 45, 43, 42, 41, 40, 39, 38, 37, 35, 34, 33, 32, 31, 30, 29, 27, 26, 25, 24, 23, 22, 21, 20, 18, 17, 16, 15, 14, 13, 9, 8, 6, 5, 4, 52, 44, 36, 28, 19, 12, 7] [] (by kernel_rfl) ?_
        refine Tr.rs ?_
        refine LAt.runU tOk 3 (by kernel_rfl) ?_
        refine LAt.doneU [1, 59, 58, 0, 57, 56, 55, 54, 53, 51, 50, 49, 48, 47, 46, 45, 43, 42, 41, 40, 39, 38, 37, 35, 34, 33, 32, 31, 30, 29, 27, 26, 25, 24, 23, 22, 21, 20, 18, 17, 16, 15, 14, 13, 9, 8, 6, 5, 4, 52, 44, 36, 28, 19, 12, 7] [] (by kernel_rfl) ?_
        refine Tr.rs ?_
        refine LAt.runU tOk 3 (by kernel_rfl) ?_
        obtain ⟨v14, ev14, H⟩ := bind_some H
        refine LAt.indexO tOk (t := 32) (ty := 0) (x := (.tmp 60)) (y := (.tmp 61)) (d := 63) (g := none) ⟨(.slot 0), [], 0, true, 7, (((((((y2.set (y1.toNat) (⟨y3, v7.Back, v7.V⟩ : Say)).set (y1.toNat) (⟨v9.Link, ((Int.tmod (IntKind.wrap .i64 (y3 + 1)) 3) == 0), v9.V⟩ : Say)).set (y1.toNat) (⟨v10.Link, v10.Back, (⟨(IntKind.wrap .i64 ((IntKind.wrap .i64 (y3 + 1)) + 1)), v10.V.Cost, v10.V.Hops, v10.V.Bridge, v10.V.Port⟩ : Vec)⟩ : Say)).set (y1.toNat) (⟨v11.Link, v11.Back, (⟨v11.V.Root, (IntKind.wrap .i64 ((IntKind.wrap .i64 ((IntKind.wrap .i64 (y3 + 1)) + 1)) + 1)), v11.V.Hops, v11.V.Bridge, v11.V.Port⟩ : Vec)⟩ : Say)).set (y1.toNat) (⟨v12.Link, v12.Back, (⟨v12.V.Root, v12.V.Cost, (IntKind.wrap .i64 ((IntKind.wrap .i64 ((IntKind.wrap .i64 ((IntKind.wrap .i64 (y3 + 1)) + 1)) + 1)) + 1)), v12.V.Bridge, v12.V.Port⟩ : Vec)⟩ : Say)).set (y1.toNat) (⟨v13.Link, v13.Back, (⟨v13.V.Root, v13.V.Cost, v13.V.Hops, (IntKind.wrap .i64 ((IntKind.wrap .i64 ((IntKind.wrap .i64 ((IntKind.wrap .i64 ((IntKind.wrap .i64 (y3 + 1)) + 1)) + 1)) + 1)) + 1)), v13.V.Port⟩ : Vec)⟩ : Say)).map Say.row)⟩ y1 (y1.toNat) (Say.row v14) _ (by kernel_rfl) (by kernel_rfl) (by kernel_rfl) (by kernel_rfl) rfl (by kernel_rfl) (idx_isE ev14) rfl rfl ?_
        refine LAt.runU tOk 2 (by kernel_rfl) ?_
        refine LAt.storeK tOk (t := 3) (ty := 0) (ad := (.tmp 65)) (x := (.tmp 62)) (g := none) ⟨.int .i64, 1, 8, [.lit (.int .i64 0)]⟩ false [.lit (.int .i64 (IntKind.wrap .i64 ((IntKind.wrap .i64 ((IntKind.wrap .i64 ((IntKind.wrap .i64 ((IntKind.wrap .i64 ((IntKind.wrap .i64 (y3 + 1)) + 1)) + 1)) + 1)) + 1)) + 1)))] (.slot 0) [(0, (y1.toNat))] [(0, (y1.toNat))] 7 6 [.sl true 7 (((((((y2.set (y1.toNat) (⟨y3, v7.Back, v7.V⟩ : Say)).set (y1.toNat) (⟨v9.Link, ((Int.tmod (IntKind.wrap .i64 (y3 + 1)) 3) == 0), v9.V⟩ : Say)).set (y1.toNat) (⟨v10.Link, v10.Back, (⟨(IntKind.wrap .i64 ((IntKind.wrap .i64 (y3 + 1)) + 1)), v10.V.Cost, v10.V.Hops, v10.V.Bridge, v10.V.Port⟩ : Vec)⟩ : Say)).set (y1.toNat) (⟨v11.Link, v11.Back, (⟨v11.V.Root, (IntKind.wrap .i64 ((IntKind.wrap .i64 ((IntKind.wrap .i64 (y3 + 1)) + 1)) + 1)), v11.V.Hops, v11.V.Bridge, v11.V.Port⟩ : Vec)⟩ : Say)).set (y1.toNat) (⟨v12.Link, v12.Back, (⟨v12.V.Root, v12.V.Cost, (IntKind.wrap .i64 ((IntKind.wrap .i64 ((IntKind.wrap .i64 ((IntKind.wrap .i64 (y3 + 1)) + 1)) + 1)) + 1)), v12.V.Bridge, v12.V.Port⟩ : Vec)⟩ : Say)).set (y1.toNat) (⟨v13.Link, v13.Back, (⟨v13.V.Root, v13.V.Cost, v13.V.Hops, (IntKind.wrap .i64 ((IntKind.wrap .i64 ((IntKind.wrap .i64 ((IntKind.wrap .i64 ((IntKind.wrap .i64 (y3 + 1)) + 1)) + 1)) + 1)) + 1)), v13.V.Port⟩ : Vec)⟩ : Say)).map Say.row)] (Say.row v14) [.sl true 7 (((((((y2.set (y1.toNat) (⟨y3, v7.Back, v7.V⟩ : Say)).set (y1.toNat) (⟨v9.Link, ((Int.tmod (IntKind.wrap .i64 (y3 + 1)) 3) == 0), v9.V⟩ : Say)).set (y1.toNat) (⟨v10.Link, v10.Back, (⟨(IntKind.wrap .i64 ((IntKind.wrap .i64 (y3 + 1)) + 1)), v10.V.Cost, v10.V.Hops, v10.V.Bridge, v10.V.Port⟩ : Vec)⟩ : Say)).set (y1.toNat) (⟨v11.Link, v11.Back, (⟨v11.V.Root, (IntKind.wrap .i64 ((IntKind.wrap .i64 ((IntKind.wrap .i64 (y3 + 1)) + 1)) + 1)), v11.V.Hops, v11.V.Bridge, v11.V.Port⟩ : Vec)⟩ : Say)).set (y1.toNat) (⟨v12.Link, v12.Back, (⟨v12.V.Root, v12.V.Cost, (IntKind.wrap .i64 ((IntKind.wrap .i64 ((IntKind.wrap .i64 ((IntKind.wrap .i64 (y3 + 1)) + 1)) + 1)) + 1)), v12.V.Bridge, v12.V.Port⟩ : Vec)⟩ : Say)).set (y1.toNat) (⟨v13.Link, v13.Back, (⟨v13.V.Root, v13.V.Cost, v13.V.Hops, (IntKind.wrap .i64 ((IntKind.wrap .i64 ((IntKind.wrap .i64 ((IntKind.wrap .i64 ((IntKind.wrap .i64 (y3 + 1)) + 1)) + 1)) + 1)) + 1)), v13.V.Port⟩ : Vec)⟩ : Say)).map Say.row)] [.sl true 7 ((((((((y2.set (y1.toNat) (⟨y3, v7.Back, v7.V⟩ : Say)).set (y1.toNat) (⟨v9.Link, ((Int.tmod (IntKind.wrap .i64 (y3 + 1)) 3) == 0), v9.V⟩ : Say)).set (y1.toNat) (⟨v10.Link, v10.Back, (⟨(IntKind.wrap .i64 ((IntKind.wrap .i64 (y3 + 1)) + 1)), v10.V.Cost, v10.V.Hops, v10.V.Bridge, v10.V.Port⟩ : Vec)⟩ : Say)).set (y1.toNat) (⟨v11.Link, v11.Back, (⟨v11.V.Root, (IntKind.wrap .i64 ((IntKind.wrap .i64 ((IntKind.wrap .i64 (y3 + 1)) + 1)) + 1)), v11.V.Hops, v11.V.Bridge, v11.V.Port⟩ : Vec)⟩ : Say)).set (y1.toNat) (⟨v12.Link, v12.Back, (⟨v12.V.Root, v12.V.Cost, (IntKind.wrap .i64 ((IntKind.wrap .i64 ((IntKind.wrap .i64 ((IntKind.wrap .i64 (y3 + 1)) + 1)) + 1)) + 1)), v12.V.Bridge, v12.V.Port⟩ : Vec)⟩ : Say)).set (y1.toNat) (⟨v13.Link, v13.Back, (⟨v13.V.Root, v13.V.Cost, v13.V.Hops, (IntKind.wrap .i64 ((IntKind.wrap .i64 ((IntKind.wrap .i64 ((IntKind.wrap .i64 ((IntKind.wrap .i64 (y3 + 1)) + 1)) + 1)) + 1)) + 1)), v13.V.Port⟩ : Vec)⟩ : Say)).set (y1.toNat) (⟨v14.Link, v14.Back, (⟨v14.V.Root, v14.V.Cost, v14.V.Hops, v14.V.Bridge, (IntKind.wrap .i64 ((IntKind.wrap .i64 ((IntKind.wrap .i64 ((IntKind.wrap .i64 ((IntKind.wrap .i64 ((IntKind.wrap .i64 (y3 + 1)) + 1)) + 1)) + 1)) + 1)) + 1))⟩ : Vec)⟩ : Say)).map Say.row)] (by kernel_rfl) (by kernel_rfl) (by kernel_rfl) (by kernel_rfl) (by kernel_rfl) (by kernel_rfl) (getQ_elem rfl (idx_get ev14).2) rfl (by intro h; cases h) (by kernel_rfl) (by kernel_rfl) (by kernel_rfl) (modQ_elem (new := (⟨v14.Link, v14.Back, (⟨v14.V.Root, v14.V.Cost, v14.V.Hops, v14.V.Bridge, (IntKind.wrap .i64 ((IntKind.wrap .i64 ((IntKind.wrap .i64 ((IntKind.wrap .i64 ((IntKind.wrap .i64 ((IntKind.wrap .i64 (y3 + 1)) + 1)) + 1)) + 1)) + 1)) + 1))⟩ : Vec)⟩ : Say)) rfl (idx_get ev14).2 rfl) (by kernel_rfl) ?_
        refine LAt.doneU [0, 65, 64, 63, 62, 61, 1, 59, 58, 57, 56, 55, 54, 53, 51, 50, 49, 48, 47, 46, 45, 43, 42, 41, 40, 39, 38, 37, 35, 34, 33, 32, 31, 30, 29, 27, 26, 25, 24, 23, 22, 21, 20, 18, 17, 16, 15, 14, 13, 9, 8, 6, 5, 4, 60, 52, 44, 36, 28, 19, 12, 7] [] (by kernel_rfl) ?_
        refine Tr.at ?_
        refine LAt.runU tOk 3 (by kernel_rfl) ?_
        refine LAt.doneU [1, 67, 66, 0, 65, 64, 63, 62, 61, 59, 58, 57, 56, 55, 54, 53, 51, 50, 49, 48, 47, 46, 45, 43, 42, 41, 40, 39, 38, 37, 35, 34, 33, 32, 31, 30, 29, 27, 26, 25, 24, 23, 22, 21, 20, 18, 17, 16, 15, 14, 13, 9, 8, 6, 5, 4, 60, 52, 44, 36, 28, 19, 12, 7] [] (by kernel_rfl) ?_
        show Tr _ _ _ _ _
        refine Tr.at ?_
        refine LAt.runU tOk 3 (by kernel_rfl) ?_
        refine LAt.doneU [5, 11, 10, 1, 67, 66, 0, 65, 64, 63, 62, 61, 59, 58, 57, 56, 55, 54, 53, 51, 50, 49, 48, 47, 46, 45, 43, 42, 41, 40, 39, 38, 37, 35, 34, 33, 32, 31, 30, 29, 27, 26, 25, 24, 23, 22, 21, 20, 18, 17, 16, 15, 14, 13, 9, 8, 6, 4, 60, 52, 44, 36, 28, 19, 12, 7] [] (by kernel_rfl) ?_
        exact Exists.intro (mo6, ((IntKind.wrap .i64 (y1 + 1)), (((((((y2.set (y1.toNat) (⟨y3, v7.Back, v7.V⟩ : Say)).set (y1.toNat) (⟨v9.Link, ((Int.tmod (IntKind.wrap .i64 (y3 + 1)) 3) == 0), v9.V⟩ : Say)).set (y1.toNat) (⟨v10.Link, v10.Back, (⟨(IntKind.wrap .i64 ((IntKind.wrap .i64 (y3 + 1)) + 1)), v10.V.Cost, v10.V.Hops, v10.V.Bridge, v10.V.Port⟩ : Vec)⟩ : Say)).set (y1.toNat) (⟨v11.Link, v11.Back, (⟨v11.V.Root, (IntKind.wrap .i64 ((IntKind.wrap .i64 ((IntKind.wrap .i64 (y3 + 1)) + 1)) + 1)), v11.V.Hops, v11.V.Bridge, v11.V.Port⟩ : Vec)⟩ : Say)).set (y1.toNat) (⟨v12.Link, v12.Back, (⟨v12.V.Root, v12.V.Cost, (IntKind.wrap .i64 ((IntKind.wrap .i64 ((IntKind.wrap .i64 ((IntKind.wrap .i64 (y3 + 1)) + 1)) + 1)) + 1)), v12.V.Bridge, v12.V.Port⟩ : Vec)⟩ : Say)).set (y1.toNat) (⟨v13.Link, v13.Back, (⟨v13.V.Root, v13.V.Cost, v13.V.Hops, (IntKind.wrap .i64 ((IntKind.wrap .i64 ((IntKind.wrap .i64 ((IntKind.wrap .i64 ((IntKind.wrap .i64 (y3 + 1)) + 1)) + 1)) + 1)) + 1)), v13.V.Port⟩ : Vec)⟩ : Say)).set (y1.toNat) (⟨v14.Link, v14.Back, (⟨v14.V.Root, v14.V.Cost, v14.V.Hops, v14.V.Bridge, (IntKind.wrap .i64 ((IntKind.wrap .i64 ((IntKind.wrap .i64 ((IntKind.wrap .i64 ((IntKind.wrap .i64 ((IntKind.wrap .i64 (y3 + 1)) + 1)) + 1)) + 1)) + 1)) + 1))⟩ : Vec)⟩ : Say)), (IntKind.wrap .i64 ((IntKind.wrap .i64 ((IntKind.wrap .i64 ((IntKind.wrap .i64 ((IntKind.wrap .i64 ((IntKind.wrap .i64 ((IntKind.wrap .i64 (y3 + 1)) + 1)) + 1)) + 1)) + 1)) + 1)) + 1)))) (And.intro H (And.intro (Nat.lt_succ_self mo6) (St.sub_of [5, 4, 0, 1] [] (by kernel_rfl))))
  · rintro ⟨y4, y5⟩ H
    have H : (laws_markSayS_J1 n y4 y5) = some r := H
    unfold laws_markSayS_J1 at H
    show Tr _ _ _ _ _
    refine Tr.rs ?_
    refine LAt.runU tOk 2 (by kernel_rfl) ?_
    refine LAt.doneU [4, 0] [] (by kernel_rfl) ?_
    refine Tr.ret ?_
    have H := Option.some.inj H
    subst H
    exact Fin.ofY _ [(false, [.lit (.int .i64 y5)])] [false] _ [[.sl true 7 (y4.map Say.row)]] _ [] (by kernel_rfl) rfl rfl rfl (by kernel_rfl) (by kernel_rfl) (by kernel_rfl) (by kernel_rfl) rfl rfl rfl

def laws_markNetF (n : Nat) (x0 : Net) (x1 : Int) : Option (Int × Net) :=
  ((laws_markBridgeSF n x0.Bridges x1).bind fun r1 => ((laws_markLinkSF n x0.Links r1.1).bind fun r2 => ((laws_markSaySF n x0.Said r2.1).bind fun r3 => (some (r3.1, (⟨r1.2, r2.2, r3.2⟩ : Net))))))
/-- loop.example/g00326/laws.markNet -/
theorem laws_markNet (n : Nat) (x0 : Net) (x1 : Int) (r : Int × Net) (H : laws_markNetF n x0 x1 = some r) : LCall Try.prog 26 [.io true (Net.row x0), .val false [.lit (.int .i64 x1)]] [.val false [.lit (.int .i64 r.1)]] [(0, (Net.row r.2))] := by
  refine LCall.of_body tOk Try.func26 rfl (c := (.seq (.region 0 (rg Try.f26 0) false) (.seq (.region 1 (rg Try.f26 1) false) (.seq (.region 2 (rg Try.f26 2) false) (.seq (.region 3 (rg Try.f26 3) false) (.seq (.region 4 (rg Try.f26 4) false) .ret)))))) (by kernel_rfl) (Nat.le_of_ble_eq_true (by kernel_rfl)) 1 (rs := [.tmp 4]) rfl [0] (by decide) [(false, [.lit (.int .i64 r.1)])] [(Net.row r.2)] [] fun cx => ?_
  show Tr _ _ _ ⟨18, 1, [(0, .val true (Net.row x0)), (1, .val false [.lit (.int .i64 x1)])], []⟩ _
  unfold laws_markNetF at H
  refine Tr.rs ?_
  refine LAt.boxK (T := lk tab) (t := 34) (ty := 0) (x := 0) (d := 2) (g := none) true (Net.row x0) (by kernel_rfl) (by kernel_rfl) (by kernel_rfl) (by kernel_rfl) (by kernel_rfl) (by kernel_rfl) ?_
  refine LAt.runU tOk 1 (by kernel_rfl) ?_
  refine LAt.doneU [4, 0, 2, 1] [2] (by kernel_rfl) ?_
  refine Tr.rs ?_
  refine LAt.runU tOk 3 (by kernel_rfl) ?_
  obtain ⟨r1, er1, H⟩ := bind_some H
  refine LAt.callL tOk [.lend, .rd] (f := 81) (av := #[.tmp 6, .tmp 7]) (ats := #[30, 3]) (d := (some 8)) (ty := 3) (g := none) (by kernel_rfl) (by kernel_rfl) (by kernel_rfl) [] (laws_markBridgeS n x0.Bridges x1 r1 er1) (by kernel_rfl) (.inl rfl) ?_
  refine LAt.runU tOk 1 (by kernel_rfl) ?_
  refine LAt.doneU [1, 4, 2, 0] [2] (by kernel_rfl) ?_
  refine Tr.rs ?_
  refine LAt.runU tOk 3 (by kernel_rfl) ?_
  obtain ⟨r2, er2, H⟩ := bind_some H
  refine LAt.callL tOk [.lend, .rd] (f := 82) (av := #[.tmp 10, .tmp 11]) (ats := #[31, 3]) (d := (some 12)) (ty := 3) (g := none) (by kernel_rfl) (by kernel_rfl) (by kernel_rfl) [] (laws_markLinkS n x0.Links r1.1 r2 er2) (by kernel_rfl) (.inl rfl) ?_
  refine LAt.runU tOk 1 (by kernel_rfl) ?_
  refine LAt.doneU [1, 4, 2, 0] [2] (by kernel_rfl) ?_
  refine Tr.rs ?_
  refine LAt.runU tOk 3 (by kernel_rfl) ?_
  obtain ⟨r3, er3, H⟩ := bind_some H
  refine LAt.callL tOk [.lend, .rd] (f := 83) (av := #[.tmp 14, .tmp 15]) (ats := #[32, 3]) (d := (some 16)) (ty := 3) (g := none) (by kernel_rfl) (by kernel_rfl) (by kernel_rfl) [] (laws_markSayS n x0.Said r2.1 r3 er3) (by kernel_rfl) (.inl rfl) ?_
  refine LAt.runU tOk 1 (by kernel_rfl) ?_
  refine LAt.doneU [1, 4, 0] [2] (by kernel_rfl) ?_
  refine Tr.rs ?_
  refine LAt.runU tOk 2 (by kernel_rfl) ?_
  refine LAt.doneU [4, 0] [2] (by kernel_rfl) ?_
  refine Tr.ret ?_
  have H := Option.some.inj H
  subst H
  exact Fin.ofY _ [(false, [.lit (.int .i64 r3.1)])] [true] _ [[.sl true 11 (r1.2.map Bridge.row), .sl true 4 (r2.2.map Link.row), .sl true 7 (r3.2.map Say.row)]] _ [] (by kernel_rfl) rfl rfl rfl (by kernel_rfl) (by kernel_rfl) (by kernel_rfl) (by kernel_rfl) rfl rfl rfl

def laws_heldIntS_J1 (n : Nat) (y3 : Int) : Option (Int) :=
  (some y3)
def laws_heldIntS_L2 (n : Nat) : Nat → (List Int) → Int → Int → Option ((Int) ⊕ (Int))
  | 0, _, _, _ => none
  | mo4 + 1, x0, y1, y2 => (bif (decide (y1 < (x0.length : Int))) then ((idx x0 y1).bind fun v5 => (bif (v5 != y2) then (some (Sum.inr (-1))) else (laws_heldIntS_L2 n mo4 x0 (IntKind.wrap .i64 (y1 + 1)) (IntKind.wrap .i64 (y2 + 1))))) else (some (Sum.inl y2)))
def laws_heldIntSF (n : Nat) (x0 : (List Int)) (x1 : Int) : Option (Int) :=
  ((laws_heldIntS_L2 n n x0 0 x1).bind fun o => match o with | .inl y3 => (laws_heldIntS_J1 n y3) | .inr r => some r)
/-- loop.example/g00326/laws.heldIntS -/
theorem laws_heldIntS (n : Nat) (x0 : (List Int)) (x1 : Int) (r : Int) (H : laws_heldIntSF n x0 x1 = some r) : LCall Try.prog 28 [.val false [.sl false 1 (CV.frzEs (x0.map intRow))], .val false [.lit (.int .i64 x1)]] [.val false [.lit (.int .i64 r)]] [] := by
  refine LCall.of_body tOk Try.func28 rfl (c := (.seq (.region 0 (rg Try.f28 0) false) (.seq (.seq (.region 1 (rg Try.f28 1) false) (.block 0 (.loop (.seq (.seq (.region 2 (rg Try.f28 2) false) (.cond (.tmp 9) .skip (.exit 0))) (.seq (.block 1 (.seq (.seq (.region 4 (rg Try.f28 4) false) (.cond (.tmp 17) (.seq (.region 5 (rg Try.f28 5) false) .ret) .skip)) (.region 6 (rg Try.f28 6) false))) (.region 3 (rg Try.f28 3) false)))))) (.seq (.region 7 (rg Try.f28 7) false) .ret)))) (by kernel_rfl) (Nat.le_of_ble_eq_true (by kernel_rfl)) 0 (rs := [.tmp 4]) rfl [] .nil [(false, [.lit (.int .i64 r)])] [] [] fun cx => ?_
  show Tr _ _ _ ⟨21, 0, [(0, .val false [.sl false 1 (CV.frzEs (x0.map intRow))]), (1, .val false [.lit (.int .i64 x1)])], []⟩ _
  unfold laws_heldIntSF at H
  refine Tr.rs ?_
  refine LAt.runU tOk 1 (by kernel_rfl) ?_
  refine LAt.doneU [4, 0, 1] [] (by kernel_rfl) ?_
  refine Tr.seq ?_
  refine Tr.rs ?_
  refine LAt.runU tOk 1 (by kernel_rfl) ?_
  refine LAt.doneU [5, 4, 0, 1] [] (by kernel_rfl) ?_
  obtain ⟨o4, eo4, Ho4⟩ := bind_some H
  clear H
  refine Tr.mid (ι := Int) (fun v => ⟨21, 0, [(4, .val false [.lit (.int .i64 0)]), (1, .val false [.lit (.int .i64 v)])], []⟩) (fun v => laws_heldIntS_J1 n v = some r) ?_ ?_
  · refine Tr.block ?_
    refine Tr.loop (ι := Nat × (Int × Int)) (fun v => ⟨21, 0, [(5, .val false [.lit (.int .i64 v.2.1)]), (4, .val false [.lit (.int .i64 0)]), (0, .val false [.sl false 1 (CV.frzEs (x0.map intRow))]), (1, .val false [.lit (.int .i64 v.2.2)])], []⟩) (fun v => laws_heldIntS_L2 n v.1 x0 v.2.1 v.2.2 = some o4) (fun v => v.1) (n, (0, x1)) eo4 (St.sub_of [5, 4, 0, 1] [] (by kernel_rfl)) ?_
    rintro ⟨mo4, y1, y2⟩ H
    have H : laws_heldIntS_L2 n mo4 x0 y1 y2 = some o4 := H
    obtain _ | mo4 := mo4
    · cases (show (none : Option _) = some o4 from H)
    · rw [laws_heldIntS_L2] at H
      refine Tr.seq ?_
      refine Tr.rs ?_
      refine LAt.runU tOk 2 (by kernel_rfl) ?_
      refine LAt.lenE tOk (t := 27) (ty := 3) (e := 3) (x := (.tmp 7)) (d := 8) (g := none) ⟨(.slot 7), [], 0, false, 1, (CV.frzEs (x0.map intRow))⟩ (x0).length _ (by kernel_rfl) (by kernel_rfl) (by kernel_rfl) (by kernel_rfl) (by kernel_rfl) (frz_len _ _) rfl ?_
      refine LAt.runU tOk 1 (by kernel_rfl) ?_
      refine LAt.doneU [9, 8, 7, 6, 5, 4, 0, 1] [] (by kernel_rfl) ?_
      refine Tr.to ⟨21, 0, [(9, .val false [.lit (.bool (decide (y1 < (x0.length : Int))))]), (8, .val false [.lit (.int .i64 (x0.length : Int))]), (7, .val false [.sl false 1 (CV.frzEs (x0.map intRow))]), (6, .val false [.lit (.int .i64 y1)]), (5, .val false [.lit (.int .i64 y1)]), (4, .val false [.lit (.int .i64 0)]), (0, .val false [.sl false 1 (CV.frzEs (x0.map intRow))]), (1, .val false [.lit (.int .i64 y2)])], []⟩ (by kernel_rfl) ?_
      cases h1 : (decide (y1 < (x0.length : Int)))
      · have H := bifF h1 H
        refine Tr.cond (b := false) (by kernel_rfl) (fun h => nomatch h) (fun _ => ?_)
        refine Tr.exit ?_
        refine And.intro (fun _ => ?_) (fun h => absurd rfl h)
        have H := Option.some.inj H
        subst H
        have H := Ho4
        dsimp only at H
        exact Exists.intro y2 (And.intro H (St.sub_of [4, 1] [] (by kernel_rfl)))
      · have H := bifT h1 H
        refine Tr.cond (b := true) (by kernel_rfl) (fun _ => ?_) (fun h => nomatch h)
        refine Tr.skip ?_
        show Tr _ _ _ _ _
        refine Tr.seq ?_
        refine Tr.block ?_
        refine Tr.seq ?_
        refine Tr.rs ?_
        refine LAt.runU tOk 2 (by kernel_rfl) ?_
        obtain ⟨v5, ev5, H⟩ := bind_some H
        refine LAt.indexF tOk (t := 27) (ty := 0) (x := (.tmp 12)) (y := (.tmp 13)) (d := 14) (g := none) ⟨(.slot 12), [], 0, false, 1, (CV.frzEs (x0.map intRow))⟩ y1 [.lit (.int .i64 v5)] _ (by kernel_rfl) (by kernel_rfl) (by kernel_rfl) (by kernel_rfl) rfl (idx_isF ev5) rfl ?_
        refine LAt.runU tOk 3 (by kernel_rfl) ?_
        refine LAt.doneU [17, 16, 15, 14, 13, 12, 9, 8, 7, 6, 5, 4, 0, 1] [] (by kernel_rfl) ?_
        refine Tr.to ⟨21, 0, [(17, .val false [.lit (.bool (v5 != y2))]), (16, .val false [.lit (.int .i64 y2)]), (15, .val false [.lit (.int .i64 v5)]), (14, .fad ([.lit (.int .i64 v5)])), (13, .val false [.lit (.int .i64 y1)]), (12, .val false [.sl false 1 (CV.frzEs (x0.map intRow))]), (9, .val false [.lit (.bool true)]), (8, .val false [.lit (.int .i64 (x0.length : Int))]), (7, .val false [.sl false 1 (CV.frzEs (x0.map intRow))]), (6, .val false [.lit (.int .i64 y1)]), (5, .val false [.lit (.int .i64 y1)]), (4, .val false [.lit (.int .i64 0)]), (0, .val false [.sl false 1 (CV.frzEs (x0.map intRow))]), (1, .val false [.lit (.int .i64 y2)])], []⟩ (by kernel_rfl) ?_
        cases h2 : (v5 != y2)
        · have H := bifF h2 H
          refine Tr.cond (b := false) (by kernel_rfl) (fun h => nomatch h) (fun _ => ?_)
          refine Tr.skip ?_
          show Tr _ _ _ _ _
          refine Tr.at ?_
          refine LAt.runU tOk 3 (by kernel_rfl) ?_
          refine LAt.doneU [1, 19, 18, 17, 16, 15, 14, 13, 12, 9, 8, 7, 6, 5, 4, 0] [] (by kernel_rfl) ?_
          show Tr _ _ _ _ _
          refine Tr.at ?_
          refine LAt.runU tOk 3 (by kernel_rfl) ?_
          refine LAt.doneU [5, 11, 10, 1, 19, 18, 17, 16, 15, 14, 13, 12, 9, 8, 7, 6, 4, 0] [] (by kernel_rfl) ?_
          exact Exists.intro (mo4, ((IntKind.wrap .i64 (y1 + 1)), (IntKind.wrap .i64 (y2 + 1)))) (And.intro H (And.intro (Nat.lt_succ_self mo4) (St.sub_of [5, 4, 0, 1] [] (by kernel_rfl))))
        · have H := bifT h2 H
          refine Tr.cond (b := true) (by kernel_rfl) (fun _ => ?_) (fun h => nomatch h)
          refine Tr.rs ?_
          refine LAt.runU tOk 1 (by kernel_rfl) ?_
          refine LAt.doneU [4, 17, 16, 15, 14, 13, 12, 9, 8, 7, 6, 5, 0, 1] [] (by kernel_rfl) ?_
          refine Tr.ret ?_
          have H := Option.some.inj H
          subst H
          have H := Ho4
          dsimp only at H
          have H := Option.some.inj H
          subst H
          exact Fin.of _ [(false, [.lit (.int .i64 (-1))])] (by kernel_rfl) rfl rfl
  · rintro y3 H
    have H : (laws_heldIntS_J1 n y3) = some r := H
    unfold laws_heldIntS_J1 at H
    show Tr _ _ _ _ _
    refine Tr.rs ?_
    refine LAt.runU tOk 2 (by kernel_rfl) ?_
    refine LAt.doneU [4] [] (by kernel_rfl) ?_
    refine Tr.ret ?_
    have H := Option.some.inj H
    subst H
    exact Fin.of _ [(false, [.lit (.int .i64 y3)])] (by kernel_rfl) rfl rfl

def laws_FnExactUpLinksF (n : Nat) (x0 : Net) : Option (Bool) :=
  ((laws_szNetF n x0 1048576).bind fun r1 => (bif (decide (r1 < 0)) then (some true) else ((laws_toNetF n x0).bind fun r2 => ((spec_UpLinksF n r2).bind fun r3 => ((laws_toNetF n x0).bind fun r4 => ((impl_UpLinksF n r4).bind fun r5 => ((laws_eqIntSF n r5 r3).bind fun r6 => (bif (!r6) then (some false) else ((laws_toNetF n x0).bind fun r7 => ((laws_eqNetF n r4 r7).bind fun r8 => (bif (!r8) then (some false) else ((laws_markNetF n r4 1).bind fun r9 => (bif (decide (r9.1 < 0)) then (some false) else ((laws_eqIntSF n r5 r3).bind fun r10 => (bif (!r10) then (some false) else ((laws_markIntSF n r5 1).bind fun r11 => ((laws_heldIntSF n r11.2 1).bind fun r12 => (bif (decide (r12 < 0)) then (some false) else (bif (r12 != r11.1) then (some false) else ((laws_toNetF n x0).bind fun r13 => ((impl_UpLinksF n r13).bind fun r14 => ((laws_eqIntSF n r14 r3).bind fun r15 => (bif (!r15) then (some false) else ((laws_heldIntSF n r11.2 1).bind fun r16 => (bif (decide (r16 < 0)) then (some false) else (bif (r16 != r11.1) then (some false) else (some true)))))))))))))))))))))))))))
/-- loop.example/g00326/laws.FnExactUpLinks -/
theorem laws_FnExactUpLinks (n : Nat) (x0 : Net) (r : Bool) (H : laws_FnExactUpLinksF n x0 = some r) : LCall Try.prog 5 [.val true (CV.frzRow (Net.row x0))] [.val false [.lit (.bool r)]] [] := by
  refine LCall.of_body tOk Try.func5 rfl (c := (.seq (.region 0 (rg Try.f5 0) false) (.seq (.region 1 (rg Try.f5 1) false) (.seq (.region 2 (rg Try.f5 2) false) (.seq (.seq (.region 3 (rg Try.f5 3) false) (.cond (.tmp 15) (.seq (.region 4 (rg Try.f5 4) false) .ret) .skip)) (.seq (.region 5 (rg Try.f5 5) false) (.seq (.region 6 (rg Try.f5 6) false) (.seq (.region 7 (rg Try.f5 7) false) (.seq (.seq (.region 8 (rg Try.f5 8) false) (.cond (.tmp 26) (.seq (.region 9 (rg Try.f5 9) false) .ret) .skip)) (.seq (.seq (.region 10 (rg Try.f5 10) true) (.cond (.tmp 31) (.seq (.region 11 (rg Try.f5 11) false) .ret) .skip)) (.seq (.region 12 (rg Try.f5 12) false) (.seq (.region 13 (rg Try.f5 13) false) (.seq (.seq (.region 14 (rg Try.f5 14) false) (.cond (.tmp 42) (.seq (.region 15 (rg Try.f5 15) false) .ret) .skip)) (.seq (.region 16 (rg Try.f5 16) false) (.seq (.region 17 (rg Try.f5 17) false) (.seq (.region 18 (rg Try.f5 18) false) (.seq (.region 19 (rg Try.f5 19) false) (.seq (.seq (.region 20 (rg Try.f5 20) false) (.cond (.tmp 50) (.seq (.region 21 (rg Try.f5 21) false) .ret) .skip)) (.seq (.seq (.region 22 (rg Try.f5 22) false) (.cond (.tmp 53) (.seq (.region 23 (rg Try.f5 23) false) .ret) .skip)) (.seq (.region 24 (rg Try.f5 24) false) (.seq (.seq (.region 25 (rg Try.f5 25) false) (.cond (.tmp 60) (.seq (.region 26 (rg Try.f5 26) false) .ret) .skip)) (.seq (.region 27 (rg Try.f5 27) false) (.seq (.region 28 (rg Try.f5 28) false) (.seq (.seq (.region 29 (rg Try.f5 29) false) (.cond (.tmp 65) (.seq (.region 30 (rg Try.f5 30) false) .ret) .skip)) (.seq (.seq (.region 31 (rg Try.f5 31) false) (.cond (.tmp 68) (.seq (.region 32 (rg Try.f5 32) false) .ret) .skip)) (.seq (.region 33 (rg Try.f5 33) false) .ret)))))))))))))))))))))))))) (by kernel_rfl) (Nat.le_of_ble_eq_true (by kernel_rfl)) 0 (rs := [.tmp 2]) rfl [] .nil [(false, [.lit (.bool r)])] [] [] fun cx => ?_
  show Tr _ _ _ ⟨69, 0, [(0, .val true (CV.frzRow (Net.row x0)))], []⟩ _
  unfold laws_FnExactUpLinksF at H
  refine Tr.rs ?_
  refine LAt.runU tOk 2 (by kernel_rfl) ?_
  refine LAt.doneU [2, 1] [1] (by kernel_rfl) ?_
  refine Tr.rs ?_
  refine LAt.runU tOk 1 (by kernel_rfl) ?_
  refine LAt.doneU [3, 2, 1] [1] (by kernel_rfl) ?_
  refine Tr.rs ?_
  refine LAt.runU tOk 2 (by kernel_rfl) ?_
  obtain ⟨r1, er1, H⟩ := bind_some H
  refine LAt.callU tOk [.rd, .rd] (f := 15) (av := #[.tmp 11, .tmp 12]) (ats := #[26, 3]) (d := (some 13)) (ty := 3) (g := none) (by kernel_rfl) (by kernel_rfl) (by kernel_rfl) [] (laws_szNet n x0 1048576 r1 er1) (by kernel_rfl) (.inl rfl) ?_
  refine LAt.runU tOk 1 (by kernel_rfl) ?_
  refine LAt.doneU [3, 2, 1] [1] (by kernel_rfl) ?_
  refine Tr.seq ?_
  refine Tr.rs ?_
  refine LAt.runU tOk 2 (by kernel_rfl) ?_
  refine LAt.doneU [15, 2, 1] [1] (by kernel_rfl) ?_
  refine Tr.to ⟨69, 0, [(15, .val false [.lit (.bool (decide (r1 < 0)))]), (2, .val false [.lit (.bool false)]), (1, .adr (.box 1) [(0, 0)] 3 0)], [(1, (CV.frzRow (Net.row x0)))]⟩ (by kernel_rfl) ?_
  cases h1 : (decide (r1 < 0))
  · have H := bifF h1 H
    refine Tr.cond (b := false) (by kernel_rfl) (fun h => nomatch h) (fun _ => ?_)
    refine Tr.skip ?_
    show Tr _ _ _ _ _
    refine Tr.rs ?_
    refine LAt.runU tOk 1 (by kernel_rfl) ?_
    obtain ⟨r2, er2, H⟩ := bind_some H
    refine LAt.callU tOk [.rd] (f := 17) (av := #[.tmp 16]) (ats := #[26]) (d := (some 17)) (ty := 34) (g := none) (by kernel_rfl) (by kernel_rfl) (by kernel_rfl) [] (laws_toNet n x0 r2 er2) (by kernel_rfl) (.inl rfl) ?_
    obtain ⟨r3, er3, H⟩ := bind_some H
    refine LAt.callU tOk [.rd] (f := 24) (av := #[.tmp 17]) (ats := #[34]) (d := (some 18)) (ty := 27) (g := none) (by kernel_rfl) (by kernel_rfl) (by kernel_rfl) [] (spec_UpLinks n r2 r3 er3) (by kernel_rfl) (.inl rfl) ?_
    refine LAt.moveU (T := lk tab) (ty := 27) (x := (.tmp 18)) (d := 4) (g := none) false [.sl true 1 (r3.map intRow)] (by kernel_rfl) (by kernel_rfl) (by kernel_rfl) (by kernel_rfl) (by kernel_rfl) ?_
    refine LAt.doneU [4, 2, 1] [1] (by kernel_rfl) ?_
    refine Tr.rs ?_
    refine LAt.runU tOk 1 (by kernel_rfl) ?_
    obtain ⟨r4, er4, H⟩ := bind_some H
    refine LAt.callU tOk [.rd] (f := 17) (av := #[.tmp 19]) (ats := #[26]) (d := (some 20)) (ty := 34) (g := none) (by kernel_rfl) (by kernel_rfl) (by kernel_rfl) [] (laws_toNet n x0 r4 er4) (by kernel_rfl) (.inl rfl) ?_
    refine LAt.runU tOk 2 (by kernel_rfl) ?_
    refine LAt.doneU [5, 4, 2, 1] [5, 1] (by kernel_rfl) ?_
    refine Tr.rs ?_
    refine LAt.runU tOk 1 (by kernel_rfl) ?_
    obtain ⟨r5, er5, H⟩ := bind_some H
    refine LAt.callU tOk [.rd] (f := 25) (av := #[.tmp 21]) (ats := #[34]) (d := (some 22)) (ty := 27) (g := none) (by kernel_rfl) (by kernel_rfl) (by kernel_rfl) [.box 5] (impl_UpLinks n r4 r5 er5) (by kernel_rfl) (.inr (rets_cons (mine_cons (mine_sl (mine_map intRow_mine _)) mine_nil) rets_nil)) ?_
    refine LAt.moveU (T := lk tab) (ty := 27) (x := (.tmp 22)) (d := 6) (g := none) false [.sl true 1 (r5.map intRow)] (by kernel_rfl) (by kernel_rfl) (by kernel_rfl) (by kernel_rfl) (by kernel_rfl) ?_
    refine LAt.doneU [6, 5, 4, 2, 1] [5, 1] (by kernel_rfl) ?_
    refine Tr.seq ?_
    refine Tr.rs ?_
    refine LAt.runU tOk 2 (by kernel_rfl) ?_
    obtain ⟨r6, er6, H⟩ := bind_some H
    refine LAt.callU tOk [.rd, .rd] (f := 21) (av := #[.tmp 23, .tmp 24]) (ats := #[27, 27]) (d := (some 25)) (ty := 4) (g := none) (by kernel_rfl) (by kernel_rfl) (by kernel_rfl) [.slot 6, .slot 4] (laws_eqIntS n r5 r3 r6 er6) (by kernel_rfl) (.inr (rets_cons (mine_cons mine_lit mine_nil) rets_nil)) ?_
    refine LAt.runU tOk 1 (by kernel_rfl) ?_
    refine LAt.doneU [26, 6, 5, 4, 2, 1] [5, 1] (by kernel_rfl) ?_
    refine Tr.to ⟨69, 0, [(26, .val false [.lit (.bool (!r6))]), (6, .val false [.sl true 1 (r5.map intRow)]), (5, .adr (.box 5) [(0, 0)] 3 0), (4, .val false [.sl true 1 (r3.map intRow)]), (2, .val false [.lit (.bool false)]), (1, .adr (.box 1) [(0, 0)] 3 0)], [(5, (Net.row r4)), (1, (CV.frzRow (Net.row x0)))]⟩ (by kernel_rfl) ?_
    cases h2 : (!r6)
    · have H := bifF h2 H
      refine Tr.cond (b := false) (by kernel_rfl) (fun h => nomatch h) (fun _ => ?_)
      refine Tr.skip ?_
      show Tr _ _ _ _ _
      refine Tr.seq ?_
      obtain ⟨r7, er7, H⟩ := bind_some H
      obtain ⟨r8, er8, H⟩ := bind_some H
      refine Tr.draws mixed 5 (by kernel_rfl) ⟨69, 0, [(31, .val false [.lit (.bool (!r8))]), (6, .val false [.sl true 1 (r5.map intRow)]), (5, .adr (.box 5) [(0, 0)] 3 0), (4, .val false [.sl true 1 (r3.map intRow)]), (2, .val false [.lit (.bool false)]), (1, .adr (.box 1) [(0, 0)] 3 0)], [(5, (Net.row r4)), (1, (CV.frzRow (Net.row x0)))]⟩ (fun cx => ?_) ?_
      · refine AT.runU tOk [(0, [3]), (1, [2, 3])] 3 [⟨[2, 3], 26, 1, 28⟩, ⟨[3], 34, 5, 27⟩] [1, 0] rfl (by kernel_rfl) (fun cx => ?_)
        refine AT.big1 tOk 2 (by kernel_rfl) (by kernel_rfl) ?_
        refine LAt.callU tOk [.rd] (f := 17) (av := #[.tmp 28]) (ats := #[26]) (d := (some 29)) (ty := 34) (g := none) (by kernel_rfl) (by kernel_rfl) (by kernel_rfl) [] (laws_toNet n x0 r7 er7) (by kernel_rfl) (.inl rfl) ?_
        refine LAt.fin (by kernel_rfl) (And.intro (And.intro (by kernel_rfl) (by kernel_rfl)) ?_)
        refine AT.big1 tOk 3 (by kernel_rfl) (by kernel_rfl) ?_
        refine LAt.callU tOk [.rd, .rd] (f := 20) (av := #[.tmp 27, .tmp 29]) (ats := #[34, 34]) (d := (some 30)) (ty := 4) (g := none) (by kernel_rfl) (by kernel_rfl) (by kernel_rfl) [.box 5] (laws_eqNet n r4 r7 r8 er8) (by kernel_rfl) (.inr (rets_cons (mine_cons mine_lit mine_nil) rets_nil)) ?_
        refine LAt.fin (by kernel_rfl) (And.intro (And.intro (by kernel_rfl) (by kernel_rfl)) ?_)
        refine AT.runU tOk [(4, [])] 0 [⟨[2, 3], 26, 1, 28⟩, ⟨[3], 34, 5, 27⟩] [4, 3, 2, 1, 0] rfl (by kernel_rfl) (fun cx => ?_)
        exact AT.done [31, 6, 5, 4, 2, 1] [5, 1] _ (by kernel_rfl) (by kernel_rfl) rfl
      · refine Tr.to ⟨69, 0, [(31, .val false [.lit (.bool (!r8))]), (6, .val false [.sl true 1 (r5.map intRow)]), (5, .adr (.box 5) [(0, 0)] 3 0), (4, .val false [.sl true 1 (r3.map intRow)]), (2, .val false [.lit (.bool false)]), (1, .adr (.box 1) [(0, 0)] 3 0)], [(5, (Net.row r4)), (1, (CV.frzRow (Net.row x0)))]⟩ (by kernel_rfl) ?_
        cases h3 : (!r8)
        · have H := bifF h3 H
          refine Tr.cond (b := false) (by kernel_rfl) (fun h => nomatch h) (fun _ => ?_)
          refine Tr.skip ?_
          show Tr _ _ _ _ _
          refine Tr.rs ?_
          refine LAt.runU tOk 1 (by kernel_rfl) ?_
          refine LAt.doneU [7, 6, 5, 4, 2, 1] [5, 1] (by kernel_rfl) ?_
          refine Tr.rs ?_
          refine LAt.runU tOk 2 (by kernel_rfl) ?_
          obtain ⟨r9, er9, H⟩ := bind_some H
          refine LAt.callL tOk [.lend, .rd] (f := 26) (av := #[.tmp 32, .tmp 33]) (ats := #[34, 3]) (d := (some 34)) (ty := 3) (g := none) (by kernel_rfl) (by kernel_rfl) (by kernel_rfl) [] (laws_markNet n r4 1 r9 er9) (by kernel_rfl) (.inl rfl) ?_
          refine LAt.runU tOk 1 (by kernel_rfl) ?_
          refine LAt.doneU [7, 6, 4, 2, 1] [1] (by kernel_rfl) ?_
          refine Tr.seq ?_
          refine Tr.rs ?_
          refine LAt.runU tOk 3 (by kernel_rfl) ?_
          refine LAt.to ⟨69, 0, [(37, .val false [.lit (.bool (decide (r9.1 < 0)))]), (36, .val false [.lit (.bool (decide (r9.1 < 0)))]), (35, .val false [.lit (.int .i64 r9.1)]), (7, .val false [.lit (.int .i64 r9.1)]), (6, .val false [.sl true 1 (r5.map intRow)]), (4, .val false [.sl true 1 (r3.map intRow)]), (2, .val false [.lit (.bool false)]), (1, .adr (.box 1) [(0, 0)] 3 0)], [(1, (CV.frzRow (Net.row x0)))]⟩ (by kernel_rfl) ?_
          cases h4 : (decide (r9.1 < 0))
          · have H := bifF h4 H
            refine LAt.runU tOk 2 (by kernel_rfl) ?_
            obtain ⟨r10, er10, H⟩ := bind_some H
            refine LAt.callU tOk [.rd, .rd] (f := 21) (av := #[.tmp 38, .tmp 39]) (ats := #[27, 27]) (d := (some 40)) (ty := 4) (g := (some (2, false))) (by kernel_rfl) (by kernel_rfl) (by kernel_rfl) [.slot 6, .slot 4] (laws_eqIntS n r5 r3 r10 er10) (by kernel_rfl) (.inr (rets_cons (mine_cons mine_lit mine_nil) rets_nil)) ?_
            refine LAt.runU tOk 2 (by kernel_rfl) ?_
            refine LAt.doneU [42, 6, 4, 2, 1] [1] (by kernel_rfl) ?_
            refine Tr.to ⟨69, 0, [(42, .val false [.lit (.bool (!r10))]), (6, .val false [.sl true 1 (r5.map intRow)]), (4, .val false [.sl true 1 (r3.map intRow)]), (2, .val false [.lit (.bool false)]), (1, .adr (.box 1) [(0, 0)] 3 0)], [(1, (CV.frzRow (Net.row x0)))]⟩ (by kernel_rfl) ?_
            cases h5 : (!r10)
            · have H := bifF h5 H
              refine Tr.cond (b := false) (by kernel_rfl) (fun h => nomatch h) (fun _ => ?_)
              refine Tr.skip ?_
              show Tr _ _ _ _ _
              refine Tr.rs ?_
              refine LAt.runU tOk 1 (by kernel_rfl) ?_
              refine LAt.doneU [8, 6, 4, 2, 1] [1] (by kernel_rfl) ?_
              refine Tr.rs ?_
              refine LAt.runU tOk 2 (by kernel_rfl) ?_
              obtain ⟨r11, er11, H⟩ := bind_some H
              refine LAt.callL tOk [.lend, .rd] (f := 27) (av := #[.tmp 43, .tmp 44]) (ats := #[27, 3]) (d := (some 45)) (ty := 3) (g := none) (by kernel_rfl) (by kernel_rfl) (by kernel_rfl) [] (laws_markIntS n r5 1 r11 er11) (by kernel_rfl) (.inl rfl) ?_
              refine LAt.runU tOk 1 (by kernel_rfl) ?_
              refine LAt.doneU [8, 6, 4, 2, 1] [1] (by kernel_rfl) ?_
              refine Tr.rs ?_
              refine LAt.runU tOk 1 (by kernel_rfl) ?_
              refine LAt.doneU [9, 8, 6, 4, 2, 1] [1] (by kernel_rfl) ?_
              refine Tr.rs ?_
              refine LAt.runU tOk 2 (by kernel_rfl) ?_
              obtain ⟨r12, er12, H⟩ := bind_some H
              refine LAt.callU tOk [.rd, .rd] (f := 28) (av := #[.tmp 46, .tmp 47]) (ats := #[27, 3]) (d := (some 48)) (ty := 3) (g := none) (by kernel_rfl) (by kernel_rfl) (by kernel_rfl) [.slot 6] (laws_heldIntS n r11.2 1 r12 er12) (by kernel_rfl) (.inr (rets_cons (mine_cons mine_lit mine_nil) rets_nil)) ?_
              refine LAt.runU tOk 1 (by kernel_rfl) ?_
              refine LAt.doneU [9, 8, 6, 4, 2, 1] [1] (by kernel_rfl) ?_
              refine Tr.seq ?_
              refine Tr.rs ?_
              refine LAt.runU tOk 2 (by kernel_rfl) ?_
              refine LAt.doneU [50, 9, 8, 6, 4, 2, 1] [1] (by kernel_rfl) ?_
              refine Tr.to ⟨69, 0, [(50, .val false [.lit (.bool (decide (r12 < 0)))]), (9, .val false [.lit (.int .i64 r12)]), (8, .val false [.lit (.int .i64 r11.1)]), (6, .val false [.sl true 1 (r11.2.map intRow)]), (4, .val false [.sl true 1 (r3.map intRow)]), (2, .val false [.lit (.bool false)]), (1, .adr (.box 1) [(0, 0)] 3 0)], [(1, (CV.frzRow (Net.row x0)))]⟩ (by kernel_rfl) ?_
              cases h6 : (decide (r12 < 0))
              · have H := bifF h6 H
                refine Tr.cond (b := false) (by kernel_rfl) (fun h => nomatch h) (fun _ => ?_)
                refine Tr.skip ?_
                show Tr _ _ _ _ _
                refine Tr.seq ?_
                refine Tr.rs ?_
                refine LAt.runU tOk 3 (by kernel_rfl) ?_
                refine LAt.doneU [53, 9, 8, 6, 4, 2, 1] [1] (by kernel_rfl) ?_
                refine Tr.to ⟨69, 0, [(53, .val false [.lit (.bool (r12 != r11.1))]), (9, .val false [.lit (.int .i64 r12)]), (8, .val false [.lit (.int .i64 r11.1)]), (6, .val false [.sl true 1 (r11.2.map intRow)]), (4, .val false [.sl true 1 (r3.map intRow)]), (2, .val false [.lit (.bool false)]), (1, .adr (.box 1) [(0, 0)] 3 0)], [(1, (CV.frzRow (Net.row x0)))]⟩ (by kernel_rfl) ?_
                cases h7 : (r12 != r11.1)
                · have H := bifF h7 H
                  refine Tr.cond (b := false) (by kernel_rfl) (fun h => nomatch h) (fun _ => ?_)
                  refine Tr.skip ?_
                  show Tr _ _ _ _ _
                  refine Tr.rs ?_
                  refine LAt.runU tOk 1 (by kernel_rfl) ?_
                  obtain ⟨r13, er13, H⟩ := bind_some H
                  refine LAt.callU tOk [.rd] (f := 17) (av := #[.tmp 54]) (ats := #[26]) (d := (some 55)) (ty := 34) (g := none) (by kernel_rfl) (by kernel_rfl) (by kernel_rfl) [] (laws_toNet n x0 r13 er13) (by kernel_rfl) (.inl rfl) ?_
                  obtain ⟨r14, er14, H⟩ := bind_some H
                  refine LAt.callU tOk [.rd] (f := 25) (av := #[.tmp 55]) (ats := #[34]) (d := (some 56)) (ty := 27) (g := none) (by kernel_rfl) (by kernel_rfl) (by kernel_rfl) [] (impl_UpLinks n r13 r14 er14) (by kernel_rfl) (.inl rfl) ?_
                  refine LAt.moveU (T := lk tab) (ty := 27) (x := (.tmp 56)) (d := 10) (g := none) false [.sl true 1 (r14.map intRow)] (by kernel_rfl) (by kernel_rfl) (by kernel_rfl) (by kernel_rfl) (by kernel_rfl) ?_
                  refine LAt.doneU [10, 9, 8, 6, 4, 2] [] (by kernel_rfl) ?_
                  refine Tr.seq ?_
                  refine Tr.rs ?_
                  refine LAt.runU tOk 2 (by kernel_rfl) ?_
                  obtain ⟨r15, er15, H⟩ := bind_some H
                  refine LAt.callU tOk [.rd, .rd] (f := 21) (av := #[.tmp 57, .tmp 58]) (ats := #[27, 27]) (d := (some 59)) (ty := 4) (g := none) (by kernel_rfl) (by kernel_rfl) (by kernel_rfl) [.slot 10, .slot 4] (laws_eqIntS n r14 r3 r15 er15) (by kernel_rfl) (.inr (rets_cons (mine_cons mine_lit mine_nil) rets_nil)) ?_
                  refine LAt.runU tOk 1 (by kernel_rfl) ?_
                  refine LAt.doneU [60, 9, 8, 6, 2] [] (by kernel_rfl) ?_
                  refine Tr.to ⟨69, 0, [(60, .val false [.lit (.bool (!r15))]), (9, .val false [.lit (.int .i64 r12)]), (8, .val false [.lit (.int .i64 r11.1)]), (6, .val false [.sl true 1 (r11.2.map intRow)]), (2, .val false [.lit (.bool false)])], []⟩ (by kernel_rfl) ?_
                  cases h8 : (!r15)
                  · have H := bifF h8 H
                    refine Tr.cond (b := false) (by kernel_rfl) (fun h => nomatch h) (fun _ => ?_)
                    refine Tr.skip ?_
                    show Tr _ _ _ _ _
                    refine Tr.rs ?_
                    refine LAt.runU tOk 1 (by kernel_rfl) ?_
                    refine LAt.doneU [9, 8, 6, 2] [] (by kernel_rfl) ?_
                    refine Tr.rs ?_
                    refine LAt.runU tOk 2 (by kernel_rfl) ?_
                    obtain ⟨r16, er16, H⟩ := bind_some H
                    refine LAt.callU tOk [.rd, .rd] (f := 28) (av := #[.tmp 61, .tmp 62]) (ats := #[27, 3]) (d := (some 63)) (ty := 3) (g := none) (by kernel_rfl) (by kernel_rfl) (by kernel_rfl) [.slot 6] (laws_heldIntS n r11.2 1 r16 er16) (by kernel_rfl) (.inr (rets_cons (mine_cons mine_lit mine_nil) rets_nil)) ?_
                    refine LAt.runU tOk 1 (by kernel_rfl) ?_
                    refine LAt.doneU [9, 8, 2] [] (by kernel_rfl) ?_
                    refine Tr.seq ?_
                    refine Tr.rs ?_
                    refine LAt.runU tOk 2 (by kernel_rfl) ?_
                    refine LAt.doneU [65, 9, 8, 2] [] (by kernel_rfl) ?_
                    refine Tr.to ⟨69, 0, [(65, .val false [.lit (.bool (decide (r16 < 0)))]), (9, .val false [.lit (.int .i64 r16)]), (8, .val false [.lit (.int .i64 r11.1)]), (2, .val false [.lit (.bool false)])], []⟩ (by kernel_rfl) ?_
                    cases h9 : (decide (r16 < 0))
                    · have H := bifF h9 H
                      refine Tr.cond (b := false) (by kernel_rfl) (fun h => nomatch h) (fun _ => ?_)
                      refine Tr.skip ?_
                      show Tr _ _ _ _ _
                      refine Tr.seq ?_
                      refine Tr.rs ?_
                      refine LAt.runU tOk 3 (by kernel_rfl) ?_
                      refine LAt.doneU [68, 2] [] (by kernel_rfl) ?_
                      refine Tr.to ⟨69, 0, [(68, .val false [.lit (.bool (r16 != r11.1))]), (2, .val false [.lit (.bool false)])], []⟩ (by kernel_rfl) ?_
                      cases h10 : (r16 != r11.1)
                      · have H := bifF h10 H
                        refine Tr.cond (b := false) (by kernel_rfl) (fun h => nomatch h) (fun _ => ?_)
                        refine Tr.skip ?_
                        show Tr _ _ _ _ _
                        refine Tr.rs ?_
                        refine LAt.runU tOk 1 (by kernel_rfl) ?_
                        refine LAt.doneU [2] [] (by kernel_rfl) ?_
                        refine Tr.ret ?_
                        have H := Option.some.inj H
                        subst H
                        exact Fin.of _ [(false, [.lit (.bool true)])] (by kernel_rfl) rfl rfl
                      · have H := bifT h10 H
                        refine Tr.cond (b := true) (by kernel_rfl) (fun _ => ?_) (fun h => nomatch h)
                        refine Tr.rs ?_
                        refine LAt.runU tOk 1 (by kernel_rfl) ?_
                        refine LAt.doneU [2] [] (by kernel_rfl) ?_
                        refine Tr.ret ?_
                        have H := Option.some.inj H
                        subst H
                        exact Fin.of _ [(false, [.lit (.bool false)])] (by kernel_rfl) rfl rfl
                    · have H := bifT h9 H
                      refine Tr.cond (b := true) (by kernel_rfl) (fun _ => ?_) (fun h => nomatch h)
                      refine Tr.rs ?_
                      refine LAt.runU tOk 1 (by kernel_rfl) ?_
                      refine LAt.doneU [2, 9, 8] [] (by kernel_rfl) ?_
                      refine Tr.ret ?_
                      have H := Option.some.inj H
                      subst H
                      exact Fin.of _ [(false, [.lit (.bool false)])] (by kernel_rfl) rfl rfl
                  · have H := bifT h8 H
                    refine Tr.cond (b := true) (by kernel_rfl) (fun _ => ?_) (fun h => nomatch h)
                    refine Tr.rs ?_
                    refine LAt.runU tOk 1 (by kernel_rfl) ?_
                    refine LAt.doneU [2, 9, 8, 6] [] (by kernel_rfl) ?_
                    refine Tr.ret ?_
                    have H := Option.some.inj H
                    subst H
                    exact Fin.of _ [(false, [.lit (.bool false)])] (by kernel_rfl) rfl rfl
                · have H := bifT h7 H
                  refine Tr.cond (b := true) (by kernel_rfl) (fun _ => ?_) (fun h => nomatch h)
                  refine Tr.rs ?_
                  refine LAt.runU tOk 1 (by kernel_rfl) ?_
                  refine LAt.doneU [2, 9, 8, 6, 4, 1] [1] (by kernel_rfl) ?_
                  refine Tr.ret ?_
                  have H := Option.some.inj H
                  subst H
                  exact Fin.of _ [(false, [.lit (.bool false)])] (by kernel_rfl) rfl rfl
              · have H := bifT h6 H
                refine Tr.cond (b := true) (by kernel_rfl) (fun _ => ?_) (fun h => nomatch h)
                refine Tr.rs ?_
                refine LAt.runU tOk 1 (by kernel_rfl) ?_
                refine LAt.doneU [2, 9, 8, 6, 4, 1] [1] (by kernel_rfl) ?_
                refine Tr.ret ?_
                have H := Option.some.inj H
                subst H
                exact Fin.of _ [(false, [.lit (.bool false)])] (by kernel_rfl) rfl rfl
            · have H := bifT h5 H
              refine Tr.cond (b := true) (by kernel_rfl) (fun _ => ?_) (fun h => nomatch h)
              refine Tr.rs ?_
              refine LAt.runU tOk 1 (by kernel_rfl) ?_
              refine LAt.doneU [2, 6, 4, 1] [1] (by kernel_rfl) ?_
              refine Tr.ret ?_
              have H := Option.some.inj H
              subst H
              exact Fin.of _ [(false, [.lit (.bool false)])] (by kernel_rfl) rfl rfl
          · have H := bifT h4 H
            refine LAt.runU tOk 5 (by kernel_rfl) ?_
            refine LAt.doneU [42, 6, 4, 2, 1] [1] (by kernel_rfl) ?_
            refine Tr.cond (b := true) (by kernel_rfl) (fun _ => ?_) (fun h => nomatch h)
            refine Tr.rs ?_
            refine LAt.runU tOk 1 (by kernel_rfl) ?_
            refine LAt.doneU [2, 6, 4, 1] [1] (by kernel_rfl) ?_
            refine Tr.ret ?_
            have H := Option.some.inj H
            subst H
            exact Fin.of _ [(false, [.lit (.bool false)])] (by kernel_rfl) rfl rfl
        · have H := bifT h3 H
          refine Tr.cond (b := true) (by kernel_rfl) (fun _ => ?_) (fun h => nomatch h)
          refine Tr.rs ?_
          refine LAt.runU tOk 1 (by kernel_rfl) ?_
          refine LAt.doneU [2, 6, 5, 4, 1] [5, 1] (by kernel_rfl) ?_
          refine Tr.ret ?_
          have H := Option.some.inj H
          subst H
          exact Fin.of _ [(false, [.lit (.bool false)])] (by kernel_rfl) rfl rfl
    · have H := bifT h2 H
      refine Tr.cond (b := true) (by kernel_rfl) (fun _ => ?_) (fun h => nomatch h)
      refine Tr.rs ?_
      refine LAt.runU tOk 1 (by kernel_rfl) ?_
      refine LAt.doneU [2, 6, 5, 4, 1] [5, 1] (by kernel_rfl) ?_
      refine Tr.ret ?_
      have H := Option.some.inj H
      subst H
      exact Fin.of _ [(false, [.lit (.bool false)])] (by kernel_rfl) rfl rfl
  · have H := bifT h1 H
    refine Tr.cond (b := true) (by kernel_rfl) (fun _ => ?_) (fun h => nomatch h)
    refine Tr.rs ?_
    refine LAt.runU tOk 1 (by kernel_rfl) ?_
    refine LAt.doneU [2, 1] [1] (by kernel_rfl) ?_
    refine Tr.ret ?_
    have H := Option.some.inj H
    subst H
    exact Fin.of _ [(false, [.lit (.bool true)])] (by kernel_rfl) rfl rfl
end Go.Proofs.Ytjdedhklbdkeoaa.Tw
