/- Functions of the program, over trees. -/
import Derived.Test.YtjdedhklbdkeoaaProg
import Derived.Test.YtjdedhklbdkeoaaTlRule
import Derived.Test.YtjdedhklbdkeoaaTlU5
import Derived.Test.YtjdedhklbdkeoaaTwNO0
import Derived.WalkKit
set_option linter.unusedVariables false
set_option linter.unusedSimpArgs false
set_option maxRecDepth 100000
set_option maxHeartbeats 1000000
namespace Go.Proofs.Ytjdedhklbdkeoaa.Tw
open Go Go.TL Go.Proofs


def spec_VtabOk_J2 (n : Nat) : Option (Bool) :=
  (some true)
def spec_VtabOk_L3 (n : Nat) : Nat → Vtab → Int → Option ((Unit) ⊕ (Bool))
  | 0, _, _ => none
  | mo5 + 1, x0, y4 => (bif (decide (y4 < (x0.Pvid.length : Int))) then ((idx x0.Pvid y4).bind fun v6 => ((spec_RowAtF n x0 v6).bind fun r7 => (bif (decide (r7 < 0)) then (some (Sum.inr false)) else (spec_VtabOk_L3 n mo5 x0 (IntKind.wrap .i64 (y4 + 1)))))) else (some (Sum.inl ())))
def spec_VtabOk_J1 (n : Nat) (x0 : Vtab) : Option (Bool) :=
  ((spec_VtabOk_L3 n n x0 0).bind fun o => match o with | .inl _ => (spec_VtabOk_J2 n) | .inr r => some r)
def spec_VtabOk_L4 (n : Nat) : Nat → Vtab → Int → Int → Option ((Unit) ⊕ (Bool))
  | 0, _, _, _ => none
  | mo8 + 1, x0, x1, y3 => (bif (decide (y3 < (x0.Rows.length : Int))) then ((idx x0.Rows y3).bind fun v9 => ((spec_l1InF n v9.Id 1 99).bind fun r10 => (bif (!r10) then (some (Sum.inr false)) else ((spec_l1InF n v9.Members 0 (IntKind.wrap .i64 ((IntKind.wrap .i64 (1 * 2 ^ min (((IntKind.wrap .u64 x1) : Int)).toNat (IntKind.bits .i64))) - 1))).bind fun r11 => (bif (!r11) then (some (Sum.inr false)) else ((spec_l1InF n v9.Bare 0 (IntKind.wrap .i64 ((IntKind.wrap .i64 (1 * 2 ^ min (((IntKind.wrap .u64 x1) : Int)).toNat (IntKind.bits .i64))) - 1))).bind fun r12 => (bif (!r12) then (some (Sum.inr false)) else (bif ((IntKind.wrap .i64 (BitVec.ofInt (IntKind.bits .i64) v9.Bare &&& BitVec.ofInt (IntKind.bits .i64) v9.Members).toNat) != v9.Bare) then (some (Sum.inr false)) else (bif (decide (y3 > 0)) then ((idx x0.Rows (IntKind.wrap .i64 (y3 - 1))).bind fun v13 => (bif (decide (v13.Id ≥ v9.Id)) then (some (Sum.inr false)) else (spec_VtabOk_L4 n mo8 x0 x1 (IntKind.wrap .i64 (y3 + 1))))) else (spec_VtabOk_L4 n mo8 x0 x1 (IntKind.wrap .i64 (y3 + 1)))))))))))) else (some (Sum.inl ())))
def spec_VtabOkF (n : Nat) (x0 : Vtab) (x1 : Int) : Option (Bool) :=
  ((spec_l1InF n x1 1 6).bind fun r1 => (bif (!r1) then (some false) else (bif ((x0.Pvid.length : Int) != x1) then (some false) else (bif (decide ((x0.Rows.length : Int) > 6)) then (some false) else (bif (decide ((0 : Int) ≤ (IntKind.wrap .u64 x1))) then ((spec_VtabOk_L4 n n x0 x1 0).bind fun o => match o with | .inl _ => (spec_VtabOk_J1 n x0) | .inr r => some r) else none)))))
/-- loop.example/g00326/spec.VtabOk -/
theorem spec_VtabOk (n : Nat) (x0 : Vtab) (x1 : Int) (r : Bool) (H : spec_VtabOkF n x0 x1 = some r) : LCall Try.prog 167 [.val true (CV.frzRow (Vtab.row x0)), .val false [.lit (.int .i64 x1)]] [.val false [.lit (.bool r)]] [] := by
  refine LCall.of_body tOk Try.func167 rfl (c := (.seq (.region 0 (rg Try.f167 0) false) (.seq (.seq (.region 1 (rg Try.f167 1) false) (.cond (.tmp 24) (.seq (.region 2 (rg Try.f167 2) false) .ret) .skip)) (.seq (.region 3 (rg Try.f167 3) false) (.seq (.seq (.region 4 (rg Try.f167 4) false) (.block 0 (.loop (.seq (.seq (.region 5 (rg Try.f167 5) false) (.cond (.tmp 33) .skip (.exit 0))) (.seq (.block 1 (.seq (.region 7 (rg Try.f167 7) false) (.seq (.region 8 (rg Try.f167 8) true) (.cond (.tmp 84) (.seq (.region 9 (rg Try.f167 9) false) .ret) .skip)))) (.region 6 (rg Try.f167 6) false)))))) (.seq (.seq (.region 10 (rg Try.f167 10) false) (.block 2 (.loop (.seq (.seq (.region 11 (rg Try.f167 11) false) (.cond (.tmp 89) .skip (.exit 2))) (.seq (.block 3 (.seq (.region 13 (rg Try.f167 13) true) (.cond (.tmp 99) (.seq (.region 14 (rg Try.f167 14) false) .ret) .skip))) (.region 12 (rg Try.f167 12) false)))))) (.seq (.region 15 (rg Try.f167 15) false) .ret))))))) kr (Nat.le_of_ble_eq_true kr) 0 (rs := [.tmp 4]) rfl [] .nil [(false, [.lit (.bool r)])] [] [] fun cx => ?_
  show Tr _ _ _ ⟨100, 0, [sV 0 (CV.frzRow (Vtab.row x0)), sI 1 x1], []⟩ _
  unfold spec_VtabOkF at H
  refine Tr.rs ?_
  refine LAt.runU tOk 2 kr ?_
  refine LAt.doneM 22 4 kr ?_
  refine Tr.seq ?_
  refine Tr.rs ?_
  refine LAt.runU tOk 1 kr ?_
  obtain ⟨r1, er1, H⟩ := bind_some H
  refine LAt.callU tOk [.rd, .rd, .rd] (f := 65) (av := #[.tmp 9, .const (.int .i64 1), .const (.int .i64 6)]) (ats := #[3, 3, 3]) (d := (some 10)) (ty := 4) (g := none) kr kr kr [] (spec_l1In n x1 1 6 r1 er1) kr (.inl rfl) ?_
  refine LAt.runU tOk 2 kr ?_
  refine LAt.to ⟨100, 0, [sB 12 (!r1), sB 11 (!r1), sB 10 r1, sI 9 x1, sB 4 false, sA 2 2 2 0, sI 1 x1], [(2, (CV.frzRow (Vtab.row x0)))]⟩ kr ?_
  cases h1 : (!r1)
  · have H := bifF h1 H
    refine LAt.runU tOk 2 kr ?_
    refine LAt.lenE tOk (t := 27) (ty := 3) (e := 3) (x := (.tmp 14)) (d := 15) (g := (some (3, false))) ⟨(.slot 14), [], 0, false, 1, (CV.frzEs (x0.Pvid.map intRow))⟩ (x0.Pvid).length _ kr kr kr kr kr (frz_len _ _) rfl ?_
    refine LAt.runU tOk 4 kr ?_
    refine LAt.to ⟨100, 0, [sB 19 ((x0.Pvid.length : Int) != x1), sB 18 ((x0.Pvid.length : Int) != x1), sB 17 ((x0.Pvid.length : Int) != x1), sI 16 x1, sI 15 (x0.Pvid.length : Int), sC 14 (cF 1 x0.Pvid intRow), sA 13 2 2 1, sB 12 false, sB 11 false, sB 10 r1, sI 9 x1, sB 4 false, sA 2 2 2 0, sI 1 x1], [(2, (CV.frzRow (Vtab.row x0)))]⟩ kr ?_
    cases h2 : ((x0.Pvid.length : Int) != x1)
    · have H := bifF h2 H
      refine LAt.runU tOk 2 kr ?_
      refine LAt.lenE tOk (t := 57) (ty := 3) (e := 138) (x := (.tmp 21)) (d := 22) (g := (some (10, false))) ⟨(.slot 21), [], 0, false, 3, (CV.frzEs (x0.Rows.map Vrow.row))⟩ (x0.Rows).length _ kr kr kr kr kr (frz_len _ _) rfl ?_
      refine LAt.runU tOk 2 kr ?_
      refine LAt.doneM 16777238 4 kr ?_
      refine Tr.to ⟨100, 0, [sB 24 (decide ((x0.Rows.length : Int) > 6)), sB 4 false, sA 2 2 2 0, sI 1 x1], [(2, (CV.frzRow (Vtab.row x0)))]⟩ kr ?_
      cases h3 : (decide ((x0.Rows.length : Int) > 6))
      · have H := bifF h3 H
        refine Tr.cond (b := false) kr (fun h => nomatch h) (fun _ => ?_)
        refine Tr.skip ?_
        show Tr _ _ _ _ _
        refine Tr.rs ?_
        refine LAt.runU tOk 2 kr ?_
        obtain ⟨hg2, H⟩ := guard_some H
        refine LAt.binC tOk (op := .shl) (t := 3) (ty := 185) (ty' := 3) (x := (.const (.int .i64 1))) (y := (.tmp 26)) (d := 27) (g := none) (.int .i64 1) (.int .u64 (IntKind.wrap .u64 x1)) (.int .i64 (IntKind.wrap .i64 (1 * 2 ^ min (((IntKind.wrap .u64 x1) : Int)).toNat (IntKind.bits .i64)))) _ kr kr kr kr kr (φ := (0 : Int) ≤ (IntKind.wrap .u64 x1)) kr (of_decide_eq_true hg2) rfl ?_
        refine LAt.runU tOk 2 kr ?_
        refine LAt.doneM 52 4 kr ?_
        refine Tr.seq ?_
        refine Tr.rs ?_
        refine LAt.runU tOk 1 kr ?_
        refine LAt.doneM 116 4 kr ?_
        obtain ⟨o8, eo8, Ho8⟩ := bind_some H
        clear H
        refine Tr.mid (ι := Unit) (fun v => ⟨100, 0, [sB 4 false, sA 2 2 2 0], [(2, (CV.frzRow (Vtab.row x0)))]⟩) (fun v => spec_VtabOk_J1 n x0 = some r) ?_ ?_
        · refine Tr.block ?_
          refine Tr.loop (ι := Nat × (Int)) (fun v => ⟨100, 0, [sI 6 v.2, sI 5 (IntKind.wrap .i64 ((IntKind.wrap .i64 (1 * 2 ^ min (((IntKind.wrap .u64 x1) : Int)).toNat (IntKind.bits .i64))) - 1)), sB 4 false, sA 2 2 2 0], [(2, (CV.frzRow (Vtab.row x0)))]⟩) (fun v => spec_VtabOk_L4 n v.1 x0 x1 v.2 = some o8) (fun v => v.1) (n, 0) eo8 (St.sub_of [6, 5, 4, 2] [2] kr) ?_
          rintro ⟨mo8, y3⟩ H
          have H : spec_VtabOk_L4 n mo8 x0 x1 y3 = some o8 := H
          obtain _ | mo8 := mo8
          · cases (show (none : Option _) = some o8 from H)
          · rw [spec_VtabOk_L4] at H
            refine Tr.seq ?_
            refine Tr.rs ?_
            refine LAt.runU tOk 3 kr ?_
            refine LAt.lenE tOk (t := 57) (ty := 3) (e := 138) (x := (.tmp 31)) (d := 32) (g := none) ⟨(.slot 31), [], 0, false, 3, (CV.frzEs (x0.Rows.map Vrow.row))⟩ (x0.Rows).length _ kr kr kr kr kr (frz_len _ _) rfl ?_
            refine LAt.runU tOk 1 kr ?_
            refine LAt.doneM 16642998388 4 kr ?_
            refine Tr.to ⟨100, 0, [sB 33 (decide (y3 < (x0.Rows.length : Int))), sI 32 (x0.Rows.length : Int), sC 31 (cF 3 x0.Rows Vrow.row), sA 30 2 2 0, sI 29 y3, sI 6 y3, sI 5 (IntKind.wrap .i64 ((IntKind.wrap .i64 (1 * 2 ^ min (((IntKind.wrap .u64 x1) : Int)).toNat (IntKind.bits .i64))) - 1)), sB 4 false, sA 2 2 2 0], [(2, (CV.frzRow (Vtab.row x0)))]⟩ kr ?_
            cases h6 : (decide (y3 < (x0.Rows.length : Int)))
            · have H := bifF h6 H
              refine Tr.cond (b := false) kr (fun h => nomatch h) (fun _ => ?_)
              refine Tr.exit ?_
              refine And.intro (fun _ => ?_) (fun h => absurd rfl h)
              have H := Option.some.inj H
              subst H
              have H := Ho8
              dsimp only at H
              exact Exists.intro () (And.intro H (St.sub_of [4, 2] [2] kr))
            · have H := bifT h6 H
              refine Tr.cond (b := true) kr (fun _ => ?_) (fun h => nomatch h)
              refine Tr.skip ?_
              show Tr _ _ _ _ _
              refine Tr.seq ?_
              refine Tr.block ?_
              refine Tr.rs ?_
              refine LAt.runU tOk 3 kr ?_
              obtain ⟨v9, ev9, H⟩ := bind_some H
              refine LAt.indexF tOk (t := 57) (ty := 0) (x := (.tmp 37)) (y := (.tmp 38)) (d := 39) (g := none) ⟨(.slot 37), [], 0, false, 3, (CV.frzEs (x0.Rows.map Vrow.row))⟩ y3 (Vrow.row v9) _ kr kr kr kr rfl (idx_isF ev9) rfl ?_
              refine LAt.runU tOk 3 kr ?_
              refine LAt.doneM 2146946777332 132 kr ?_
              obtain ⟨r10, er10, H⟩ := bind_some H
              refine Tr.to ⟨100, 0, [sA 7 7 3 0, sV 40 (Vrow.row v9), (39, .fad ((Vrow.row v9))), sI 38 y3, sC 37 (cF 3 x0.Rows Vrow.row), sA 36 2 2 0, sB 33 true, sI 32 (x0.Rows.length : Int), sC 31 (cF 3 x0.Rows Vrow.row), sA 30 2 2 0, sI 29 y3, sI 6 y3, sI 5 (IntKind.wrap .i64 ((IntKind.wrap .i64 (1 * 2 ^ min (((IntKind.wrap .u64 x1) : Int)).toNat (IntKind.bits .i64))) - 1)), sB 4 false, sA 2 2 2 0], [(7, (Vrow.row v9)), (2, (CV.frzRow (Vtab.row x0)))]⟩ kr ?_
              cases h7 : (!r10)
              · have H := bifF h7 H
                obtain ⟨r11, er11, H⟩ := bind_some H
                refine Tr.to ⟨100, 0, [sA 7 7 3 0, sV 40 (Vrow.row v9), (39, .fad ((Vrow.row v9))), sI 38 y3, sC 37 (cF 3 x0.Rows Vrow.row), sA 36 2 2 0, sB 33 true, sI 32 (x0.Rows.length : Int), sC 31 (cF 3 x0.Rows Vrow.row), sA 30 2 2 0, sI 29 y3, sI 6 y3, sI 5 (IntKind.wrap .i64 ((IntKind.wrap .i64 (1 * 2 ^ min (((IntKind.wrap .u64 x1) : Int)).toNat (IntKind.bits .i64))) - 1)), sB 4 false, sA 2 2 2 0], [(7, (Vrow.row v9)), (2, (CV.frzRow (Vtab.row x0)))]⟩ kr ?_
                cases h8 : (!r11)
                · have H := bifF h8 H
                  obtain ⟨r12, er12, H⟩ := bind_some H
                  refine Tr.to ⟨100, 0, [sA 7 7 3 0, sV 40 (Vrow.row v9), (39, .fad ((Vrow.row v9))), sI 38 y3, sC 37 (cF 3 x0.Rows Vrow.row), sA 36 2 2 0, sB 33 true, sI 32 (x0.Rows.length : Int), sC 31 (cF 3 x0.Rows Vrow.row), sA 30 2 2 0, sI 29 y3, sI 6 y3, sI 5 (IntKind.wrap .i64 ((IntKind.wrap .i64 (1 * 2 ^ min (((IntKind.wrap .u64 x1) : Int)).toNat (IntKind.bits .i64))) - 1)), sB 4 false, sA 2 2 2 0], [(7, (Vrow.row v9)), (2, (CV.frzRow (Vtab.row x0)))]⟩ kr ?_
                  cases h9 : (!r12)
                  · have H := bifF h9 H
                    refine Tr.to ⟨100, 0, [sA 7 7 3 0, sV 40 (Vrow.row v9), (39, .fad ((Vrow.row v9))), sI 38 y3, sC 37 (cF 3 x0.Rows Vrow.row), sA 36 2 2 0, sB 33 true, sI 32 (x0.Rows.length : Int), sC 31 (cF 3 x0.Rows Vrow.row), sA 30 2 2 0, sI 29 y3, sI 6 y3, sI 5 (IntKind.wrap .i64 ((IntKind.wrap .i64 (1 * 2 ^ min (((IntKind.wrap .u64 x1) : Int)).toNat (IntKind.bits .i64))) - 1)), sB 4 false, sA 2 2 2 0], [(7, (Vrow.row v9)), (2, (CV.frzRow (Vtab.row x0)))]⟩ kr ?_
                    cases h10 : ((IntKind.wrap .i64 (BitVec.ofInt (IntKind.bits .i64) v9.Bare &&& BitVec.ofInt (IntKind.bits .i64) v9.Members).toNat) != v9.Bare)
                    · have H := bifF h10 H
                      refine Tr.to ⟨100, 0, [sA 7 7 3 0, sV 40 (Vrow.row v9), (39, .fad ((Vrow.row v9))), sI 38 y3, sC 37 (cF 3 x0.Rows Vrow.row), sA 36 2 2 0, sB 33 true, sI 32 (x0.Rows.length : Int), sC 31 (cF 3 x0.Rows Vrow.row), sA 30 2 2 0, sI 29 y3, sI 6 y3, sI 5 (IntKind.wrap .i64 ((IntKind.wrap .i64 (1 * 2 ^ min (((IntKind.wrap .u64 x1) : Int)).toNat (IntKind.bits .i64))) - 1)), sB 4 false, sA 2 2 2 0], [(7, (Vrow.row v9)), (2, (CV.frzRow (Vtab.row x0)))]⟩ kr ?_
                      cases h11 : (decide (y3 > 0))
                      · have H := bifF h11 H
                        refine Tr.draws mixed 44 kr ⟨100, 0, [sB 84 false, sB 83 false, (82, .tup []), (81, .tup []), (80, .tup []), (79, .tup []), (78, .tup []), (77, .tup []), (76, .tup []), (75, .tup []), (74, .tup []), (73, .tup []), sB 72 false, sB 71 false, sI 70 y3, sB 69 false, sB 68 false, sB 67 false, sI 66 v9.Bare, sA 65 7 3 2, sI 64 (IntKind.wrap .i64 (BitVec.ofInt (IntKind.bits .i64) v9.Bare &&& BitVec.ofInt (IntKind.bits .i64) v9.Members).toNat), sI 63 v9.Members, sA 62 7 3 1, sI 61 v9.Bare, sA 60 7 3 2, sB 59 false, sB 58 false, sB 57 false, sB 56 r12, sI 55 (IntKind.wrap .i64 ((IntKind.wrap .i64 (1 * 2 ^ min (((IntKind.wrap .u64 x1) : Int)).toNat (IntKind.bits .i64))) - 1)), sI 54 v9.Bare, sA 53 7 3 2, sB 52 false, sB 51 false, sB 50 false, sB 49 r11, sI 48 (IntKind.wrap .i64 ((IntKind.wrap .i64 (1 * 2 ^ min (((IntKind.wrap .u64 x1) : Int)).toNat (IntKind.bits .i64))) - 1)), sI 47 v9.Members, sA 46 7 3 1, sB 45 false, sB 44 false, sB 43 r10, sI 42 v9.Id, sA 41 7 3 0, sA 7 7 3 0, sV 40 (Vrow.row v9), (39, .fad ((Vrow.row v9))), sI 38 y3, sC 37 (cF 3 x0.Rows Vrow.row), sA 36 2 2 0, sB 33 true, sI 32 (x0.Rows.length : Int), sC 31 (cF 3 x0.Rows Vrow.row), sA 30 2 2 0, sI 29 y3, sI 6 y3, sI 5 (IntKind.wrap .i64 ((IntKind.wrap .i64 (1 * 2 ^ min (((IntKind.wrap .u64 x1) : Int)).toNat (IntKind.bits .i64))) - 1)), sB 4 false, sA 2 2 2 0], [(7, (Vrow.row v9)), (2, (CV.frzRow (Vtab.row x0)))]⟩ (fun cx => ?_) ?_
                        · refine AT.runU tOk [(0, []), (1, [2, 8, 15])] 42 [⟨[2, 8, 15], 3, 41, 42⟩] [1, 0] rfl kr (fun cx => ?_)
                          refine AT.big1 tOk 2 kr kr ?_
                          refine LAt.callU tOk [.rd, .rd, .rd] (f := 65) (av := #[.tmp 42, .const (.int .i64 1), .const (.int .i64 99)]) (ats := #[3, 3, 3]) (d := (some 43)) (ty := 4) (g := none) kr kr kr [] (spec_l1In n v9.Id 1 99 r10 er10) kr (.inl rfl) ?_
                          refine LAt.fin kr (And.intro (And.intro kr kr) ?_)
                          refine AT.runU tOk [(3, []), (4, [])] 39 [⟨[2, 8, 15], 3, 41, 42⟩] [4, 3, 2, 1, 0] rfl kr (fun cx => ?_)
                          refine AT.to ⟨100, 0, [sB 45 (!r10), sB 44 (!r10), sB 43 r10, sI 42 v9.Id, sA 41 7 3 0, sA 7 7 3 0, sV 40 (Vrow.row v9), (39, .fad ((Vrow.row v9))), sI 38 y3, sC 37 (cF 3 x0.Rows Vrow.row), sA 36 2 2 0, sB 33 true, sI 32 (x0.Rows.length : Int), sC 31 (cF 3 x0.Rows Vrow.row), sA 30 2 2 0, sI 29 y3, sI 6 y3, sI 5 (IntKind.wrap .i64 ((IntKind.wrap .i64 (1 * 2 ^ min (((IntKind.wrap .u64 x1) : Int)).toNat (IntKind.bits .i64))) - 1)), sB 4 false, sA 2 2 2 0], [(7, (Vrow.row v9)), (2, (CV.frzRow (Vtab.row x0)))]⟩ kr ?_
                          rw [h7]
                          refine AT.runU tOk [(5, []), (6, [8, 15]), (7, [])] 36 [⟨[8, 15], 3, 46, 47⟩, ⟨[2, 8, 15], 3, 41, 42⟩] [7, 6, 5, 4, 3, 2, 1, 0] rfl kr (fun cx => ?_)
                          refine AT.big1 tOk 8 kr kr ?_
                          refine LAt.callU tOk [.rd, .rd, .rd] (f := 65) (av := #[.tmp 47, .const (.int .i64 0), .tmp 48]) (ats := #[3, 3, 3]) (d := (some 49)) (ty := 4) (g := (some (4, false))) kr kr kr [] (spec_l1In n v9.Members 0 (IntKind.wrap .i64 ((IntKind.wrap .i64 (1 * 2 ^ min (((IntKind.wrap .u64 x1) : Int)).toNat (IntKind.bits .i64))) - 1)) r11 er11) kr (.inl rfl) ?_
                          refine LAt.fin kr (And.intro (And.intro kr kr) ?_)
                          refine AT.runU tOk [(9, []), (10, []), (11, [])] 32 [⟨[8, 15], 3, 46, 47⟩, ⟨[2, 8, 15], 3, 41, 42⟩] [11, 10, 9, 8, 7, 6, 5, 4, 3, 2, 1, 0] rfl kr (fun cx => ?_)
                          refine AT.to ⟨100, 0, [sB 52 (!r11), sB 51 (!r11), sB 50 (!r11), sB 49 r11, sI 48 (IntKind.wrap .i64 ((IntKind.wrap .i64 (1 * 2 ^ min (((IntKind.wrap .u64 x1) : Int)).toNat (IntKind.bits .i64))) - 1)), sI 47 v9.Members, sA 46 7 3 1, sB 45 false, sB 44 false, sB 43 r10, sI 42 v9.Id, sA 41 7 3 0, sA 7 7 3 0, sV 40 (Vrow.row v9), (39, .fad ((Vrow.row v9))), sI 38 y3, sC 37 (cF 3 x0.Rows Vrow.row), sA 36 2 2 0, sB 33 true, sI 32 (x0.Rows.length : Int), sC 31 (cF 3 x0.Rows Vrow.row), sA 30 2 2 0, sI 29 y3, sI 6 y3, sI 5 (IntKind.wrap .i64 ((IntKind.wrap .i64 (1 * 2 ^ min (((IntKind.wrap .u64 x1) : Int)).toNat (IntKind.bits .i64))) - 1)), sB 4 false, sA 2 2 2 0], [(7, (Vrow.row v9)), (2, (CV.frzRow (Vtab.row x0)))]⟩ kr ?_
                          rw [h8]
                          refine AT.runU tOk [(12, []), (13, [15]), (14, [])] 29 [⟨[15], 3, 53, 54⟩, ⟨[8, 15], 3, 46, 47⟩, ⟨[2, 8, 15], 3, 41, 42⟩] [14, 13, 12, 11, 10, 9, 8, 7, 6, 5, 4, 3, 2, 1, 0] rfl kr (fun cx => ?_)
                          refine AT.big1 tOk 15 kr kr ?_
                          refine LAt.callU tOk [.rd, .rd, .rd] (f := 65) (av := #[.tmp 54, .const (.int .i64 0), .tmp 55]) (ats := #[3, 3, 3]) (d := (some 56)) (ty := 4) (g := (some (11, false))) kr kr kr [] (spec_l1In n v9.Bare 0 (IntKind.wrap .i64 ((IntKind.wrap .i64 (1 * 2 ^ min (((IntKind.wrap .u64 x1) : Int)).toNat (IntKind.bits .i64))) - 1)) r12 er12) kr (.inl rfl) ?_
                          refine LAt.fin kr (And.intro (And.intro kr kr) ?_)
                          refine AT.runU tOk [(16, []), (17, []), (18, [])] 25 [⟨[15], 3, 53, 54⟩, ⟨[8, 15], 3, 46, 47⟩, ⟨[2, 8, 15], 3, 41, 42⟩] [18, 17, 16, 15, 14, 13, 12, 11, 10, 9, 8, 7, 6, 5, 4, 3, 2, 1, 0] rfl kr (fun cx => ?_)
                          refine AT.to ⟨100, 0, [sB 59 (!r12), sB 58 (!r12), sB 57 (!r12), sB 56 r12, sI 55 (IntKind.wrap .i64 ((IntKind.wrap .i64 (1 * 2 ^ min (((IntKind.wrap .u64 x1) : Int)).toNat (IntKind.bits .i64))) - 1)), sI 54 v9.Bare, sA 53 7 3 2, sB 52 false, sB 51 false, sB 50 false, sB 49 r11, sI 48 (IntKind.wrap .i64 ((IntKind.wrap .i64 (1 * 2 ^ min (((IntKind.wrap .u64 x1) : Int)).toNat (IntKind.bits .i64))) - 1)), sI 47 v9.Members, sA 46 7 3 1, sB 45 false, sB 44 false, sB 43 r10, sI 42 v9.Id, sA 41 7 3 0, sA 7 7 3 0, sV 40 (Vrow.row v9), (39, .fad ((Vrow.row v9))), sI 38 y3, sC 37 (cF 3 x0.Rows Vrow.row), sA 36 2 2 0, sB 33 true, sI 32 (x0.Rows.length : Int), sC 31 (cF 3 x0.Rows Vrow.row), sA 30 2 2 0, sI 29 y3, sI 6 y3, sI 5 (IntKind.wrap .i64 ((IntKind.wrap .i64 (1 * 2 ^ min (((IntKind.wrap .u64 x1) : Int)).toNat (IntKind.bits .i64))) - 1)), sB 4 false, sA 2 2 2 0], [(7, (Vrow.row v9)), (2, (CV.frzRow (Vtab.row x0)))]⟩ kr ?_
                          rw [h9]
                          refine AT.runU tOk [(19, []), (20, []), (21, []), (22, []), (23, []), (24, []), (25, []), (26, []), (27, []), (28, [])] 15 [⟨[], 3, 65, 66⟩, ⟨[], 3, 62, 63⟩, ⟨[], 3, 60, 61⟩, ⟨[15], 3, 53, 54⟩, ⟨[8, 15], 3, 46, 47⟩, ⟨[2, 8, 15], 3, 41, 42⟩] [28, 27, 26, 25, 24, 23, 22, 21, 20, 19, 18, 17, 16, 15, 14, 13, 12, 11, 10, 9, 8, 7, 6, 5, 4, 3, 2, 1, 0] rfl kr (fun cx => ?_)
                          refine AT.to ⟨100, 0, [sB 69 ((IntKind.wrap .i64 (BitVec.ofInt (IntKind.bits .i64) v9.Bare &&& BitVec.ofInt (IntKind.bits .i64) v9.Members).toNat) != v9.Bare), sB 68 ((IntKind.wrap .i64 (BitVec.ofInt (IntKind.bits .i64) v9.Bare &&& BitVec.ofInt (IntKind.bits .i64) v9.Members).toNat) != v9.Bare), sB 67 ((IntKind.wrap .i64 (BitVec.ofInt (IntKind.bits .i64) v9.Bare &&& BitVec.ofInt (IntKind.bits .i64) v9.Members).toNat) != v9.Bare), sI 66 v9.Bare, sA 65 7 3 2, sI 64 (IntKind.wrap .i64 (BitVec.ofInt (IntKind.bits .i64) v9.Bare &&& BitVec.ofInt (IntKind.bits .i64) v9.Members).toNat), sI 63 v9.Members, sA 62 7 3 1, sI 61 v9.Bare, sA 60 7 3 2, sB 59 false, sB 58 false, sB 57 false, sB 56 r12, sI 55 (IntKind.wrap .i64 ((IntKind.wrap .i64 (1 * 2 ^ min (((IntKind.wrap .u64 x1) : Int)).toNat (IntKind.bits .i64))) - 1)), sI 54 v9.Bare, sA 53 7 3 2, sB 52 false, sB 51 false, sB 50 false, sB 49 r11, sI 48 (IntKind.wrap .i64 ((IntKind.wrap .i64 (1 * 2 ^ min (((IntKind.wrap .u64 x1) : Int)).toNat (IntKind.bits .i64))) - 1)), sI 47 v9.Members, sA 46 7 3 1, sB 45 false, sB 44 false, sB 43 r10, sI 42 v9.Id, sA 41 7 3 0, sA 7 7 3 0, sV 40 (Vrow.row v9), (39, .fad ((Vrow.row v9))), sI 38 y3, sC 37 (cF 3 x0.Rows Vrow.row), sA 36 2 2 0, sB 33 true, sI 32 (x0.Rows.length : Int), sC 31 (cF 3 x0.Rows Vrow.row), sA 30 2 2 0, sI 29 y3, sI 6 y3, sI 5 (IntKind.wrap .i64 ((IntKind.wrap .i64 (1 * 2 ^ min (((IntKind.wrap .u64 x1) : Int)).toNat (IntKind.bits .i64))) - 1)), sB 4 false, sA 2 2 2 0], [(7, (Vrow.row v9)), (2, (CV.frzRow (Vtab.row x0)))]⟩ kr ?_
                          rw [h10]
                          refine AT.runU tOk [(29, []), (30, []), (31, [])] 12 [⟨[], 3, 65, 66⟩, ⟨[], 3, 62, 63⟩, ⟨[], 3, 60, 61⟩, ⟨[15], 3, 53, 54⟩, ⟨[8, 15], 3, 46, 47⟩, ⟨[2, 8, 15], 3, 41, 42⟩] [31, 30, 29, 28, 27, 26, 25, 24, 23, 22, 21, 20, 19, 18, 17, 16, 15, 14, 13, 12, 11, 10, 9, 8, 7, 6, 5, 4, 3, 2, 1, 0] rfl kr (fun cx => ?_)
                          refine AT.to ⟨100, 0, [sB 72 (decide (y3 > 0)), sB 71 (decide (y3 > 0)), sI 70 y3, sB 69 false, sB 68 false, sB 67 false, sI 66 v9.Bare, sA 65 7 3 2, sI 64 (IntKind.wrap .i64 (BitVec.ofInt (IntKind.bits .i64) v9.Bare &&& BitVec.ofInt (IntKind.bits .i64) v9.Members).toNat), sI 63 v9.Members, sA 62 7 3 1, sI 61 v9.Bare, sA 60 7 3 2, sB 59 false, sB 58 false, sB 57 false, sB 56 r12, sI 55 (IntKind.wrap .i64 ((IntKind.wrap .i64 (1 * 2 ^ min (((IntKind.wrap .u64 x1) : Int)).toNat (IntKind.bits .i64))) - 1)), sI 54 v9.Bare, sA 53 7 3 2, sB 52 false, sB 51 false, sB 50 false, sB 49 r11, sI 48 (IntKind.wrap .i64 ((IntKind.wrap .i64 (1 * 2 ^ min (((IntKind.wrap .u64 x1) : Int)).toNat (IntKind.bits .i64))) - 1)), sI 47 v9.Members, sA 46 7 3 1, sB 45 false, sB 44 false, sB 43 r10, sI 42 v9.Id, sA 41 7 3 0, sA 7 7 3 0, sV 40 (Vrow.row v9), (39, .fad ((Vrow.row v9))), sI 38 y3, sC 37 (cF 3 x0.Rows Vrow.row), sA 36 2 2 0, sB 33 true, sI 32 (x0.Rows.length : Int), sC 31 (cF 3 x0.Rows Vrow.row), sA 30 2 2 0, sI 29 y3, sI 6 y3, sI 5 (IntKind.wrap .i64 ((IntKind.wrap .i64 (1 * 2 ^ min (((IntKind.wrap .u64 x1) : Int)).toNat (IntKind.bits .i64))) - 1)), sB 4 false, sA 2 2 2 0], [(7, (Vrow.row v9)), (2, (CV.frzRow (Vtab.row x0)))]⟩ kr ?_
                          rw [h11]
                          refine AT.runU tOk [(32, []), (33, []), (34, []), (35, []), (36, []), (37, []), (38, []), (39, []), (40, []), (41, []), (42, []), (43, [])] 0 [⟨[], 3, 65, 66⟩, ⟨[], 3, 62, 63⟩, ⟨[], 3, 60, 61⟩, ⟨[15], 3, 53, 54⟩, ⟨[8, 15], 3, 46, 47⟩, ⟨[2, 8, 15], 3, 41, 42⟩] [43, 42, 41, 40, 39, 38, 37, 36, 35, 34, 33, 32, 31, 30, 29, 28, 27, 26, 25, 24, 23, 22, 21, 20, 19, 18, 17, 16, 15, 14, 13, 12, 11, 10, 9, 8, 7, 6, 5, 4, 3, 2, 1, 0] rfl kr (fun cx => ?_)
                          exact AT.done [84, 83, 82, 81, 80, 79, 78, 77, 76, 75, 74, 73, 72, 71, 70, 69, 68, 67, 66, 65, 64, 63, 62, 61, 60, 59, 58, 57, 56, 55, 54, 53, 52, 51, 50, 49, 48, 47, 46, 45, 44, 43, 42, 41, 7, 40, 39, 38, 37, 36, 33, 32, 31, 30, 29, 6, 5, 4, 2] [7, 2] _ kr kr rfl
                        · refine Tr.cond (b := false) kr (fun h => nomatch h) (fun _ => ?_)
                          refine Tr.skip ?_
                          show Tr _ _ _ _ _
                          refine Tr.at ?_
                          refine LAt.runU tOk 3 kr ?_
                          refine LAt.doneM 38685626227668133053726964 132 kr ?_
                          exact Exists.intro (mo8, (IntKind.wrap .i64 (y3 + 1))) (And.intro H (And.intro (Nat.lt_succ_self mo8) (St.sub_of [6, 5, 4, 2] [2] kr)))
                      · have H := bifT h11 H
                        obtain ⟨v13, ev13, H⟩ := bind_some H
                        refine Tr.draws mixed 44 kr ⟨100, 0, [sB 84 (decide (v13.Id ≥ v9.Id)), sB 83 (decide (v13.Id ≥ v9.Id)), sB 82 (decide (v13.Id ≥ v9.Id)), sI 81 v9.Id, sA 80 7 3 0, sI 79 v13.Id, (78, .fad ((Vrow.row v13))), (77, .fad ((Vrow.row v13))), sI 76 (IntKind.wrap .i64 (y3 - 1)), sI 75 y3, sR 74 2 2 0 1 false, sA 73 2 2 0, sB 72 true, sB 71 true, sI 70 y3, sB 69 false, sB 68 false, sB 67 false, sI 66 v9.Bare, sA 65 7 3 2, sI 64 (IntKind.wrap .i64 (BitVec.ofInt (IntKind.bits .i64) v9.Bare &&& BitVec.ofInt (IntKind.bits .i64) v9.Members).toNat), sI 63 v9.Members, sA 62 7 3 1, sI 61 v9.Bare, sA 60 7 3 2, sB 59 false, sB 58 false, sB 57 false, sB 56 r12, sI 55 (IntKind.wrap .i64 ((IntKind.wrap .i64 (1 * 2 ^ min (((IntKind.wrap .u64 x1) : Int)).toNat (IntKind.bits .i64))) - 1)), sI 54 v9.Bare, sA 53 7 3 2, sB 52 false, sB 51 false, sB 50 false, sB 49 r11, sI 48 (IntKind.wrap .i64 ((IntKind.wrap .i64 (1 * 2 ^ min (((IntKind.wrap .u64 x1) : Int)).toNat (IntKind.bits .i64))) - 1)), sI 47 v9.Members, sA 46 7 3 1, sB 45 false, sB 44 false, sB 43 r10, sI 42 v9.Id, sA 41 7 3 0, sA 7 7 3 0, sV 40 (Vrow.row v9), (39, .fad ((Vrow.row v9))), sI 38 y3, sC 37 (cF 3 x0.Rows Vrow.row), sA 36 2 2 0, sB 33 true, sI 32 (x0.Rows.length : Int), sC 31 (cF 3 x0.Rows Vrow.row), sA 30 2 2 0, sI 29 y3, sI 6 y3, sI 5 (IntKind.wrap .i64 ((IntKind.wrap .i64 (1 * 2 ^ min (((IntKind.wrap .u64 x1) : Int)).toNat (IntKind.bits .i64))) - 1)), sB 4 false, sA 2 2 2 0], [(7, (Vrow.row v9)), (2, (CV.frzRow (Vtab.row x0)))]⟩ (fun cx => ?_) ?_
                        · refine AT.runU tOk [(0, []), (1, [2, 8, 15])] 42 [⟨[2, 8, 15], 3, 41, 42⟩] [1, 0] rfl kr (fun cx => ?_)
                          refine AT.big1 tOk 2 kr kr ?_
                          refine LAt.callU tOk [.rd, .rd, .rd] (f := 65) (av := #[.tmp 42, .const (.int .i64 1), .const (.int .i64 99)]) (ats := #[3, 3, 3]) (d := (some 43)) (ty := 4) (g := none) kr kr kr [] (spec_l1In n v9.Id 1 99 r10 er10) kr (.inl rfl) ?_
                          refine LAt.fin kr (And.intro (And.intro kr kr) ?_)
                          refine AT.runU tOk [(3, []), (4, [])] 39 [⟨[2, 8, 15], 3, 41, 42⟩] [4, 3, 2, 1, 0] rfl kr (fun cx => ?_)
                          refine AT.to ⟨100, 0, [sB 45 (!r10), sB 44 (!r10), sB 43 r10, sI 42 v9.Id, sA 41 7 3 0, sA 7 7 3 0, sV 40 (Vrow.row v9), (39, .fad ((Vrow.row v9))), sI 38 y3, sC 37 (cF 3 x0.Rows Vrow.row), sA 36 2 2 0, sB 33 true, sI 32 (x0.Rows.length : Int), sC 31 (cF 3 x0.Rows Vrow.row), sA 30 2 2 0, sI 29 y3, sI 6 y3, sI 5 (IntKind.wrap .i64 ((IntKind.wrap .i64 (1 * 2 ^ min (((IntKind.wrap .u64 x1) : Int)).toNat (IntKind.bits .i64))) - 1)), sB 4 false, sA 2 2 2 0], [(7, (Vrow.row v9)), (2, (CV.frzRow (Vtab.row x0)))]⟩ kr ?_
                          rw [h7]
                          refine AT.runU tOk [(5, []), (6, [8, 15]), (7, [])] 36 [⟨[8, 15], 3, 46, 47⟩, ⟨[2, 8, 15], 3, 41, 42⟩] [7, 6, 5, 4, 3, 2, 1, 0] rfl kr (fun cx => ?_)
                          refine AT.big1 tOk 8 kr kr ?_
                          refine LAt.callU tOk [.rd, .rd, .rd] (f := 65) (av := #[.tmp 47, .const (.int .i64 0), .tmp 48]) (ats := #[3, 3, 3]) (d := (some 49)) (ty := 4) (g := (some (4, false))) kr kr kr [] (spec_l1In n v9.Members 0 (IntKind.wrap .i64 ((IntKind.wrap .i64 (1 * 2 ^ min (((IntKind.wrap .u64 x1) : Int)).toNat (IntKind.bits .i64))) - 1)) r11 er11) kr (.inl rfl) ?_
                          refine LAt.fin kr (And.intro (And.intro kr kr) ?_)
                          refine AT.runU tOk [(9, []), (10, []), (11, [])] 32 [⟨[8, 15], 3, 46, 47⟩, ⟨[2, 8, 15], 3, 41, 42⟩] [11, 10, 9, 8, 7, 6, 5, 4, 3, 2, 1, 0] rfl kr (fun cx => ?_)
                          refine AT.to ⟨100, 0, [sB 52 (!r11), sB 51 (!r11), sB 50 (!r11), sB 49 r11, sI 48 (IntKind.wrap .i64 ((IntKind.wrap .i64 (1 * 2 ^ min (((IntKind.wrap .u64 x1) : Int)).toNat (IntKind.bits .i64))) - 1)), sI 47 v9.Members, sA 46 7 3 1, sB 45 false, sB 44 false, sB 43 r10, sI 42 v9.Id, sA 41 7 3 0, sA 7 7 3 0, sV 40 (Vrow.row v9), (39, .fad ((Vrow.row v9))), sI 38 y3, sC 37 (cF 3 x0.Rows Vrow.row), sA 36 2 2 0, sB 33 true, sI 32 (x0.Rows.length : Int), sC 31 (cF 3 x0.Rows Vrow.row), sA 30 2 2 0, sI 29 y3, sI 6 y3, sI 5 (IntKind.wrap .i64 ((IntKind.wrap .i64 (1 * 2 ^ min (((IntKind.wrap .u64 x1) : Int)).toNat (IntKind.bits .i64))) - 1)), sB 4 false, sA 2 2 2 0], [(7, (Vrow.row v9)), (2, (CV.frzRow (Vtab.row x0)))]⟩ kr ?_
                          rw [h8]
                          refine AT.runU tOk [(12, []), (13, [15]), (14, [])] 29 [⟨[15], 3, 53, 54⟩, ⟨[8, 15], 3, 46, 47⟩, ⟨[2, 8, 15], 3, 41, 42⟩] [14, 13, 12, 11, 10, 9, 8, 7, 6, 5, 4, 3, 2, 1, 0] rfl kr (fun cx => ?_)
                          refine AT.big1 tOk 15 kr kr ?_
                          refine LAt.callU tOk [.rd, .rd, .rd] (f := 65) (av := #[.tmp 54, .const (.int .i64 0), .tmp 55]) (ats := #[3, 3, 3]) (d := (some 56)) (ty := 4) (g := (some (11, false))) kr kr kr [] (spec_l1In n v9.Bare 0 (IntKind.wrap .i64 ((IntKind.wrap .i64 (1 * 2 ^ min (((IntKind.wrap .u64 x1) : Int)).toNat (IntKind.bits .i64))) - 1)) r12 er12) kr (.inl rfl) ?_
                          refine LAt.fin kr (And.intro (And.intro kr kr) ?_)
                          refine AT.runU tOk [(16, []), (17, []), (18, [])] 25 [⟨[15], 3, 53, 54⟩, ⟨[8, 15], 3, 46, 47⟩, ⟨[2, 8, 15], 3, 41, 42⟩] [18, 17, 16, 15, 14, 13, 12, 11, 10, 9, 8, 7, 6, 5, 4, 3, 2, 1, 0] rfl kr (fun cx => ?_)
                          refine AT.to ⟨100, 0, [sB 59 (!r12), sB 58 (!r12), sB 57 (!r12), sB 56 r12, sI 55 (IntKind.wrap .i64 ((IntKind.wrap .i64 (1 * 2 ^ min (((IntKind.wrap .u64 x1) : Int)).toNat (IntKind.bits .i64))) - 1)), sI 54 v9.Bare, sA 53 7 3 2, sB 52 false, sB 51 false, sB 50 false, sB 49 r11, sI 48 (IntKind.wrap .i64 ((IntKind.wrap .i64 (1 * 2 ^ min (((IntKind.wrap .u64 x1) : Int)).toNat (IntKind.bits .i64))) - 1)), sI 47 v9.Members, sA 46 7 3 1, sB 45 false, sB 44 false, sB 43 r10, sI 42 v9.Id, sA 41 7 3 0, sA 7 7 3 0, sV 40 (Vrow.row v9), (39, .fad ((Vrow.row v9))), sI 38 y3, sC 37 (cF 3 x0.Rows Vrow.row), sA 36 2 2 0, sB 33 true, sI 32 (x0.Rows.length : Int), sC 31 (cF 3 x0.Rows Vrow.row), sA 30 2 2 0, sI 29 y3, sI 6 y3, sI 5 (IntKind.wrap .i64 ((IntKind.wrap .i64 (1 * 2 ^ min (((IntKind.wrap .u64 x1) : Int)).toNat (IntKind.bits .i64))) - 1)), sB 4 false, sA 2 2 2 0], [(7, (Vrow.row v9)), (2, (CV.frzRow (Vtab.row x0)))]⟩ kr ?_
                          rw [h9]
                          refine AT.runU tOk [(19, []), (20, []), (21, []), (22, []), (23, []), (24, []), (25, []), (26, []), (27, []), (28, [])] 15 [⟨[], 3, 65, 66⟩, ⟨[], 3, 62, 63⟩, ⟨[], 3, 60, 61⟩, ⟨[15], 3, 53, 54⟩, ⟨[8, 15], 3, 46, 47⟩, ⟨[2, 8, 15], 3, 41, 42⟩] [28, 27, 26, 25, 24, 23, 22, 21, 20, 19, 18, 17, 16, 15, 14, 13, 12, 11, 10, 9, 8, 7, 6, 5, 4, 3, 2, 1, 0] rfl kr (fun cx => ?_)
                          refine AT.to ⟨100, 0, [sB 69 ((IntKind.wrap .i64 (BitVec.ofInt (IntKind.bits .i64) v9.Bare &&& BitVec.ofInt (IntKind.bits .i64) v9.Members).toNat) != v9.Bare), sB 68 ((IntKind.wrap .i64 (BitVec.ofInt (IntKind.bits .i64) v9.Bare &&& BitVec.ofInt (IntKind.bits .i64) v9.Members).toNat) != v9.Bare), sB 67 ((IntKind.wrap .i64 (BitVec.ofInt (IntKind.bits .i64) v9.Bare &&& BitVec.ofInt (IntKind.bits .i64) v9.Members).toNat) != v9.Bare), sI 66 v9.Bare, sA 65 7 3 2, sI 64 (IntKind.wrap .i64 (BitVec.ofInt (IntKind.bits .i64) v9.Bare &&& BitVec.ofInt (IntKind.bits .i64) v9.Members).toNat), sI 63 v9.Members, sA 62 7 3 1, sI 61 v9.Bare, sA 60 7 3 2, sB 59 false, sB 58 false, sB 57 false, sB 56 r12, sI 55 (IntKind.wrap .i64 ((IntKind.wrap .i64 (1 * 2 ^ min (((IntKind.wrap .u64 x1) : Int)).toNat (IntKind.bits .i64))) - 1)), sI 54 v9.Bare, sA 53 7 3 2, sB 52 false, sB 51 false, sB 50 false, sB 49 r11, sI 48 (IntKind.wrap .i64 ((IntKind.wrap .i64 (1 * 2 ^ min (((IntKind.wrap .u64 x1) : Int)).toNat (IntKind.bits .i64))) - 1)), sI 47 v9.Members, sA 46 7 3 1, sB 45 false, sB 44 false, sB 43 r10, sI 42 v9.Id, sA 41 7 3 0, sA 7 7 3 0, sV 40 (Vrow.row v9), (39, .fad ((Vrow.row v9))), sI 38 y3, sC 37 (cF 3 x0.Rows Vrow.row), sA 36 2 2 0, sB 33 true, sI 32 (x0.Rows.length : Int), sC 31 (cF 3 x0.Rows Vrow.row), sA 30 2 2 0, sI 29 y3, sI 6 y3, sI 5 (IntKind.wrap .i64 ((IntKind.wrap .i64 (1 * 2 ^ min (((IntKind.wrap .u64 x1) : Int)).toNat (IntKind.bits .i64))) - 1)), sB 4 false, sA 2 2 2 0], [(7, (Vrow.row v9)), (2, (CV.frzRow (Vtab.row x0)))]⟩ kr ?_
                          rw [h10]
                          refine AT.runU tOk [(29, []), (30, []), (31, [])] 12 [⟨[], 3, 65, 66⟩, ⟨[], 3, 62, 63⟩, ⟨[], 3, 60, 61⟩, ⟨[15], 3, 53, 54⟩, ⟨[8, 15], 3, 46, 47⟩, ⟨[2, 8, 15], 3, 41, 42⟩] [31, 30, 29, 28, 27, 26, 25, 24, 23, 22, 21, 20, 19, 18, 17, 16, 15, 14, 13, 12, 11, 10, 9, 8, 7, 6, 5, 4, 3, 2, 1, 0] rfl kr (fun cx => ?_)
                          refine AT.to ⟨100, 0, [sB 72 (decide (y3 > 0)), sB 71 (decide (y3 > 0)), sI 70 y3, sB 69 false, sB 68 false, sB 67 false, sI 66 v9.Bare, sA 65 7 3 2, sI 64 (IntKind.wrap .i64 (BitVec.ofInt (IntKind.bits .i64) v9.Bare &&& BitVec.ofInt (IntKind.bits .i64) v9.Members).toNat), sI 63 v9.Members, sA 62 7 3 1, sI 61 v9.Bare, sA 60 7 3 2, sB 59 false, sB 58 false, sB 57 false, sB 56 r12, sI 55 (IntKind.wrap .i64 ((IntKind.wrap .i64 (1 * 2 ^ min (((IntKind.wrap .u64 x1) : Int)).toNat (IntKind.bits .i64))) - 1)), sI 54 v9.Bare, sA 53 7 3 2, sB 52 false, sB 51 false, sB 50 false, sB 49 r11, sI 48 (IntKind.wrap .i64 ((IntKind.wrap .i64 (1 * 2 ^ min (((IntKind.wrap .u64 x1) : Int)).toNat (IntKind.bits .i64))) - 1)), sI 47 v9.Members, sA 46 7 3 1, sB 45 false, sB 44 false, sB 43 r10, sI 42 v9.Id, sA 41 7 3 0, sA 7 7 3 0, sV 40 (Vrow.row v9), (39, .fad ((Vrow.row v9))), sI 38 y3, sC 37 (cF 3 x0.Rows Vrow.row), sA 36 2 2 0, sB 33 true, sI 32 (x0.Rows.length : Int), sC 31 (cF 3 x0.Rows Vrow.row), sA 30 2 2 0, sI 29 y3, sI 6 y3, sI 5 (IntKind.wrap .i64 ((IntKind.wrap .i64 (1 * 2 ^ min (((IntKind.wrap .u64 x1) : Int)).toNat (IntKind.bits .i64))) - 1)), sB 4 false, sA 2 2 2 0], [(7, (Vrow.row v9)), (2, (CV.frzRow (Vtab.row x0)))]⟩ kr ?_
                          rw [h11]
                          refine AT.runU tOk [(32, []), (33, []), (34, []), (35, [])] 8 [⟨[], 57, 73, 74⟩, ⟨[], 3, 65, 66⟩, ⟨[], 3, 62, 63⟩, ⟨[], 3, 60, 61⟩, ⟨[15], 3, 53, 54⟩, ⟨[8, 15], 3, 46, 47⟩, ⟨[2, 8, 15], 3, 41, 42⟩] [35, 34, 33, 32, 31, 30, 29, 28, 27, 26, 25, 24, 23, 22, 21, 20, 19, 18, 17, 16, 15, 14, 13, 12, 11, 10, 9, 8, 7, 6, 5, 4, 3, 2, 1, 0] rfl kr (fun cx => ?_)
                          refine AT.indexF tOk 36 (t := 57) (ty := 0) (x := (.tmp 74)) (y := (.tmp 76)) (d := 77) (g := (some (31, true))) ⟨(.box 2), [(0, 0)], 0, false, 3, (CV.frzEs (x0.Rows.map Vrow.row))⟩ (IntKind.wrap .i64 (y3 - 1)) (Vrow.row v13) _ kr kr kr kr kr kr rfl (idx_isF ev13) rfl (fun cx => ?_)
                          refine AT.runU tOk [(37, []), (38, []), (39, []), (40, []), (41, []), (42, []), (43, [])] 0 [⟨[], 3, 80, 81⟩, ⟨[], 57, 73, 74⟩, ⟨[], 3, 65, 66⟩, ⟨[], 3, 62, 63⟩, ⟨[], 3, 60, 61⟩, ⟨[15], 3, 53, 54⟩, ⟨[8, 15], 3, 46, 47⟩, ⟨[2, 8, 15], 3, 41, 42⟩] [43, 42, 41, 40, 39, 38, 37, 36, 35, 34, 33, 32, 31, 30, 29, 28, 27, 26, 25, 24, 23, 22, 21, 20, 19, 18, 17, 16, 15, 14, 13, 12, 11, 10, 9, 8, 7, 6, 5, 4, 3, 2, 1, 0] rfl kr (fun cx => ?_)
                          exact AT.done [84, 83, 82, 81, 80, 79, 78, 77, 76, 75, 74, 73, 72, 71, 70, 69, 68, 67, 66, 65, 64, 63, 62, 61, 60, 59, 58, 57, 56, 55, 54, 53, 52, 51, 50, 49, 48, 47, 46, 45, 44, 43, 42, 41, 7, 40, 39, 38, 37, 36, 33, 32, 31, 30, 29, 6, 5, 4, 2] [7, 2] _ kr kr rfl
                        · refine Tr.to ⟨100, 0, [sB 84 (decide (v13.Id ≥ v9.Id)), sB 83 (decide (v13.Id ≥ v9.Id)), sB 82 (decide (v13.Id ≥ v9.Id)), sI 81 v9.Id, sA 80 7 3 0, sI 79 v13.Id, (78, .fad ((Vrow.row v13))), (77, .fad ((Vrow.row v13))), sI 76 (IntKind.wrap .i64 (y3 - 1)), sI 75 y3, sR 74 2 2 0 1 false, sA 73 2 2 0, sB 72 true, sB 71 true, sI 70 y3, sB 69 false, sB 68 false, sB 67 false, sI 66 v9.Bare, sA 65 7 3 2, sI 64 (IntKind.wrap .i64 (BitVec.ofInt (IntKind.bits .i64) v9.Bare &&& BitVec.ofInt (IntKind.bits .i64) v9.Members).toNat), sI 63 v9.Members, sA 62 7 3 1, sI 61 v9.Bare, sA 60 7 3 2, sB 59 false, sB 58 false, sB 57 false, sB 56 r12, sI 55 (IntKind.wrap .i64 ((IntKind.wrap .i64 (1 * 2 ^ min (((IntKind.wrap .u64 x1) : Int)).toNat (IntKind.bits .i64))) - 1)), sI 54 v9.Bare, sA 53 7 3 2, sB 52 false, sB 51 false, sB 50 false, sB 49 r11, sI 48 (IntKind.wrap .i64 ((IntKind.wrap .i64 (1 * 2 ^ min (((IntKind.wrap .u64 x1) : Int)).toNat (IntKind.bits .i64))) - 1)), sI 47 v9.Members, sA 46 7 3 1, sB 45 false, sB 44 false, sB 43 r10, sI 42 v9.Id, sA 41 7 3 0, sA 7 7 3 0, sV 40 (Vrow.row v9), (39, .fad ((Vrow.row v9))), sI 38 y3, sC 37 (cF 3 x0.Rows Vrow.row), sA 36 2 2 0, sB 33 true, sI 32 (x0.Rows.length : Int), sC 31 (cF 3 x0.Rows Vrow.row), sA 30 2 2 0, sI 29 y3, sI 6 y3, sI 5 (IntKind.wrap .i64 ((IntKind.wrap .i64 (1 * 2 ^ min (((IntKind.wrap .u64 x1) : Int)).toNat (IntKind.bits .i64))) - 1)), sB 4 false, sA 2 2 2 0], [(7, (Vrow.row v9)), (2, (CV.frzRow (Vtab.row x0)))]⟩ kr ?_
                          cases h12 : (decide (v13.Id ≥ v9.Id))
                          · have H := bifF h12 H
                            refine Tr.cond (b := false) kr (fun h => nomatch h) (fun _ => ?_)
                            refine Tr.skip ?_
                            show Tr _ _ _ _ _
                            refine Tr.at ?_
                            refine LAt.runU tOk 3 kr ?_
                            refine LAt.doneM 38685626227668133053726964 132 kr ?_
                            exact Exists.intro (mo8, (IntKind.wrap .i64 (y3 + 1))) (And.intro H (And.intro (Nat.lt_succ_self mo8) (St.sub_of [6, 5, 4, 2] [2] kr)))
                          · have H := bifT h12 H
                            refine Tr.cond (b := true) kr (fun _ => ?_) (fun h => nomatch h)
                            refine Tr.rs ?_
                            refine LAt.runU tOk 1 kr ?_
                            refine LAt.doneM 38685626227668081514119412 132 kr ?_
                            refine Tr.ret ?_
                            have H := Option.some.inj H
                            subst H
                            have H := Ho8
                            dsimp only at H
                            have H := Option.some.inj H
                            subst H
                            exact Fin.of _ [(false, [cB false])] kr rfl rfl
                    · have H := bifT h10 H
                      refine Tr.draws mixed 44 kr ⟨100, 0, [sB 84 true, (83, .tup []), (82, .tup []), (81, .tup []), (80, .tup []), (79, .tup []), (78, .tup []), (77, .tup []), (76, .tup []), (75, .tup []), (74, .tup []), (73, .tup []), (72, .tup []), (71, .tup []), (70, .tup []), sB 69 true, sB 68 true, sB 67 true, sI 66 v9.Bare, sA 65 7 3 2, sI 64 (IntKind.wrap .i64 (BitVec.ofInt (IntKind.bits .i64) v9.Bare &&& BitVec.ofInt (IntKind.bits .i64) v9.Members).toNat), sI 63 v9.Members, sA 62 7 3 1, sI 61 v9.Bare, sA 60 7 3 2, sB 59 false, sB 58 false, sB 57 false, sB 56 r12, sI 55 (IntKind.wrap .i64 ((IntKind.wrap .i64 (1 * 2 ^ min (((IntKind.wrap .u64 x1) : Int)).toNat (IntKind.bits .i64))) - 1)), sI 54 v9.Bare, sA 53 7 3 2, sB 52 false, sB 51 false, sB 50 false, sB 49 r11, sI 48 (IntKind.wrap .i64 ((IntKind.wrap .i64 (1 * 2 ^ min (((IntKind.wrap .u64 x1) : Int)).toNat (IntKind.bits .i64))) - 1)), sI 47 v9.Members, sA 46 7 3 1, sB 45 false, sB 44 false, sB 43 r10, sI 42 v9.Id, sA 41 7 3 0, sA 7 7 3 0, sV 40 (Vrow.row v9), (39, .fad ((Vrow.row v9))), sI 38 y3, sC 37 (cF 3 x0.Rows Vrow.row), sA 36 2 2 0, sB 33 true, sI 32 (x0.Rows.length : Int), sC 31 (cF 3 x0.Rows Vrow.row), sA 30 2 2 0, sI 29 y3, sI 6 y3, sI 5 (IntKind.wrap .i64 ((IntKind.wrap .i64 (1 * 2 ^ min (((IntKind.wrap .u64 x1) : Int)).toNat (IntKind.bits .i64))) - 1)), sB 4 false, sA 2 2 2 0], [(7, (Vrow.row v9)), (2, (CV.frzRow (Vtab.row x0)))]⟩ (fun cx => ?_) ?_
                      · refine AT.runU tOk [(0, []), (1, [2, 8, 15])] 42 [⟨[2, 8, 15], 3, 41, 42⟩] [1, 0] rfl kr (fun cx => ?_)
                        refine AT.big1 tOk 2 kr kr ?_
                        refine LAt.callU tOk [.rd, .rd, .rd] (f := 65) (av := #[.tmp 42, .const (.int .i64 1), .const (.int .i64 99)]) (ats := #[3, 3, 3]) (d := (some 43)) (ty := 4) (g := none) kr kr kr [] (spec_l1In n v9.Id 1 99 r10 er10) kr (.inl rfl) ?_
                        refine LAt.fin kr (And.intro (And.intro kr kr) ?_)
                        refine AT.runU tOk [(3, []), (4, [])] 39 [⟨[2, 8, 15], 3, 41, 42⟩] [4, 3, 2, 1, 0] rfl kr (fun cx => ?_)
                        refine AT.to ⟨100, 0, [sB 45 (!r10), sB 44 (!r10), sB 43 r10, sI 42 v9.Id, sA 41 7 3 0, sA 7 7 3 0, sV 40 (Vrow.row v9), (39, .fad ((Vrow.row v9))), sI 38 y3, sC 37 (cF 3 x0.Rows Vrow.row), sA 36 2 2 0, sB 33 true, sI 32 (x0.Rows.length : Int), sC 31 (cF 3 x0.Rows Vrow.row), sA 30 2 2 0, sI 29 y3, sI 6 y3, sI 5 (IntKind.wrap .i64 ((IntKind.wrap .i64 (1 * 2 ^ min (((IntKind.wrap .u64 x1) : Int)).toNat (IntKind.bits .i64))) - 1)), sB 4 false, sA 2 2 2 0], [(7, (Vrow.row v9)), (2, (CV.frzRow (Vtab.row x0)))]⟩ kr ?_
                        rw [h7]
                        refine AT.runU tOk [(5, []), (6, [8, 15]), (7, [])] 36 [⟨[8, 15], 3, 46, 47⟩, ⟨[2, 8, 15], 3, 41, 42⟩] [7, 6, 5, 4, 3, 2, 1, 0] rfl kr (fun cx => ?_)
                        refine AT.big1 tOk 8 kr kr ?_
                        refine LAt.callU tOk [.rd, .rd, .rd] (f := 65) (av := #[.tmp 47, .const (.int .i64 0), .tmp 48]) (ats := #[3, 3, 3]) (d := (some 49)) (ty := 4) (g := (some (4, false))) kr kr kr [] (spec_l1In n v9.Members 0 (IntKind.wrap .i64 ((IntKind.wrap .i64 (1 * 2 ^ min (((IntKind.wrap .u64 x1) : Int)).toNat (IntKind.bits .i64))) - 1)) r11 er11) kr (.inl rfl) ?_
                        refine LAt.fin kr (And.intro (And.intro kr kr) ?_)
                        refine AT.runU tOk [(9, []), (10, []), (11, [])] 32 [⟨[8, 15], 3, 46, 47⟩, ⟨[2, 8, 15], 3, 41, 42⟩] [11, 10, 9, 8, 7, 6, 5, 4, 3, 2, 1, 0] rfl kr (fun cx => ?_)
                        refine AT.to ⟨100, 0, [sB 52 (!r11), sB 51 (!r11), sB 50 (!r11), sB 49 r11, sI 48 (IntKind.wrap .i64 ((IntKind.wrap .i64 (1 * 2 ^ min (((IntKind.wrap .u64 x1) : Int)).toNat (IntKind.bits .i64))) - 1)), sI 47 v9.Members, sA 46 7 3 1, sB 45 false, sB 44 false, sB 43 r10, sI 42 v9.Id, sA 41 7 3 0, sA 7 7 3 0, sV 40 (Vrow.row v9), (39, .fad ((Vrow.row v9))), sI 38 y3, sC 37 (cF 3 x0.Rows Vrow.row), sA 36 2 2 0, sB 33 true, sI 32 (x0.Rows.length : Int), sC 31 (cF 3 x0.Rows Vrow.row), sA 30 2 2 0, sI 29 y3, sI 6 y3, sI 5 (IntKind.wrap .i64 ((IntKind.wrap .i64 (1 * 2 ^ min (((IntKind.wrap .u64 x1) : Int)).toNat (IntKind.bits .i64))) - 1)), sB 4 false, sA 2 2 2 0], [(7, (Vrow.row v9)), (2, (CV.frzRow (Vtab.row x0)))]⟩ kr ?_
                        rw [h8]
                        refine AT.runU tOk [(12, []), (13, [15]), (14, [])] 29 [⟨[15], 3, 53, 54⟩, ⟨[8, 15], 3, 46, 47⟩, ⟨[2, 8, 15], 3, 41, 42⟩] [14, 13, 12, 11, 10, 9, 8, 7, 6, 5, 4, 3, 2, 1, 0] rfl kr (fun cx => ?_)
                        refine AT.big1 tOk 15 kr kr ?_
                        refine LAt.callU tOk [.rd, .rd, .rd] (f := 65) (av := #[.tmp 54, .const (.int .i64 0), .tmp 55]) (ats := #[3, 3, 3]) (d := (some 56)) (ty := 4) (g := (some (11, false))) kr kr kr [] (spec_l1In n v9.Bare 0 (IntKind.wrap .i64 ((IntKind.wrap .i64 (1 * 2 ^ min (((IntKind.wrap .u64 x1) : Int)).toNat (IntKind.bits .i64))) - 1)) r12 er12) kr (.inl rfl) ?_
                        refine LAt.fin kr (And.intro (And.intro kr kr) ?_)
                        refine AT.runU tOk [(16, []), (17, []), (18, [])] 25 [⟨[15], 3, 53, 54⟩, ⟨[8, 15], 3, 46, 47⟩, ⟨[2, 8, 15], 3, 41, 42⟩] [18, 17, 16, 15, 14, 13, 12, 11, 10, 9, 8, 7, 6, 5, 4, 3, 2, 1, 0] rfl kr (fun cx => ?_)
                        refine AT.to ⟨100, 0, [sB 59 (!r12), sB 58 (!r12), sB 57 (!r12), sB 56 r12, sI 55 (IntKind.wrap .i64 ((IntKind.wrap .i64 (1 * 2 ^ min (((IntKind.wrap .u64 x1) : Int)).toNat (IntKind.bits .i64))) - 1)), sI 54 v9.Bare, sA 53 7 3 2, sB 52 false, sB 51 false, sB 50 false, sB 49 r11, sI 48 (IntKind.wrap .i64 ((IntKind.wrap .i64 (1 * 2 ^ min (((IntKind.wrap .u64 x1) : Int)).toNat (IntKind.bits .i64))) - 1)), sI 47 v9.Members, sA 46 7 3 1, sB 45 false, sB 44 false, sB 43 r10, sI 42 v9.Id, sA 41 7 3 0, sA 7 7 3 0, sV 40 (Vrow.row v9), (39, .fad ((Vrow.row v9))), sI 38 y3, sC 37 (cF 3 x0.Rows Vrow.row), sA 36 2 2 0, sB 33 true, sI 32 (x0.Rows.length : Int), sC 31 (cF 3 x0.Rows Vrow.row), sA 30 2 2 0, sI 29 y3, sI 6 y3, sI 5 (IntKind.wrap .i64 ((IntKind.wrap .i64 (1 * 2 ^ min (((IntKind.wrap .u64 x1) : Int)).toNat (IntKind.bits .i64))) - 1)), sB 4 false, sA 2 2 2 0], [(7, (Vrow.row v9)), (2, (CV.frzRow (Vtab.row x0)))]⟩ kr ?_
                        rw [h9]
                        refine AT.runU tOk [(19, []), (20, []), (21, []), (22, []), (23, []), (24, []), (25, []), (26, []), (27, []), (28, [])] 15 [⟨[], 3, 65, 66⟩, ⟨[], 3, 62, 63⟩, ⟨[], 3, 60, 61⟩, ⟨[15], 3, 53, 54⟩, ⟨[8, 15], 3, 46, 47⟩, ⟨[2, 8, 15], 3, 41, 42⟩] [28, 27, 26, 25, 24, 23, 22, 21, 20, 19, 18, 17, 16, 15, 14, 13, 12, 11, 10, 9, 8, 7, 6, 5, 4, 3, 2, 1, 0] rfl kr (fun cx => ?_)
                        refine AT.to ⟨100, 0, [sB 69 ((IntKind.wrap .i64 (BitVec.ofInt (IntKind.bits .i64) v9.Bare &&& BitVec.ofInt (IntKind.bits .i64) v9.Members).toNat) != v9.Bare), sB 68 ((IntKind.wrap .i64 (BitVec.ofInt (IntKind.bits .i64) v9.Bare &&& BitVec.ofInt (IntKind.bits .i64) v9.Members).toNat) != v9.Bare), sB 67 ((IntKind.wrap .i64 (BitVec.ofInt (IntKind.bits .i64) v9.Bare &&& BitVec.ofInt (IntKind.bits .i64) v9.Members).toNat) != v9.Bare), sI 66 v9.Bare, sA 65 7 3 2, sI 64 (IntKind.wrap .i64 (BitVec.ofInt (IntKind.bits .i64) v9.Bare &&& BitVec.ofInt (IntKind.bits .i64) v9.Members).toNat), sI 63 v9.Members, sA 62 7 3 1, sI 61 v9.Bare, sA 60 7 3 2, sB 59 false, sB 58 false, sB 57 false, sB 56 r12, sI 55 (IntKind.wrap .i64 ((IntKind.wrap .i64 (1 * 2 ^ min (((IntKind.wrap .u64 x1) : Int)).toNat (IntKind.bits .i64))) - 1)), sI 54 v9.Bare, sA 53 7 3 2, sB 52 false, sB 51 false, sB 50 false, sB 49 r11, sI 48 (IntKind.wrap .i64 ((IntKind.wrap .i64 (1 * 2 ^ min (((IntKind.wrap .u64 x1) : Int)).toNat (IntKind.bits .i64))) - 1)), sI 47 v9.Members, sA 46 7 3 1, sB 45 false, sB 44 false, sB 43 r10, sI 42 v9.Id, sA 41 7 3 0, sA 7 7 3 0, sV 40 (Vrow.row v9), (39, .fad ((Vrow.row v9))), sI 38 y3, sC 37 (cF 3 x0.Rows Vrow.row), sA 36 2 2 0, sB 33 true, sI 32 (x0.Rows.length : Int), sC 31 (cF 3 x0.Rows Vrow.row), sA 30 2 2 0, sI 29 y3, sI 6 y3, sI 5 (IntKind.wrap .i64 ((IntKind.wrap .i64 (1 * 2 ^ min (((IntKind.wrap .u64 x1) : Int)).toNat (IntKind.bits .i64))) - 1)), sB 4 false, sA 2 2 2 0], [(7, (Vrow.row v9)), (2, (CV.frzRow (Vtab.row x0)))]⟩ kr ?_
                        rw [h10]
                        refine AT.runU tOk [(29, []), (30, []), (31, []), (32, []), (33, []), (34, []), (35, []), (36, []), (37, []), (38, []), (39, []), (40, []), (41, []), (42, []), (43, [])] 0 [⟨[], 3, 65, 66⟩, ⟨[], 3, 62, 63⟩, ⟨[], 3, 60, 61⟩, ⟨[15], 3, 53, 54⟩, ⟨[8, 15], 3, 46, 47⟩, ⟨[2, 8, 15], 3, 41, 42⟩] [43, 42, 41, 40, 39, 38, 37, 36, 35, 34, 33, 32, 31, 30, 29, 28, 27, 26, 25, 24, 23, 22, 21, 20, 19, 18, 17, 16, 15, 14, 13, 12, 11, 10, 9, 8, 7, 6, 5, 4, 3, 2, 1, 0] rfl kr (fun cx => ?_)
                        exact AT.done [84, 83, 82, 81, 80, 79, 78, 77, 76, 75, 74, 73, 72, 71, 70, 69, 68, 67, 66, 65, 64, 63, 62, 61, 60, 59, 58, 57, 56, 55, 54, 53, 52, 51, 50, 49, 48, 47, 46, 45, 44, 43, 42, 41, 7, 40, 39, 38, 37, 36, 33, 32, 31, 30, 29, 6, 5, 4, 2] [7, 2] _ kr kr rfl
                      · refine Tr.cond (b := true) kr (fun _ => ?_) (fun h => nomatch h)
                        refine Tr.rs ?_
                        refine LAt.runU tOk 1 kr ?_
                        refine LAt.doneM 38685626227668081514119412 132 kr ?_
                        refine Tr.ret ?_
                        have H := Option.some.inj H
                        subst H
                        have H := Ho8
                        dsimp only at H
                        have H := Option.some.inj H
                        subst H
                        exact Fin.of _ [(false, [cB false])] kr rfl rfl
                  · have H := bifT h9 H
                    refine Tr.draws mixed 44 kr ⟨100, 0, [sB 84 true, (83, .tup []), (82, .tup []), (81, .tup []), (80, .tup []), (79, .tup []), (78, .tup []), (77, .tup []), (76, .tup []), (75, .tup []), (74, .tup []), (73, .tup []), (72, .tup []), (71, .tup []), (70, .tup []), sB 69 true, sB 68 true, (67, .tup []), (66, .tup []), (65, .tup []), (64, .tup []), (63, .tup []), (62, .tup []), (61, .tup []), (60, .tup []), sB 59 true, sB 58 true, sB 57 true, sB 56 r12, sI 55 (IntKind.wrap .i64 ((IntKind.wrap .i64 (1 * 2 ^ min (((IntKind.wrap .u64 x1) : Int)).toNat (IntKind.bits .i64))) - 1)), sI 54 v9.Bare, sA 53 7 3 2, sB 52 false, sB 51 false, sB 50 false, sB 49 r11, sI 48 (IntKind.wrap .i64 ((IntKind.wrap .i64 (1 * 2 ^ min (((IntKind.wrap .u64 x1) : Int)).toNat (IntKind.bits .i64))) - 1)), sI 47 v9.Members, sA 46 7 3 1, sB 45 false, sB 44 false, sB 43 r10, sI 42 v9.Id, sA 41 7 3 0, sA 7 7 3 0, sV 40 (Vrow.row v9), (39, .fad ((Vrow.row v9))), sI 38 y3, sC 37 (cF 3 x0.Rows Vrow.row), sA 36 2 2 0, sB 33 true, sI 32 (x0.Rows.length : Int), sC 31 (cF 3 x0.Rows Vrow.row), sA 30 2 2 0, sI 29 y3, sI 6 y3, sI 5 (IntKind.wrap .i64 ((IntKind.wrap .i64 (1 * 2 ^ min (((IntKind.wrap .u64 x1) : Int)).toNat (IntKind.bits .i64))) - 1)), sB 4 false, sA 2 2 2 0], [(7, (Vrow.row v9)), (2, (CV.frzRow (Vtab.row x0)))]⟩ (fun cx => ?_) ?_
                    · refine AT.runU tOk [(0, []), (1, [2, 8, 15])] 42 [⟨[2, 8, 15], 3, 41, 42⟩] [1, 0] rfl kr (fun cx => ?_)
                      refine AT.big1 tOk 2 kr kr ?_
                      refine LAt.callU tOk [.rd, .rd, .rd] (f := 65) (av := #[.tmp 42, .const (.int .i64 1), .const (.int .i64 99)]) (ats := #[3, 3, 3]) (d := (some 43)) (ty := 4) (g := none) kr kr kr [] (spec_l1In n v9.Id 1 99 r10 er10) kr (.inl rfl) ?_
                      refine LAt.fin kr (And.intro (And.intro kr kr) ?_)
                      refine AT.runU tOk [(3, []), (4, [])] 39 [⟨[2, 8, 15], 3, 41, 42⟩] [4, 3, 2, 1, 0] rfl kr (fun cx => ?_)
                      refine AT.to ⟨100, 0, [sB 45 (!r10), sB 44 (!r10), sB 43 r10, sI 42 v9.Id, sA 41 7 3 0, sA 7 7 3 0, sV 40 (Vrow.row v9), (39, .fad ((Vrow.row v9))), sI 38 y3, sC 37 (cF 3 x0.Rows Vrow.row), sA 36 2 2 0, sB 33 true, sI 32 (x0.Rows.length : Int), sC 31 (cF 3 x0.Rows Vrow.row), sA 30 2 2 0, sI 29 y3, sI 6 y3, sI 5 (IntKind.wrap .i64 ((IntKind.wrap .i64 (1 * 2 ^ min (((IntKind.wrap .u64 x1) : Int)).toNat (IntKind.bits .i64))) - 1)), sB 4 false, sA 2 2 2 0], [(7, (Vrow.row v9)), (2, (CV.frzRow (Vtab.row x0)))]⟩ kr ?_
                      rw [h7]
                      refine AT.runU tOk [(5, []), (6, [8, 15]), (7, [])] 36 [⟨[8, 15], 3, 46, 47⟩, ⟨[2, 8, 15], 3, 41, 42⟩] [7, 6, 5, 4, 3, 2, 1, 0] rfl kr (fun cx => ?_)
                      refine AT.big1 tOk 8 kr kr ?_
                      refine LAt.callU tOk [.rd, .rd, .rd] (f := 65) (av := #[.tmp 47, .const (.int .i64 0), .tmp 48]) (ats := #[3, 3, 3]) (d := (some 49)) (ty := 4) (g := (some (4, false))) kr kr kr [] (spec_l1In n v9.Members 0 (IntKind.wrap .i64 ((IntKind.wrap .i64 (1 * 2 ^ min (((IntKind.wrap .u64 x1) : Int)).toNat (IntKind.bits .i64))) - 1)) r11 er11) kr (.inl rfl) ?_
                      refine LAt.fin kr (And.intro (And.intro kr kr) ?_)
                      refine AT.runU tOk [(9, []), (10, []), (11, [])] 32 [⟨[8, 15], 3, 46, 47⟩, ⟨[2, 8, 15], 3, 41, 42⟩] [11, 10, 9, 8, 7, 6, 5, 4, 3, 2, 1, 0] rfl kr (fun cx => ?_)
                      refine AT.to ⟨100, 0, [sB 52 (!r11), sB 51 (!r11), sB 50 (!r11), sB 49 r11, sI 48 (IntKind.wrap .i64 ((IntKind.wrap .i64 (1 * 2 ^ min (((IntKind.wrap .u64 x1) : Int)).toNat (IntKind.bits .i64))) - 1)), sI 47 v9.Members, sA 46 7 3 1, sB 45 false, sB 44 false, sB 43 r10, sI 42 v9.Id, sA 41 7 3 0, sA 7 7 3 0, sV 40 (Vrow.row v9), (39, .fad ((Vrow.row v9))), sI 38 y3, sC 37 (cF 3 x0.Rows Vrow.row), sA 36 2 2 0, sB 33 true, sI 32 (x0.Rows.length : Int), sC 31 (cF 3 x0.Rows Vrow.row), sA 30 2 2 0, sI 29 y3, sI 6 y3, sI 5 (IntKind.wrap .i64 ((IntKind.wrap .i64 (1 * 2 ^ min (((IntKind.wrap .u64 x1) : Int)).toNat (IntKind.bits .i64))) - 1)), sB 4 false, sA 2 2 2 0], [(7, (Vrow.row v9)), (2, (CV.frzRow (Vtab.row x0)))]⟩ kr ?_
                      rw [h8]
                      refine AT.runU tOk [(12, []), (13, [15]), (14, [])] 29 [⟨[15], 3, 53, 54⟩, ⟨[8, 15], 3, 46, 47⟩, ⟨[2, 8, 15], 3, 41, 42⟩] [14, 13, 12, 11, 10, 9, 8, 7, 6, 5, 4, 3, 2, 1, 0] rfl kr (fun cx => ?_)
                      refine AT.big1 tOk 15 kr kr ?_
                      refine LAt.callU tOk [.rd, .rd, .rd] (f := 65) (av := #[.tmp 54, .const (.int .i64 0), .tmp 55]) (ats := #[3, 3, 3]) (d := (some 56)) (ty := 4) (g := (some (11, false))) kr kr kr [] (spec_l1In n v9.Bare 0 (IntKind.wrap .i64 ((IntKind.wrap .i64 (1 * 2 ^ min (((IntKind.wrap .u64 x1) : Int)).toNat (IntKind.bits .i64))) - 1)) r12 er12) kr (.inl rfl) ?_
                      refine LAt.fin kr (And.intro (And.intro kr kr) ?_)
                      refine AT.runU tOk [(16, []), (17, []), (18, [])] 25 [⟨[15], 3, 53, 54⟩, ⟨[8, 15], 3, 46, 47⟩, ⟨[2, 8, 15], 3, 41, 42⟩] [18, 17, 16, 15, 14, 13, 12, 11, 10, 9, 8, 7, 6, 5, 4, 3, 2, 1, 0] rfl kr (fun cx => ?_)
                      refine AT.to ⟨100, 0, [sB 59 (!r12), sB 58 (!r12), sB 57 (!r12), sB 56 r12, sI 55 (IntKind.wrap .i64 ((IntKind.wrap .i64 (1 * 2 ^ min (((IntKind.wrap .u64 x1) : Int)).toNat (IntKind.bits .i64))) - 1)), sI 54 v9.Bare, sA 53 7 3 2, sB 52 false, sB 51 false, sB 50 false, sB 49 r11, sI 48 (IntKind.wrap .i64 ((IntKind.wrap .i64 (1 * 2 ^ min (((IntKind.wrap .u64 x1) : Int)).toNat (IntKind.bits .i64))) - 1)), sI 47 v9.Members, sA 46 7 3 1, sB 45 false, sB 44 false, sB 43 r10, sI 42 v9.Id, sA 41 7 3 0, sA 7 7 3 0, sV 40 (Vrow.row v9), (39, .fad ((Vrow.row v9))), sI 38 y3, sC 37 (cF 3 x0.Rows Vrow.row), sA 36 2 2 0, sB 33 true, sI 32 (x0.Rows.length : Int), sC 31 (cF 3 x0.Rows Vrow.row), sA 30 2 2 0, sI 29 y3, sI 6 y3, sI 5 (IntKind.wrap .i64 ((IntKind.wrap .i64 (1 * 2 ^ min (((IntKind.wrap .u64 x1) : Int)).toNat (IntKind.bits .i64))) - 1)), sB 4 false, sA 2 2 2 0], [(7, (Vrow.row v9)), (2, (CV.frzRow (Vtab.row x0)))]⟩ kr ?_
                      rw [h9]
                      refine AT.runU tOk [(19, []), (20, []), (21, []), (22, []), (23, []), (24, []), (25, []), (26, []), (27, []), (28, []), (29, []), (30, []), (31, []), (32, []), (33, []), (34, []), (35, []), (36, []), (37, []), (38, []), (39, []), (40, []), (41, []), (42, []), (43, [])] 0 [⟨[15], 3, 53, 54⟩, ⟨[8, 15], 3, 46, 47⟩, ⟨[2, 8, 15], 3, 41, 42⟩] [43, 42, 41, 40, 39, 38, 37, 36, 35, 34, 33, 32, 31, 30, 29, 28, 27, 26, 25, 24, 23, 22, 21, 20, 19, 18, 17, 16, 15, 14, 13, 12, 11, 10, 9, 8, 7, 6, 5, 4, 3, 2, 1, 0] rfl kr (fun cx => ?_)
                      exact AT.done [84, 83, 82, 81, 80, 79, 78, 77, 76, 75, 74, 73, 72, 71, 70, 69, 68, 67, 66, 65, 64, 63, 62, 61, 60, 59, 58, 57, 56, 55, 54, 53, 52, 51, 50, 49, 48, 47, 46, 45, 44, 43, 42, 41, 7, 40, 39, 38, 37, 36, 33, 32, 31, 30, 29, 6, 5, 4, 2] [7, 2] _ kr kr rfl
                    · refine Tr.cond (b := true) kr (fun _ => ?_) (fun h => nomatch h)
                      refine Tr.rs ?_
                      refine LAt.runU tOk 1 kr ?_
                      refine LAt.doneM 38685626227668081514119412 132 kr ?_
                      refine Tr.ret ?_
                      have H := Option.some.inj H
                      subst H
                      have H := Ho8
                      dsimp only at H
                      have H := Option.some.inj H
                      subst H
                      exact Fin.of _ [(false, [cB false])] kr rfl rfl
                · have H := bifT h8 H
                  refine Tr.draws mixed 44 kr ⟨100, 0, [sB 84 true, (83, .tup []), (82, .tup []), (81, .tup []), (80, .tup []), (79, .tup []), (78, .tup []), (77, .tup []), (76, .tup []), (75, .tup []), (74, .tup []), (73, .tup []), (72, .tup []), (71, .tup []), (70, .tup []), sB 69 true, sB 68 true, (67, .tup []), (66, .tup []), (65, .tup []), (64, .tup []), (63, .tup []), (62, .tup []), (61, .tup []), (60, .tup []), sB 59 true, sB 58 true, (57, .tup []), (56, .tup []), (55, .tup []), (54, .tup []), (53, .tup []), sB 52 true, sB 51 true, sB 50 true, sB 49 r11, sI 48 (IntKind.wrap .i64 ((IntKind.wrap .i64 (1 * 2 ^ min (((IntKind.wrap .u64 x1) : Int)).toNat (IntKind.bits .i64))) - 1)), sI 47 v9.Members, sA 46 7 3 1, sB 45 false, sB 44 false, sB 43 r10, sI 42 v9.Id, sA 41 7 3 0, sA 7 7 3 0, sV 40 (Vrow.row v9), (39, .fad ((Vrow.row v9))), sI 38 y3, sC 37 (cF 3 x0.Rows Vrow.row), sA 36 2 2 0, sB 33 true, sI 32 (x0.Rows.length : Int), sC 31 (cF 3 x0.Rows Vrow.row), sA 30 2 2 0, sI 29 y3, sI 6 y3, sI 5 (IntKind.wrap .i64 ((IntKind.wrap .i64 (1 * 2 ^ min (((IntKind.wrap .u64 x1) : Int)).toNat (IntKind.bits .i64))) - 1)), sB 4 false, sA 2 2 2 0], [(7, (Vrow.row v9)), (2, (CV.frzRow (Vtab.row x0)))]⟩ (fun cx => ?_) ?_
                  · refine AT.runU tOk [(0, []), (1, [2, 8])] 42 [⟨[2, 8], 3, 41, 42⟩] [1, 0] rfl kr (fun cx => ?_)
                    refine AT.big1 tOk 2 kr kr ?_
                    refine LAt.callU tOk [.rd, .rd, .rd] (f := 65) (av := #[.tmp 42, .const (.int .i64 1), .const (.int .i64 99)]) (ats := #[3, 3, 3]) (d := (some 43)) (ty := 4) (g := none) kr kr kr [] (spec_l1In n v9.Id 1 99 r10 er10) kr (.inl rfl) ?_
                    refine LAt.fin kr (And.intro (And.intro kr kr) ?_)
                    refine AT.runU tOk [(3, []), (4, [])] 39 [⟨[2, 8], 3, 41, 42⟩] [4, 3, 2, 1, 0] rfl kr (fun cx => ?_)
                    refine AT.to ⟨100, 0, [sB 45 (!r10), sB 44 (!r10), sB 43 r10, sI 42 v9.Id, sA 41 7 3 0, sA 7 7 3 0, sV 40 (Vrow.row v9), (39, .fad ((Vrow.row v9))), sI 38 y3, sC 37 (cF 3 x0.Rows Vrow.row), sA 36 2 2 0, sB 33 true, sI 32 (x0.Rows.length : Int), sC 31 (cF 3 x0.Rows Vrow.row), sA 30 2 2 0, sI 29 y3, sI 6 y3, sI 5 (IntKind.wrap .i64 ((IntKind.wrap .i64 (1 * 2 ^ min (((IntKind.wrap .u64 x1) : Int)).toNat (IntKind.bits .i64))) - 1)), sB 4 false, sA 2 2 2 0], [(7, (Vrow.row v9)), (2, (CV.frzRow (Vtab.row x0)))]⟩ kr ?_
                    rw [h7]
                    refine AT.runU tOk [(5, []), (6, [8]), (7, [])] 36 [⟨[8], 3, 46, 47⟩, ⟨[2, 8], 3, 41, 42⟩] [7, 6, 5, 4, 3, 2, 1, 0] rfl kr (fun cx => ?_)
                    refine AT.big1 tOk 8 kr kr ?_
                    refine LAt.callU tOk [.rd, .rd, .rd] (f := 65) (av := #[.tmp 47, .const (.int .i64 0), .tmp 48]) (ats := #[3, 3, 3]) (d := (some 49)) (ty := 4) (g := (some (4, false))) kr kr kr [] (spec_l1In n v9.Members 0 (IntKind.wrap .i64 ((IntKind.wrap .i64 (1 * 2 ^ min (((IntKind.wrap .u64 x1) : Int)).toNat (IntKind.bits .i64))) - 1)) r11 er11) kr (.inl rfl) ?_
                    refine LAt.fin kr (And.intro (And.intro kr kr) ?_)
                    refine AT.runU tOk [(9, []), (10, []), (11, [])] 32 [⟨[8], 3, 46, 47⟩, ⟨[2, 8], 3, 41, 42⟩] [11, 10, 9, 8, 7, 6, 5, 4, 3, 2, 1, 0] rfl kr (fun cx => ?_)
                    refine AT.to ⟨100, 0, [sB 52 (!r11), sB 51 (!r11), sB 50 (!r11), sB 49 r11, sI 48 (IntKind.wrap .i64 ((IntKind.wrap .i64 (1 * 2 ^ min (((IntKind.wrap .u64 x1) : Int)).toNat (IntKind.bits .i64))) - 1)), sI 47 v9.Members, sA 46 7 3 1, sB 45 false, sB 44 false, sB 43 r10, sI 42 v9.Id, sA 41 7 3 0, sA 7 7 3 0, sV 40 (Vrow.row v9), (39, .fad ((Vrow.row v9))), sI 38 y3, sC 37 (cF 3 x0.Rows Vrow.row), sA 36 2 2 0, sB 33 true, sI 32 (x0.Rows.length : Int), sC 31 (cF 3 x0.Rows Vrow.row), sA 30 2 2 0, sI 29 y3, sI 6 y3, sI 5 (IntKind.wrap .i64 ((IntKind.wrap .i64 (1 * 2 ^ min (((IntKind.wrap .u64 x1) : Int)).toNat (IntKind.bits .i64))) - 1)), sB 4 false, sA 2 2 2 0], [(7, (Vrow.row v9)), (2, (CV.frzRow (Vtab.row x0)))]⟩ kr ?_
                    rw [h8]
                    refine AT.runU tOk [(12, []), (13, []), (14, []), (15, []), (16, []), (17, []), (18, []), (19, []), (20, []), (21, []), (22, []), (23, []), (24, []), (25, []), (26, []), (27, []), (28, []), (29, []), (30, []), (31, []), (32, []), (33, []), (34, []), (35, []), (36, []), (37, []), (38, []), (39, []), (40, []), (41, []), (42, []), (43, [])] 0 [⟨[8], 3, 46, 47⟩, ⟨[2, 8], 3, 41, 42⟩] [43, 42, 41, 40, 39, 38, 37, 36, 35, 34, 33, 32, 31, 30, 29, 28, 27, 26, 25, 24, 23, 22, 21, 20, 19, 18, 17, 16, 15, 14, 13, 12, 11, 10, 9, 8, 7, 6, 5, 4, 3, 2, 1, 0] rfl kr (fun cx => ?_)
                    exact AT.done [84, 83, 82, 81, 80, 79, 78, 77, 76, 75, 74, 73, 72, 71, 70, 69, 68, 67, 66, 65, 64, 63, 62, 61, 60, 59, 58, 57, 56, 55, 54, 53, 52, 51, 50, 49, 48, 47, 46, 45, 44, 43, 42, 41, 7, 40, 39, 38, 37, 36, 33, 32, 31, 30, 29, 6, 5, 4, 2] [7, 2] _ kr kr rfl
                  · refine Tr.cond (b := true) kr (fun _ => ?_) (fun h => nomatch h)
                    refine Tr.rs ?_
                    refine LAt.runU tOk 1 kr ?_
                    refine LAt.doneM 38685626227668081514119412 132 kr ?_
                    refine Tr.ret ?_
                    have H := Option.some.inj H
                    subst H
                    have H := Ho8
                    dsimp only at H
                    have H := Option.some.inj H
                    subst H
                    exact Fin.of _ [(false, [cB false])] kr rfl rfl
              · have H := bifT h7 H
                refine Tr.draws mixed 44 kr ⟨100, 0, [sB 84 true, (83, .tup []), (82, .tup []), (81, .tup []), (80, .tup []), (79, .tup []), (78, .tup []), (77, .tup []), (76, .tup []), (75, .tup []), (74, .tup []), (73, .tup []), (72, .tup []), (71, .tup []), (70, .tup []), sB 69 true, sB 68 true, (67, .tup []), (66, .tup []), (65, .tup []), (64, .tup []), (63, .tup []), (62, .tup []), (61, .tup []), (60, .tup []), sB 59 true, sB 58 true, (57, .tup []), (56, .tup []), (55, .tup []), (54, .tup []), (53, .tup []), sB 52 true, sB 51 true, (50, .tup []), (49, .tup []), (48, .tup []), (47, .tup []), (46, .tup []), sB 45 true, sB 44 true, sB 43 r10, sI 42 v9.Id, sA 41 7 3 0, sA 7 7 3 0, sV 40 (Vrow.row v9), (39, .fad ((Vrow.row v9))), sI 38 y3, sC 37 (cF 3 x0.Rows Vrow.row), sA 36 2 2 0, sB 33 true, sI 32 (x0.Rows.length : Int), sC 31 (cF 3 x0.Rows Vrow.row), sA 30 2 2 0, sI 29 y3, sI 6 y3, sI 5 (IntKind.wrap .i64 ((IntKind.wrap .i64 (1 * 2 ^ min (((IntKind.wrap .u64 x1) : Int)).toNat (IntKind.bits .i64))) - 1)), sB 4 false, sA 2 2 2 0], [(7, (Vrow.row v9)), (2, (CV.frzRow (Vtab.row x0)))]⟩ (fun cx => ?_) ?_
                · refine AT.runU tOk [(0, []), (1, [2])] 42 [⟨[2], 3, 41, 42⟩] [1, 0] rfl kr (fun cx => ?_)
                  refine AT.big1 tOk 2 kr kr ?_
                  refine LAt.callU tOk [.rd, .rd, .rd] (f := 65) (av := #[.tmp 42, .const (.int .i64 1), .const (.int .i64 99)]) (ats := #[3, 3, 3]) (d := (some 43)) (ty := 4) (g := none) kr kr kr [] (spec_l1In n v9.Id 1 99 r10 er10) kr (.inl rfl) ?_
                  refine LAt.fin kr (And.intro (And.intro kr kr) ?_)
                  refine AT.runU tOk [(3, []), (4, [])] 39 [⟨[2], 3, 41, 42⟩] [4, 3, 2, 1, 0] rfl kr (fun cx => ?_)
                  refine AT.to ⟨100, 0, [sB 45 (!r10), sB 44 (!r10), sB 43 r10, sI 42 v9.Id, sA 41 7 3 0, sA 7 7 3 0, sV 40 (Vrow.row v9), (39, .fad ((Vrow.row v9))), sI 38 y3, sC 37 (cF 3 x0.Rows Vrow.row), sA 36 2 2 0, sB 33 true, sI 32 (x0.Rows.length : Int), sC 31 (cF 3 x0.Rows Vrow.row), sA 30 2 2 0, sI 29 y3, sI 6 y3, sI 5 (IntKind.wrap .i64 ((IntKind.wrap .i64 (1 * 2 ^ min (((IntKind.wrap .u64 x1) : Int)).toNat (IntKind.bits .i64))) - 1)), sB 4 false, sA 2 2 2 0], [(7, (Vrow.row v9)), (2, (CV.frzRow (Vtab.row x0)))]⟩ kr ?_
                  rw [h7]
                  refine AT.runU tOk [(5, []), (6, []), (7, []), (8, []), (9, []), (10, []), (11, []), (12, []), (13, []), (14, []), (15, []), (16, []), (17, []), (18, []), (19, []), (20, []), (21, []), (22, []), (23, []), (24, []), (25, []), (26, []), (27, []), (28, []), (29, []), (30, []), (31, []), (32, []), (33, []), (34, []), (35, []), (36, []), (37, []), (38, []), (39, []), (40, []), (41, []), (42, []), (43, [])] 0 [⟨[2], 3, 41, 42⟩] [43, 42, 41, 40, 39, 38, 37, 36, 35, 34, 33, 32, 31, 30, 29, 28, 27, 26, 25, 24, 23, 22, 21, 20, 19, 18, 17, 16, 15, 14, 13, 12, 11, 10, 9, 8, 7, 6, 5, 4, 3, 2, 1, 0] rfl kr (fun cx => ?_)
                  exact AT.done [84, 83, 82, 81, 80, 79, 78, 77, 76, 75, 74, 73, 72, 71, 70, 69, 68, 67, 66, 65, 64, 63, 62, 61, 60, 59, 58, 57, 56, 55, 54, 53, 52, 51, 50, 49, 48, 47, 46, 45, 44, 43, 42, 41, 7, 40, 39, 38, 37, 36, 33, 32, 31, 30, 29, 6, 5, 4, 2] [7, 2] _ kr kr rfl
                · refine Tr.cond (b := true) kr (fun _ => ?_) (fun h => nomatch h)
                  refine Tr.rs ?_
                  refine LAt.runU tOk 1 kr ?_
                  refine LAt.doneM 38685626227668081514119412 132 kr ?_
                  refine Tr.ret ?_
                  have H := Option.some.inj H
                  subst H
                  have H := Ho8
                  dsimp only at H
                  have H := Option.some.inj H
                  subst H
                  exact Fin.of _ [(false, [cB false])] kr rfl rfl
        · rintro _ H
          have H : (spec_VtabOk_J1 n x0) = some r := H
          unfold spec_VtabOk_J1 at H
          show Tr _ _ _ _ _
          refine Tr.seq ?_
          refine Tr.rs ?_
          refine LAt.runU tOk 1 kr ?_
          refine LAt.doneM 276 4 kr ?_
          obtain ⟨o5, eo5, Ho5⟩ := bind_some H
          clear H
          refine Tr.mid (ι := Unit) (fun v => ⟨100, 0, [sB 4 false], []⟩) (fun v => spec_VtabOk_J2 n = some r) ?_ ?_
          · refine Tr.block ?_
            refine Tr.loop (ι := Nat × (Int)) (fun v => ⟨100, 0, [sI 8 v.2, sB 4 false, sA 2 2 2 0], [(2, (CV.frzRow (Vtab.row x0)))]⟩) (fun v => spec_VtabOk_L3 n v.1 x0 v.2 = some o5) (fun v => v.1) (n, 0) eo5 (St.sub_of [8, 4, 2] [2] kr) ?_
            rintro ⟨mo5, y4⟩ H
            have H : spec_VtabOk_L3 n mo5 x0 y4 = some o5 := H
            obtain _ | mo5 := mo5
            · cases (show (none : Option _) = some o5 from H)
            · rw [spec_VtabOk_L3] at H
              refine Tr.seq ?_
              refine Tr.rs ?_
              refine LAt.runU tOk 3 kr ?_
              refine LAt.lenE tOk (t := 27) (ty := 3) (e := 3) (x := (.tmp 87)) (d := 88) (g := none) ⟨(.slot 87), [], 0, false, 1, (CV.frzEs (x0.Pvid.map intRow))⟩ (x0.Pvid).length _ kr kr kr kr kr (frz_len _ _) rfl ?_
              refine LAt.runU tOk 1 kr ?_
              refine LAt.doneM 1199254413057712141308526868 4 kr ?_
              refine Tr.to ⟨100, 0, [sB 89 (decide (y4 < (x0.Pvid.length : Int))), sI 88 (x0.Pvid.length : Int), sC 87 (cF 1 x0.Pvid intRow), sA 86 2 2 1, sI 85 y4, sI 8 y4, sB 4 false, sA 2 2 2 0], [(2, (CV.frzRow (Vtab.row x0)))]⟩ kr ?_
              cases h4 : (decide (y4 < (x0.Pvid.length : Int)))
              · have H := bifF h4 H
                refine Tr.cond (b := false) kr (fun h => nomatch h) (fun _ => ?_)
                refine Tr.exit ?_
                refine And.intro (fun _ => ?_) (fun h => absurd rfl h)
                have H := Option.some.inj H
                subst H
                have H := Ho5
                dsimp only at H
                exact Exists.intro () (And.intro H (St.sub_of [4] [] kr))
              · have H := bifT h4 H
                refine Tr.cond (b := true) kr (fun _ => ?_) (fun h => nomatch h)
                refine Tr.skip ?_
                show Tr _ _ _ _ _
                refine Tr.seq ?_
                refine Tr.block ?_
                obtain ⟨v6, ev6, H⟩ := bind_some H
                obtain ⟨r7, er7, H⟩ := bind_some H
                refine Tr.draws mixed 8 kr ⟨100, 0, [sB 99 (decide (r7 < 0)), sI 98 r7, sI 97 v6, (96, .fad ([cI v6])), sI 95 y4, sR 94 2 2 1 1 false, sA 93 2 2 1, sR 92 2 2 0 2 true, sB 89 true, sI 88 (x0.Pvid.length : Int), sC 87 (cF 1 x0.Pvid intRow), sA 86 2 2 1, sI 85 y4, sI 8 y4, sB 4 false, sA 2 2 2 0], [(2, (CV.frzRow (Vtab.row x0)))]⟩ (fun cx => ?_) ?_
                · refine AT.runU tOk [(0, [6]), (1, []), (2, [6]), (3, [])] 4 [⟨[6], 27, 93, 94⟩, ⟨[6], 59, 2, 92⟩] [3, 2, 1, 0] rfl kr (fun cx => ?_)
                  refine AT.indexF tOk 4 (t := 27) (ty := 0) (x := (.tmp 94)) (y := (.tmp 95)) (d := 96) (g := none) ⟨(.box 2), [(0, 0)], 1, false, 1, (CV.frzEs (x0.Pvid.map intRow))⟩ y4 [cI v6] _ kr kr kr kr kr kr rfl (idx_isF ev6) rfl (fun cx => ?_)
                  refine AT.runU tOk [(5, [])] 2 [⟨[6], 27, 93, 94⟩, ⟨[6], 59, 2, 92⟩] [5, 4, 3, 2, 1, 0] rfl kr (fun cx => ?_)
                  refine AT.big1 tOk 6 kr kr ?_
                  refine LAt.callU tOk [.rd, .rd] (f := 184) (av := #[.tmp 92, .tmp 97]) (ats := #[59, 3]) (d := (some 98)) (ty := 3) (g := none) kr kr kr [] (spec_RowAt n x0 v6 r7 er7) kr (.inl rfl) ?_
                  refine LAt.fin kr (And.intro (And.intro kr kr) ?_)
                  refine AT.runU tOk [(7, [])] 0 [⟨[6], 27, 93, 94⟩, ⟨[6], 59, 2, 92⟩] [7, 6, 5, 4, 3, 2, 1, 0] rfl kr (fun cx => ?_)
                  exact AT.done [99, 98, 97, 96, 95, 94, 93, 92, 89, 88, 87, 86, 85, 8, 4, 2] [2] _ kr kr rfl
                · refine Tr.to ⟨100, 0, [sB 99 (decide (r7 < 0)), sI 98 r7, sI 97 v6, (96, .fad ([cI v6])), sI 95 y4, sR 94 2 2 1 1 false, sA 93 2 2 1, sR 92 2 2 0 2 true, sB 89 true, sI 88 (x0.Pvid.length : Int), sC 87 (cF 1 x0.Pvid intRow), sA 86 2 2 1, sI 85 y4, sI 8 y4, sB 4 false, sA 2 2 2 0], [(2, (CV.frzRow (Vtab.row x0)))]⟩ kr ?_
                  cases h5 : (decide (r7 < 0))
                  · have H := bifF h5 H
                    refine Tr.cond (b := false) kr (fun h => nomatch h) (fun _ => ?_)
                    refine Tr.skip ?_
                    show Tr _ _ _ _ _
                    refine Tr.at ?_
                    refine LAt.runU tOk 3 kr ?_
                    refine LAt.doneM 1267611914602001733363112608020 4 kr ?_
                    exact Exists.intro (mo5, (IntKind.wrap .i64 (y4 + 1))) (And.intro H (And.intro (Nat.lt_succ_self mo5) (St.sub_of [8, 4, 2] [2] kr)))
                  · have H := bifT h5 H
                    refine Tr.cond (b := true) kr (fun _ => ?_) (fun h => nomatch h)
                    refine Tr.rs ?_
                    refine LAt.runU tOk 1 kr ?_
                    refine LAt.doneM 1263898094484145592538415235348 4 kr ?_
                    refine Tr.ret ?_
                    have H := Option.some.inj H
                    subst H
                    have H := Ho5
                    dsimp only at H
                    have H := Option.some.inj H
                    subst H
                    exact Fin.of _ [(false, [cB false])] kr rfl rfl
          · rintro _ H
            have H : (spec_VtabOk_J2 n) = some r := H
            unfold spec_VtabOk_J2 at H
            show Tr _ _ _ _ _
            refine Tr.rs ?_
            refine LAt.runU tOk 1 kr ?_
            refine LAt.doneM 16 0 kr ?_
            refine Tr.ret ?_
            have H := Option.some.inj H
            subst H
            exact Fin.of _ [(false, [cB true])] kr rfl rfl
      · have H := bifT h3 H
        refine Tr.cond (b := true) kr (fun _ => ?_) (fun h => nomatch h)
        refine Tr.rs ?_
        refine LAt.runU tOk 1 kr ?_
        refine LAt.doneM 22 4 kr ?_
        refine Tr.ret ?_
        have H := Option.some.inj H
        subst H
        exact Fin.of _ [(false, [cB false])] kr rfl rfl
    · have H := bifT h2 H
      refine LAt.runU tOk 5 kr ?_
      refine LAt.doneM 16777238 4 kr ?_
      refine Tr.cond (b := true) kr (fun _ => ?_) (fun h => nomatch h)
      refine Tr.rs ?_
      refine LAt.runU tOk 1 kr ?_
      refine LAt.doneM 22 4 kr ?_
      refine Tr.ret ?_
      have H := Option.some.inj H
      subst H
      exact Fin.of _ [(false, [cB false])] kr rfl rfl
  · have H := bifT h1 H
    refine LAt.runU tOk 12 kr ?_
    refine LAt.doneM 16777238 4 kr ?_
    refine Tr.cond (b := true) kr (fun _ => ?_) (fun h => nomatch h)
    refine Tr.rs ?_
    refine LAt.runU tOk 1 kr ?_
    refine LAt.doneM 22 4 kr ?_
    refine Tr.ret ?_
    have H := Option.some.inj H
    subst H
    exact Fin.of _ [(false, [cB false])] kr rfl rfl

def spec_l11CountsF (n : Nat) (x0 : Bridge) : Option (Bool) :=
  ((spec_l1InF n x0.Ticks 0 1000000).bind fun r1 => (bif r1 then ((spec_l1InF n x0.Parse 0 1000000).bind fun r2 => (bif r2 then ((spec_l1InF n x0.Word 0 1000000).bind fun r3 => (bif r3 then ((spec_l1InF n x0.Drops 0 1000000).bind fun r4 => (bif r4 then ((spec_l1InF n x0.Vers 0 1000000).bind fun r5 => (some r5)) else (some false))) else (some false))) else (some false))) else (some false)))
/-- loop.example/g00326/spec.l11Counts -/
theorem spec_l11Counts (n : Nat) (x0 : Bridge) (r : Bool) (H : spec_l11CountsF n x0 = some r) : LCall Try.prog 168 [.val true (CV.frzRow (Bridge.row x0))] [.val false [.lit (.bool r)]] [] := by
  refine LCall.of_body tOk Try.func168 rfl (c := (.seq (.region 0 (rg Try.f168 0) false) (.seq (.region 1 (rg Try.f168 1) false) .ret))) kr (Nat.le_of_ble_eq_true kr) 0 (rs := [.tmp 2]) rfl [] .nil [(false, [.lit (.bool r)])] [] [] fun cx => ?_
  show Tr _ _ _ ⟨26, 0, [sV 0 (CV.frzRow (Bridge.row x0))], []⟩ _
  unfold spec_l11CountsF at H
  refine Tr.rs ?_
  refine LAt.runU tOk 2 kr ?_
  refine LAt.doneM 6 2 kr ?_
  refine Tr.rs ?_
  refine LAt.runU tOk 2 kr ?_
  obtain ⟨r1, er1, H⟩ := bind_some H
  refine LAt.callU tOk [.rd, .rd, .rd] (f := 65) (av := #[.tmp 4, .const (.int .i64 0), .const (.int .i64 1000000)]) (ats := #[3, 3, 3]) (d := (some 5)) (ty := 4) (g := none) kr kr kr [] (spec_l1In n x0.Ticks 0 1000000 r1 er1) kr (.inl rfl) ?_
  refine LAt.runU tOk 1 kr ?_
  refine LAt.to ⟨26, 0, [sB 6 r1, sB 5 r1, sI 4 x0.Ticks, sA 3 1 11 6, sB 2 false, sA 1 1 11 0], [(1, (CV.frzRow (Bridge.row x0)))]⟩ kr ?_
  cases h1 : r1
  · have H := bifF h1 H
    refine LAt.runU tOk 20 kr ?_
    refine LAt.doneM 4 0 kr ?_
    refine Tr.ret ?_
    have H := Option.some.inj H
    subst H
    exact Fin.of _ [(false, [cB false])] kr rfl rfl
  · have H := bifT h1 H
    refine LAt.runU tOk 2 kr ?_
    obtain ⟨r2, er2, H⟩ := bind_some H
    refine LAt.callU tOk [.rd, .rd, .rd] (f := 65) (av := #[.tmp 8, .const (.int .i64 0), .const (.int .i64 1000000)]) (ats := #[3, 3, 3]) (d := (some 9)) (ty := 4) (g := (some (3, true))) kr kr kr [] (spec_l1In n x0.Parse 0 1000000 r2 er2) kr (.inl rfl) ?_
    refine LAt.runU tOk 2 kr ?_
    refine LAt.to ⟨26, 0, [sB 11 r2, sB 10 r2, sB 9 r2, sI 8 x0.Parse, sA 7 1 11 7, sB 6 true, sB 5 true, sI 4 x0.Ticks, sA 3 1 11 6, sB 2 false, sA 1 1 11 0], [(1, (CV.frzRow (Bridge.row x0)))]⟩ kr ?_
    cases h2 : r2
    · have H := bifF h2 H
      refine LAt.runU tOk 15 kr ?_
      refine LAt.doneM 4 0 kr ?_
      refine Tr.ret ?_
      have H := Option.some.inj H
      subst H
      exact Fin.of _ [(false, [cB false])] kr rfl rfl
    · have H := bifT h2 H
      refine LAt.runU tOk 2 kr ?_
      obtain ⟨r3, er3, H⟩ := bind_some H
      refine LAt.callU tOk [.rd, .rd, .rd] (f := 65) (av := #[.tmp 13, .const (.int .i64 0), .const (.int .i64 1000000)]) (ats := #[3, 3, 3]) (d := (some 14)) (ty := 4) (g := (some (8, true))) kr kr kr [] (spec_l1In n x0.Word 0 1000000 r3 er3) kr (.inl rfl) ?_
      refine LAt.runU tOk 2 kr ?_
      refine LAt.to ⟨26, 0, [sB 16 r3, sB 15 r3, sB 14 r3, sI 13 x0.Word, sA 12 1 11 8, sB 11 true, sB 10 true, sB 9 true, sI 8 x0.Parse, sA 7 1 11 7, sB 6 true, sB 5 true, sI 4 x0.Ticks, sA 3 1 11 6, sB 2 false, sA 1 1 11 0], [(1, (CV.frzRow (Bridge.row x0)))]⟩ kr ?_
      cases h3 : r3
      · have H := bifF h3 H
        refine LAt.runU tOk 10 kr ?_
        refine LAt.doneM 4 0 kr ?_
        refine Tr.ret ?_
        have H := Option.some.inj H
        subst H
        exact Fin.of _ [(false, [cB false])] kr rfl rfl
      · have H := bifT h3 H
        refine LAt.runU tOk 2 kr ?_
        obtain ⟨r4, er4, H⟩ := bind_some H
        refine LAt.callU tOk [.rd, .rd, .rd] (f := 65) (av := #[.tmp 18, .const (.int .i64 0), .const (.int .i64 1000000)]) (ats := #[3, 3, 3]) (d := (some 19)) (ty := 4) (g := (some (13, true))) kr kr kr [] (spec_l1In n x0.Drops 0 1000000 r4 er4) kr (.inl rfl) ?_
        refine LAt.runU tOk 2 kr ?_
        refine LAt.to ⟨26, 0, [sB 21 r4, sB 20 r4, sB 19 r4, sI 18 x0.Drops, sA 17 1 11 9, sB 16 true, sB 15 true, sB 14 true, sI 13 x0.Word, sA 12 1 11 8, sB 11 true, sB 10 true, sB 9 true, sI 8 x0.Parse, sA 7 1 11 7, sB 6 true, sB 5 true, sI 4 x0.Ticks, sA 3 1 11 6, sB 2 false, sA 1 1 11 0], [(1, (CV.frzRow (Bridge.row x0)))]⟩ kr ?_
        cases h4 : r4
        · have H := bifF h4 H
          refine LAt.runU tOk 5 kr ?_
          refine LAt.doneM 4 0 kr ?_
          refine Tr.ret ?_
          have H := Option.some.inj H
          subst H
          exact Fin.of _ [(false, [cB false])] kr rfl rfl
        · have H := bifT h4 H
          refine LAt.runU tOk 2 kr ?_
          obtain ⟨r5, er5, H⟩ := bind_some H
          refine LAt.callU tOk [.rd, .rd, .rd] (f := 65) (av := #[.tmp 23, .const (.int .i64 0), .const (.int .i64 1000000)]) (ats := #[3, 3, 3]) (d := (some 24)) (ty := 4) (g := (some (18, true))) kr kr kr [] (spec_l1In n x0.Vers 0 1000000 r5 er5) kr (.inl rfl) ?_
          refine LAt.runU tOk 2 kr ?_
          refine LAt.doneM 4 0 kr ?_
          refine Tr.ret ?_
          have H := Option.some.inj H
          subst H
          exact Fin.of _ [(false, [cB r5])] kr rfl rfl

def spec_BridgeOk_J1 (n : Nat) (x0 : Bridge) : Option (Bool) :=
  ((spec_l1InF n x0.Id 1 99).bind fun r2 => (bif r2 then (bif (decide ((x0.Name.size : Int) ≤ 10)) then ((spec_l1InF n (x0.Ports.length : Int) 1 6).bind fun r3 => (bif r3 then ((spec_FdbOkF n x0.F).bind fun r4 => (bif r4 then ((spec_VtabOkF n x0.V (x0.Ports.length : Int)).bind fun r5 => (bif r5 then ((spec_l11CountsF n x0).bind fun r6 => (some r6)) else (some false))) else (some false))) else (some false))) else (some false)) else (some false)))
def spec_BridgeOk_L2 (n : Nat) : Nat → Bridge → Int → Option ((Unit) ⊕ (Bool))
  | 0, _, _ => none
  | mo7 + 1, x0, y1 => (bif (decide (y1 < (x0.Ports.length : Int))) then ((idx x0.Ports y1).bind fun v8 => ((spec_PtOkF n v8).bind fun r9 => (bif (!r9) then (some (Sum.inr false)) else (spec_BridgeOk_L2 n mo7 x0 (IntKind.wrap .i64 (y1 + 1)))))) else (some (Sum.inl ())))
def spec_BridgeOkF (n : Nat) (x0 : Bridge) : Option (Bool) :=
  ((spec_BridgeOk_L2 n n x0 0).bind fun o => match o with | .inl _ => (spec_BridgeOk_J1 n x0) | .inr r => some r)
/-- loop.example/g00326/spec.BridgeOk -/
theorem spec_BridgeOk (n : Nat) (x0 : Bridge) (r : Bool) (H : spec_BridgeOkF n x0 = some r) : LCall Try.prog 115 [.val true (CV.frzRow (Bridge.row x0))] [.val false [.lit (.bool r)]] [] := by
  refine LCall.of_body tOk Try.func115 rfl (c := (.seq (.region 0 (rg Try.f115 0) false) (.seq (.seq (.region 1 (rg Try.f115 1) false) (.block 0 (.loop (.seq (.seq (.region 2 (rg Try.f115 2) false) (.cond (.tmp 8) .skip (.exit 0))) (.seq (.block 1 (.seq (.region 4 (rg Try.f115 4) false) (.cond (.tmp 17) (.seq (.region 5 (rg Try.f115 5) false) .ret) .skip))) (.region 3 (rg Try.f115 3) false)))))) (.seq (.region 6 (rg Try.f115 6) false) .ret)))) kr (Nat.le_of_ble_eq_true kr) 0 (rs := [.tmp 2]) rfl [] .nil [(false, [.lit (.bool r)])] [] [] fun cx => ?_
  show Tr _ _ _ ⟨50, 0, [sV 0 (CV.frzRow (Bridge.row x0))], []⟩ _
  unfold spec_BridgeOkF at H
  refine Tr.rs ?_
  refine LAt.runU tOk 2 kr ?_
  refine LAt.doneM 6 2 kr ?_
  refine Tr.seq ?_
  refine Tr.rs ?_
  refine LAt.runU tOk 1 kr ?_
  refine LAt.doneM 14 2 kr ?_
  obtain ⟨o7, eo7, Ho7⟩ := bind_some H
  clear H
  refine Tr.mid (ι := Unit) (fun v => ⟨50, 0, [sB 2 false, sA 1 1 11 0], [(1, (CV.frzRow (Bridge.row x0)))]⟩) (fun v => spec_BridgeOk_J1 n x0 = some r) ?_ ?_
  · refine Tr.block ?_
    refine Tr.loop (ι := Nat × (Int)) (fun v => ⟨50, 0, [sI 3 v.2, sB 2 false, sA 1 1 11 0], [(1, (CV.frzRow (Bridge.row x0)))]⟩) (fun v => spec_BridgeOk_L2 n v.1 x0 v.2 = some o7) (fun v => v.1) (n, 0) eo7 (St.sub_of [3, 2, 1] [1] kr) ?_
    rintro ⟨mo7, y1⟩ H
    have H : spec_BridgeOk_L2 n mo7 x0 y1 = some o7 := H
    obtain _ | mo7 := mo7
    · cases (show (none : Option _) = some o7 from H)
    · rw [spec_BridgeOk_L2] at H
      refine Tr.seq ?_
      refine Tr.rs ?_
      refine LAt.runU tOk 3 kr ?_
      refine LAt.lenE tOk (t := 55) (ty := 3) (e := 114) (x := (.tmp 6)) (d := 7) (g := none) ⟨(.slot 6), [], 0, false, 8, (CV.frzEs (x0.Ports.map Pt.row))⟩ (x0.Ports).length _ kr kr kr kr kr (frz_len _ _) rfl ?_
      refine LAt.runU tOk 1 kr ?_
      refine LAt.doneM 510 2 kr ?_
      refine Tr.to ⟨50, 0, [sB 8 (decide (y1 < (x0.Ports.length : Int))), sI 7 (x0.Ports.length : Int), sC 6 (cF 8 x0.Ports Pt.row), sA 5 1 11 2, sI 4 y1, sI 3 y1, sB 2 false, sA 1 1 11 0], [(1, (CV.frzRow (Bridge.row x0)))]⟩ kr ?_
      cases h6 : (decide (y1 < (x0.Ports.length : Int)))
      · have H := bifF h6 H
        refine Tr.cond (b := false) kr (fun h => nomatch h) (fun _ => ?_)
        refine Tr.exit ?_
        refine And.intro (fun _ => ?_) (fun h => absurd rfl h)
        have H := Option.some.inj H
        subst H
        have H := Ho7
        dsimp only at H
        exact Exists.intro () (And.intro H (St.sub_of [2, 1] [1] kr))
      · have H := bifT h6 H
        refine Tr.cond (b := true) kr (fun _ => ?_) (fun h => nomatch h)
        refine Tr.skip ?_
        show Tr _ _ _ _ _
        refine Tr.seq ?_
        refine Tr.block ?_
        refine Tr.rs ?_
        refine LAt.runU tOk 3 kr ?_
        obtain ⟨v8, ev8, H⟩ := bind_some H
        refine LAt.indexF tOk (t := 55) (ty := 0) (x := (.tmp 12)) (y := (.tmp 13)) (d := 14) (g := none) ⟨(.slot 12), [], 0, false, 8, (CV.frzEs (x0.Ports.map Pt.row))⟩ y1 (Pt.row v8) _ kr kr kr kr rfl (idx_isF ev8) rfl ?_
        refine LAt.runU tOk 1 kr ?_
        obtain ⟨r9, er9, H⟩ := bind_some H
        refine LAt.callU tOk [.rd] (f := 165) (av := #[.tmp 15]) (ats := #[114]) (d := (some 16)) (ty := 4) (g := none) kr kr kr [] (spec_PtOk n v8 r9 er9) kr (.inl rfl) ?_
        refine LAt.runU tOk 1 kr ?_
        refine LAt.doneM 260606 2 kr ?_
        refine Tr.to ⟨50, 0, [sB 17 (!r9), sB 16 r9, sV 15 (Pt.row v8), (14, .fad ((Pt.row v8))), sI 13 y1, sC 12 (cF 8 x0.Ports Pt.row), sA 11 1 11 2, sB 8 true, sI 7 (x0.Ports.length : Int), sC 6 (cF 8 x0.Ports Pt.row), sA 5 1 11 2, sI 4 y1, sI 3 y1, sB 2 false, sA 1 1 11 0], [(1, (CV.frzRow (Bridge.row x0)))]⟩ kr ?_
        cases h7 : (!r9)
        · have H := bifF h7 H
          refine Tr.cond (b := false) kr (fun h => nomatch h) (fun _ => ?_)
          refine Tr.skip ?_
          show Tr _ _ _ _ _
          refine Tr.at ?_
          refine LAt.runU tOk 3 kr ?_
          refine LAt.doneM 262142 2 kr ?_
          exact Exists.intro (mo7, (IntKind.wrap .i64 (y1 + 1))) (And.intro H (And.intro (Nat.lt_succ_self mo7) (St.sub_of [3, 2, 1] [1] kr)))
        · have H := bifT h7 H
          refine Tr.cond (b := true) kr (fun _ => ?_) (fun h => nomatch h)
          refine Tr.rs ?_
          refine LAt.runU tOk 1 kr ?_
          refine LAt.doneM 260606 2 kr ?_
          refine Tr.ret ?_
          have H := Option.some.inj H
          subst H
          have H := Ho7
          dsimp only at H
          have H := Option.some.inj H
          subst H
          exact Fin.of _ [(false, [cB false])] kr rfl rfl
  · rintro _ H
    have H : (spec_BridgeOk_J1 n x0) = some r := H
    unfold spec_BridgeOk_J1 at H
    show Tr _ _ _ _ _
    refine Tr.rs ?_
    refine LAt.runU tOk 2 kr ?_
    obtain ⟨r2, er2, H⟩ := bind_some H
    refine LAt.callU tOk [.rd, .rd, .rd] (f := 65) (av := #[.tmp 19, .const (.int .i64 1), .const (.int .i64 99)]) (ats := #[3, 3, 3]) (d := (some 20)) (ty := 4) (g := none) kr kr kr [] (spec_l1In n x0.Id 1 99 r2 er2) kr (.inl rfl) ?_
    refine LAt.runU tOk 1 kr ?_
    refine LAt.to ⟨50, 0, [sB 21 r2, sB 20 r2, sI 19 x0.Id, sA 18 1 11 0, sB 2 false, sA 1 1 11 0], [(1, (CV.frzRow (Bridge.row x0)))]⟩ kr ?_
    cases h1 : r2
    · have H := bifF h1 H
      refine LAt.runU tOk 29 kr ?_
      refine LAt.doneM 4 0 kr ?_
      refine Tr.ret ?_
      have H := Option.some.inj H
      subst H
      exact Fin.of _ [(false, [cB false])] kr rfl rfl
    · have H := bifT h1 H
      refine LAt.runU tOk 6 kr ?_
      refine LAt.to ⟨50, 0, [sB 27 (decide ((x0.Name.size : Int) ≤ 10)), sB 26 (decide ((x0.Name.size : Int) ≤ 10)), sB 25 (decide ((x0.Name.size : Int) ≤ 10)), sI 24 (x0.Name.size : Int), sC 23 (cS x0.Name), sA 22 1 11 1, sB 21 true, sB 20 true, sI 19 x0.Id, sA 18 1 11 0, sB 2 false, sA 1 1 11 0], [(1, (CV.frzRow (Bridge.row x0)))]⟩ kr ?_
      cases h2 : (decide ((x0.Name.size : Int) ≤ 10))
      · have H := bifF h2 H
        refine LAt.runU tOk 23 kr ?_
        refine LAt.doneM 4 0 kr ?_
        refine Tr.ret ?_
        have H := Option.some.inj H
        subst H
        exact Fin.of _ [(false, [cB false])] kr rfl rfl
      · have H := bifT h2 H
        refine LAt.runU tOk 2 kr ?_
        refine LAt.lenE tOk (t := 55) (ty := 3) (e := 114) (x := (.tmp 29)) (d := 30) (g := (some (9, true))) ⟨(.slot 29), [], 0, false, 8, (CV.frzEs (x0.Ports.map Pt.row))⟩ (x0.Ports).length _ kr kr kr kr kr (frz_len _ _) rfl ?_
        obtain ⟨r3, er3, H⟩ := bind_some H
        refine LAt.callU tOk [.rd, .rd, .rd] (f := 65) (av := #[.tmp 30, .const (.int .i64 1), .const (.int .i64 6)]) (ats := #[3, 3, 3]) (d := (some 31)) (ty := 4) (g := (some (9, true))) kr kr kr [] (spec_l1In n (x0.Ports.length : Int) 1 6 r3 er3) kr (.inl rfl) ?_
        refine LAt.runU tOk 2 kr ?_
        refine LAt.to ⟨50, 0, [sB 33 r3, sB 32 r3, sB 31 r3, sI 30 (x0.Ports.length : Int), sC 29 (cF 8 x0.Ports Pt.row), sA 28 1 11 2, sB 27 true, sB 26 true, sB 25 true, sI 24 (x0.Name.size : Int), sC 23 (cS x0.Name), sA 22 1 11 1, sB 21 true, sB 20 true, sI 19 x0.Id, sA 18 1 11 0, sB 2 false, sA 1 1 11 0], [(1, (CV.frzRow (Bridge.row x0)))]⟩ kr ?_
        cases h3 : r3
        · have H := bifF h3 H
          refine LAt.runU tOk 17 kr ?_
          refine LAt.doneM 4 0 kr ?_
          refine Tr.ret ?_
          have H := Option.some.inj H
          subst H
          exact Fin.of _ [(false, [cB false])] kr rfl rfl
        · have H := bifT h3 H
          refine LAt.runU tOk 2 kr ?_
          obtain ⟨r4, er4, H⟩ := bind_some H
          refine LAt.callU tOk [.rd] (f := 166) (av := #[.tmp 35]) (ats := #[56]) (d := (some 36)) (ty := 4) (g := (some (15, true))) kr kr kr [] (spec_FdbOk n x0.F r4 er4) kr (.inl rfl) ?_
          refine LAt.runU tOk 2 kr ?_
          refine LAt.to ⟨50, 0, [sB 38 r4, sB 37 r4, sB 36 r4, sC 35 (cF 5 x0.F Fent.row), sA 34 1 11 3, sB 33 true, sB 32 true, sB 31 true, sI 30 (x0.Ports.length : Int), sC 29 (cF 8 x0.Ports Pt.row), sA 28 1 11 2, sB 27 true, sB 26 true, sB 25 true, sI 24 (x0.Name.size : Int), sC 23 (cS x0.Name), sA 22 1 11 1, sB 21 true, sB 20 true, sI 19 x0.Id, sA 18 1 11 0, sB 2 false, sA 1 1 11 0], [(1, (CV.frzRow (Bridge.row x0)))]⟩ kr ?_
          cases h4 : r4
          · have H := bifF h4 H
            refine LAt.runU tOk 12 kr ?_
            refine LAt.doneM 4 0 kr ?_
            refine Tr.ret ?_
            have H := Option.some.inj H
            subst H
            exact Fin.of _ [(false, [cB false])] kr rfl rfl
          · have H := bifT h4 H
            refine LAt.runU tOk 4 kr ?_
            refine LAt.lenE tOk (t := 55) (ty := 3) (e := 114) (x := (.tmp 42)) (d := 43) (g := (some (20, true))) ⟨(.slot 42), [], 0, false, 8, (CV.frzEs (x0.Ports.map Pt.row))⟩ (x0.Ports).length _ kr kr kr kr kr (frz_len _ _) rfl ?_
            obtain ⟨r5, er5, H⟩ := bind_some H
            refine LAt.callU tOk [.rd, .rd] (f := 167) (av := #[.tmp 40, .tmp 43]) (ats := #[59, 3]) (d := (some 44)) (ty := 4) (g := (some (20, true))) kr kr kr [] (spec_VtabOk n x0.V (x0.Ports.length : Int) r5 er5) kr (.inl rfl) ?_
            refine LAt.runU tOk 2 kr ?_
            refine LAt.to ⟨50, 0, [sB 46 r5, sB 45 r5, sB 44 r5, sI 43 (x0.Ports.length : Int), sC 42 (cF 8 x0.Ports Pt.row), sA 41 1 11 2, sV 40 (((CV.frzRow (Bridge.row x0)).drop 4).take 2), sA 39 1 11 4, sB 38 true, sB 37 true, sB 36 true, sC 35 (cF 5 x0.F Fent.row), sA 34 1 11 3, sB 33 true, sB 32 true, sB 31 true, sI 30 (x0.Ports.length : Int), sC 29 (cF 8 x0.Ports Pt.row), sA 28 1 11 2, sB 27 true, sB 26 true, sB 25 true, sI 24 (x0.Name.size : Int), sC 23 (cS x0.Name), sA 22 1 11 1, sB 21 true, sB 20 true, sI 19 x0.Id, sA 18 1 11 0, sB 2 false, sA 1 1 11 0], [(1, (CV.frzRow (Bridge.row x0)))]⟩ kr ?_
            cases h5 : r5
            · have H := bifF h5 H
              refine LAt.runU tOk 4 kr ?_
              refine LAt.doneM 4 0 kr ?_
              refine Tr.ret ?_
              have H := Option.some.inj H
              subst H
              exact Fin.of _ [(false, [cB false])] kr rfl rfl
            · have H := bifT h5 H
              refine LAt.runU tOk 1 kr ?_
              obtain ⟨r6, er6, H⟩ := bind_some H
              refine LAt.callU tOk [.rd] (f := 168) (av := #[.tmp 47]) (ats := #[61]) (d := (some 48)) (ty := 4) (g := (some (28, true))) kr kr kr [] (spec_l11Counts n x0 r6 er6) kr (.inl rfl) ?_
              refine LAt.runU tOk 2 kr ?_
              refine LAt.doneM 4 0 kr ?_
              refine Tr.ret ?_
              have H := Option.some.inj H
              subst H
              exact Fin.of _ [(false, [cB r6])] kr rfl rfl

def spec_l13Used_J1 (n : Nat) (y3 : Int) : Option (Int) :=
  (some y3)
def spec_l13Used_J3 (n : Nat) (k : (Int × Int → Option ((Int) ⊕ (Int)))) (v5 : Link) (x1 : Int) (x2 : Int) (y1 : Int) (y6 : Bool) (y7 : Bool) (y8 : Bool) (y9 : Int) : Option ((Int) ⊕ (Int)) :=
  (bif (v5.B == x1) then (bif (v5.Q == x2) then (k ((IntKind.wrap .i64 (y1 + 1)), (IntKind.wrap .i64 (y9 + 1)))) else (k ((IntKind.wrap .i64 (y1 + 1)), y9))) else (k ((IntKind.wrap .i64 (y1 + 1)), y9)))
def spec_l13Used_L2 (n : Nat) : Nat → Net → Int → Int → Int → Int → Option ((Int) ⊕ (Int))
  | 0, _, _, _, _, _ => none
  | mo4 + 1, x0, x1, x2, y1, y2 => (bif (decide (y1 < (x0.Links.length : Int))) then ((idx x0.Links y1).bind fun v5 => (bif (v5.A == x1) then (bif (v5.P == x2) then (spec_l13Used_J3 n (fun v => spec_l13Used_L2 n mo4 x0 x1 x2 v.1 v.2) v5 x1 x2 y1 true true true (IntKind.wrap .i64 (y2 + 1))) else (spec_l13Used_J3 n (fun v => spec_l13Used_L2 n mo4 x0 x1 x2 v.1 v.2) v5 x1 x2 y1 false true true y2)) else (spec_l13Used_J3 n (fun v => spec_l13Used_L2 n mo4 x0 x1 x2 v.1 v.2) v5 x1 x2 y1 false false false y2))) else (some (Sum.inl y2)))
def spec_l13UsedF (n : Nat) (x0 : Net) (x1 : Int) (x2 : Int) : Option (Int) :=
  ((spec_l13Used_L2 n n x0 x1 x2 0 0).bind fun o => match o with | .inl y3 => (spec_l13Used_J1 n y3) | .inr r => some r)
/-- loop.example/g00326/spec.l13Used -/
theorem spec_l13Used (n : Nat) (x0 : Net) (x1 : Int) (x2 : Int) (r : Int) (H : spec_l13UsedF n x0 x1 x2 = some r) : LCall Try.prog 141 [.val true (CV.frzRow (Net.row x0)), .val false [.lit (.int .i64 x1)], .val false [.lit (.int .i64 x2)]] [.val false [.lit (.int .i64 r)]] [] := by
  refine LCall.of_body tOk Try.func141 rfl (c := (.seq (.region 0 (rg Try.f141 0) false) (.seq (.region 1 (rg Try.f141 1) false) (.seq (.seq (.region 2 (rg Try.f141 2) false) (.block 0 (.loop (.seq (.seq (.region 3 (rg Try.f141 3) false) (.cond (.tmp 14) .skip (.exit 0))) (.seq (.block 1 (.seq (.region 5 (rg Try.f141 5) false) (.seq (.seq (.region 6 (rg Try.f141 6) false) (.cond (.tmp 31) (.region 7 (rg Try.f141 7) false) .skip)) (.seq (.region 8 (rg Try.f141 8) false) (.cond (.tmp 43) (.region 9 (rg Try.f141 9) false) .skip))))) (.region 4 (rg Try.f141 4) false)))))) (.seq (.region 10 (rg Try.f141 10) false) .ret))))) kr (Nat.le_of_ble_eq_true kr) 0 (rs := [.tmp 6]) rfl [] .nil [(false, [.lit (.int .i64 r)])] [] [] fun cx => ?_
  show Tr _ _ _ ⟨47, 0, [sV 0 (CV.frzRow (Net.row x0)), sI 1 x1, sI 2 x2], []⟩ _
  unfold spec_l13UsedF at H
  refine Tr.rs ?_
  refine LAt.runU tOk 2 kr ?_
  refine LAt.doneM 78 8 kr ?_
  refine Tr.rs ?_
  refine LAt.runU tOk 1 kr ?_
  refine LAt.doneM 206 8 kr ?_
  refine Tr.seq ?_
  refine Tr.rs ?_
  refine LAt.runU tOk 1 kr ?_
  refine LAt.doneM 462 8 kr ?_
  obtain ⟨o4, eo4, Ho4⟩ := bind_some H
  clear H
  refine Tr.mid (ι := Int) (fun v => ⟨47, 0, [sI 7 v, sI 6 0], []⟩) (fun v => spec_l13Used_J1 n v = some r) ?_ ?_
  · refine Tr.block ?_
    refine Tr.loop (ι := Nat × (Int × Int)) (fun v => ⟨47, 0, [sI 8 v.2.1, sI 7 v.2.2, sI 6 0, sA 3 3 3 0, sI 1 x1, sI 2 x2], [(3, (CV.frzRow (Net.row x0)))]⟩) (fun v => spec_l13Used_L2 n v.1 x0 x1 x2 v.2.1 v.2.2 = some o4) (fun v => v.1) (n, (0, 0)) eo4 (St.sub_of [8, 7, 6, 3, 1, 2] [3] kr) ?_
    rintro ⟨mo4, y1, y2⟩ H
    have H : spec_l13Used_L2 n mo4 x0 x1 x2 y1 y2 = some o4 := H
    obtain _ | mo4 := mo4
    · cases (show (none : Option _) = some o4 from H)
    · rw [spec_l13Used_L2] at H
      refine Tr.seq ?_
      refine Tr.rs ?_
      refine LAt.runU tOk 3 kr ?_
      refine LAt.lenE tOk (t := 31) (ty := 3) (e := 96) (x := (.tmp 12)) (d := 13) (g := none) ⟨(.slot 12), [], 0, false, 4, (CV.frzEs (x0.Links.map Link.row))⟩ (x0.Links).length _ kr kr kr kr kr (frz_len _ _) rfl ?_
      refine LAt.runU tOk 1 kr ?_
      refine LAt.doneM 32206 8 kr ?_
      refine Tr.to ⟨47, 0, [sB 14 (decide (y1 < (x0.Links.length : Int))), sI 13 (x0.Links.length : Int), sC 12 (cF 4 x0.Links Link.row), sA 11 3 3 1, sI 10 y1, sI 8 y1, sI 7 y2, sI 6 0, sA 3 3 3 0, sI 1 x1, sI 2 x2], [(3, (CV.frzRow (Net.row x0)))]⟩ kr ?_
      cases h1 : (decide (y1 < (x0.Links.length : Int)))
      · have H := bifF h1 H
        refine Tr.cond (b := false) kr (fun h => nomatch h) (fun _ => ?_)
        refine Tr.exit ?_
        refine And.intro (fun _ => ?_) (fun h => absurd rfl h)
        have H := Option.some.inj H
        subst H
        have H := Ho4
        dsimp only at H
        exact Exists.intro y2 (And.intro H (St.sub_of [7, 6] [] kr))
      · have H := bifT h1 H
        refine Tr.cond (b := true) kr (fun _ => ?_) (fun h => nomatch h)
        refine Tr.skip ?_
        show Tr _ _ _ _ _
        refine Tr.seq ?_
        refine Tr.block ?_
        refine Tr.rs ?_
        refine LAt.runU tOk 3 kr ?_
        obtain ⟨v5, ev5, H⟩ := bind_some H
        refine LAt.indexF tOk (t := 31) (ty := 0) (x := (.tmp 18)) (y := (.tmp 19)) (d := 20) (g := none) ⟨(.slot 18), [], 0, false, 4, (CV.frzEs (x0.Links.map Link.row))⟩ y1 (Link.row v5) _ kr kr kr kr rfl (idx_isF ev5) rfl ?_
        refine LAt.runU tOk 3 kr ?_
        refine LAt.doneM 4095950 520 kr ?_
        refine Tr.seq ?_
        refine Tr.mid (ι := Bool × Bool × Bool × Int) (fun v => ⟨47, 0, [sB 31 v.1, sB 26 v.2.1, sB 25 v.2.2.1, sI 24 x1, sI 23 v5.A, sA 22 9 4 0, sA 9 9 4 0, sV 21 (Link.row v5), (20, .fad ((Link.row v5))), sI 19 y1, sC 18 (cF 4 x0.Links Link.row), sA 17 3 3 1, sB 14 true, sI 13 (x0.Links.length : Int), sC 12 (cF 4 x0.Links Link.row), sA 11 3 3 1, sI 10 y1, sI 8 y1, sI 7 v.2.2.2, sI 6 0, sA 3 3 3 0, sI 1 x1, sI 2 x2], [(9, (Link.row v5)), (3, (CV.frzRow (Net.row x0)))]⟩) (fun v => spec_l13Used_J3 n (fun v => spec_l13Used_L2 n mo4 x0 x1 x2 v.1 v.2) v5 x1 x2 y1 v.1 v.2.1 v.2.2.1 v.2.2.2 = some o4) ?_ ?_
        · refine Tr.rs ?_
          refine LAt.runU tOk 5 kr ?_
          refine LAt.to ⟨47, 0, [sB 26 (v5.A == x1), sB 25 (v5.A == x1), sI 24 x1, sI 23 v5.A, sA 22 9 4 0, sA 9 9 4 0, sV 21 (Link.row v5), (20, .fad ((Link.row v5))), sI 19 y1, sC 18 (cF 4 x0.Links Link.row), sA 17 3 3 1, sB 14 true, sI 13 (x0.Links.length : Int), sC 12 (cF 4 x0.Links Link.row), sA 11 3 3 1, sI 10 y1, sI 8 y1, sI 7 y2, sI 6 0, sA 3 3 3 0, sI 1 x1, sI 2 x2], [(9, (Link.row v5)), (3, (CV.frzRow (Net.row x0)))]⟩ kr ?_
          cases h4 : (v5.A == x1)
          · have H := bifF h4 H
            refine LAt.runU tOk 5 kr ?_
            refine LAt.doneM 4294868942 520 kr ?_
            refine Tr.cond (b := false) kr (fun h => nomatch h) (fun _ => ?_)
            refine Tr.skip ?_
            exact Exists.intro (false, false, false, y2) (And.intro H (St.sub_of [31, 26, 25, 24, 23, 22, 9, 21, 20, 19, 18, 17, 14, 13, 12, 11, 10, 8, 7, 6, 3, 1, 2] [9, 3] kr))
          · have H := bifT h4 H
            refine LAt.runU tOk 5 kr ?_
            refine LAt.doneM 4294868942 520 kr ?_
            refine Tr.to ⟨47, 0, [sB 31 (v5.P == x2), sB 30 (v5.P == x2), sI 29 x2, sI 28 v5.P, sA 27 9 4 1, sB 26 true, sB 25 true, sI 24 x1, sI 23 v5.A, sA 22 9 4 0, sA 9 9 4 0, sV 21 (Link.row v5), (20, .fad ((Link.row v5))), sI 19 y1, sC 18 (cF 4 x0.Links Link.row), sA 17 3 3 1, sB 14 true, sI 13 (x0.Links.length : Int), sC 12 (cF 4 x0.Links Link.row), sA 11 3 3 1, sI 10 y1, sI 8 y1, sI 7 y2, sI 6 0, sA 3 3 3 0, sI 1 x1, sI 2 x2], [(9, (Link.row v5)), (3, (CV.frzRow (Net.row x0)))]⟩ kr ?_
            cases h5 : (v5.P == x2)
            · have H := bifF h5 H
              refine Tr.cond (b := false) kr (fun h => nomatch h) (fun _ => ?_)
              refine Tr.skip ?_
              exact Exists.intro (false, true, true, y2) (And.intro H (St.sub_of [31, 26, 25, 24, 23, 22, 9, 21, 20, 19, 18, 17, 14, 13, 12, 11, 10, 8, 7, 6, 3, 1, 2] [9, 3] kr))
            · have H := bifT h5 H
              refine Tr.cond (b := true) kr (fun _ => ?_) (fun h => nomatch h)
              refine Tr.at ?_
              refine LAt.runU tOk 3 kr ?_
              refine LAt.doneM 17179770830 520 kr ?_
              exact Exists.intro (true, true, true, (IntKind.wrap .i64 (y2 + 1))) (And.intro H (St.sub_of [31, 26, 25, 24, 23, 22, 9, 21, 20, 19, 18, 17, 14, 13, 12, 11, 10, 8, 7, 6, 3, 1, 2] [9, 3] kr))
        · rintro ⟨y6, y7, y8, y9⟩ H
          have H : (spec_l13Used_J3 n (fun v => spec_l13Used_L2 n mo4 x0 x1 x2 v.1 v.2) v5 x1 x2 y1 y6 y7 y8 y9) = some o4 := H
          unfold spec_l13Used_J3 at H
          show Tr _ _ _ _ _
          refine Tr.rs ?_
          refine LAt.runU tOk 5 kr ?_
          refine LAt.to ⟨47, 0, [sB 38 (v5.B == x1), sB 37 (v5.B == x1), sI 36 x1, sI 35 v5.B, sA 34 9 4 2, sB 31 y6, sB 26 y7, sB 25 y8, sI 24 x1, sI 23 v5.A, sA 22 9 4 0, sA 9 9 4 0, sV 21 (Link.row v5), (20, .fad ((Link.row v5))), sI 19 y1, sC 18 (cF 4 x0.Links Link.row), sA 17 3 3 1, sB 14 true, sI 13 (x0.Links.length : Int), sC 12 (cF 4 x0.Links Link.row), sA 11 3 3 1, sI 10 y1, sI 8 y1, sI 7 y9, sI 6 0, sA 3 3 3 0, sI 1 x1, sI 2 x2], [(9, (Link.row v5)), (3, (CV.frzRow (Net.row x0)))]⟩ kr ?_
          cases h2 : (v5.B == x1)
          · have H := bifF h2 H
            refine LAt.runU tOk 5 kr ?_
            refine LAt.doneM 17577287778254 520 kr ?_
            refine Tr.cond (b := false) kr (fun h => nomatch h) (fun _ => ?_)
            refine Tr.skip ?_
            show Tr _ _ _ _ _
            refine Tr.at ?_
            refine LAt.runU tOk 3 kr ?_
            refine LAt.doneM 17577287876558 520 kr ?_
            exact Exists.intro (mo4, ((IntKind.wrap .i64 (y1 + 1)), y9)) (And.intro H (And.intro (Nat.lt_succ_self mo4) (St.sub_of [8, 7, 6, 3, 1, 2] [3] kr)))
          · have H := bifT h2 H
            refine LAt.runU tOk 5 kr ?_
            refine LAt.doneM 17577287778254 520 kr ?_
            refine Tr.to ⟨47, 0, [sB 43 (v5.Q == x2), sB 42 (v5.Q == x2), sI 41 x2, sI 40 v5.Q, sA 39 9 4 3, sB 38 true, sB 37 true, sI 36 x1, sI 35 v5.B, sA 34 9 4 2, sB 31 y6, sB 26 y7, sB 25 y8, sI 24 x1, sI 23 v5.A, sA 22 9 4 0, sA 9 9 4 0, sV 21 (Link.row v5), (20, .fad ((Link.row v5))), sI 19 y1, sC 18 (cF 4 x0.Links Link.row), sA 17 3 3 1, sB 14 true, sI 13 (x0.Links.length : Int), sC 12 (cF 4 x0.Links Link.row), sA 11 3 3 1, sI 10 y1, sI 8 y1, sI 7 y9, sI 6 0, sA 3 3 3 0, sI 1 x1, sI 2 x2], [(9, (Link.row v5)), (3, (CV.frzRow (Net.row x0)))]⟩ kr ?_
            cases h3 : (v5.Q == x2)
            · have H := bifF h3 H
              refine Tr.cond (b := false) kr (fun h => nomatch h) (fun _ => ?_)
              refine Tr.skip ?_
              show Tr _ _ _ _ _
              refine Tr.at ?_
              refine LAt.runU tOk 3 kr ?_
              refine LAt.doneM 17577287876558 520 kr ?_
              exact Exists.intro (mo4, ((IntKind.wrap .i64 (y1 + 1)), y9)) (And.intro H (And.intro (Nat.lt_succ_self mo4) (St.sub_of [8, 7, 6, 3, 1, 2] [3] kr)))
            · have H := bifT h3 H
              refine Tr.cond (b := true) kr (fun _ => ?_) (fun h => nomatch h)
              refine Tr.at ?_
              refine LAt.runU tOk 3 kr ?_
              refine LAt.doneM 70353845911502 520 kr ?_
              show Tr _ _ _ _ _
              refine Tr.at ?_
              refine LAt.runU tOk 3 kr ?_
              refine LAt.doneM 70353846009806 520 kr ?_
              exact Exists.intro (mo4, ((IntKind.wrap .i64 (y1 + 1)), (IntKind.wrap .i64 (y9 + 1)))) (And.intro H (And.intro (Nat.lt_succ_self mo4) (St.sub_of [8, 7, 6, 3, 1, 2] [3] kr)))
  · rintro y3 H
    have H : (spec_l13Used_J1 n y3) = some r := H
    unfold spec_l13Used_J1 at H
    show Tr _ _ _ _ _
    refine Tr.rs ?_
    refine LAt.runU tOk 2 kr ?_
    refine LAt.doneM 64 0 kr ?_
    refine Tr.ret ?_
    have H := Option.some.inj H
    subst H
    exact Fin.of _ [(false, [cI y3])] kr rfl rfl

def spec_l13Bridges_J1 (n : Nat) (x0 : Net) : Option (Bool) :=
  ((spec_l1InF n (x0.Bridges.length : Int) 1 6).bind fun r2 => (some r2))
def spec_l13Bridges_J4 (n : Nat) (k : (Int → Option ((Unit) ⊕ (Bool)))) (y1 : Int) (y10 : Int) (y11 : (List Pt)) (y12 : (List Pt)) (y13 : (List Fent)) (y14 : (List Vrow)) (y15 : (List Int)) (y16 : Int) (y17 : Int) (y18 : Int) (y19 : Int) (y20 : Int) (y21 : Int) (y22 : ByteArray) (y23 : (List Pt)) (y24 : (List Fent)) (y25 : (List Vrow)) (y26 : (List Int)) (y27 : Int) (y28 : Int) (y29 : Int) (y30 : Int) (y31 : Int) (y32 : Int) (y33 : Int) : Option ((Unit) ⊕ (Bool)) :=
  (k (IntKind.wrap .i64 (y1 + 1)))
def spec_l13Bridges_L5 (n : Nat) : Nat → Net → Int → Int → Option ((Int × (List Pt) × (List Pt) × (List Fent) × (List Vrow) × (List Int) × Int × Int × Int × Int × Int × Int × ByteArray × (List Pt) × (List Fent) × (List Vrow) × (List Int) × Int × Int × Int × Int × Int × Int × Int) ⊕ (Bool))
  | 0, _, _, _ => none
  | mo34 + 1, x0, y1, y9 => ((idx x0.Bridges y1).bind fun v35 => (bif (decide (y9 < (v35.Ports.length : Int))) then ((idx x0.Bridges y1).bind fun v36 => ((idx v36.Ports y9).bind fun v37 => (bif v37.Has then ((spec_l13UsedF n x0 y1 y9).bind fun r38 => (bif (r38 == 0) then (some (Sum.inr false)) else (spec_l13Bridges_L5 n mo34 x0 y1 (IntKind.wrap .i64 (y9 + 1))))) else (spec_l13Bridges_L5 n mo34 x0 y1 (IntKind.wrap .i64 (y9 + 1)))))) else (some (Sum.inl ((v35.Ports.length : Int), v35.Ports, v35.Ports, v35.F, v35.V.Rows, v35.V.Pvid, v35.Ticks, v35.Parse, v35.Word, v35.Drops, v35.Vers, v35.Id, v35.Name, v35.Ports, v35.F, v35.V.Rows, v35.V.Pvid, v35.Ticks, v35.Parse, v35.Word, v35.Drops, v35.Vers, y9, y9)))))
def spec_l13Bridges_J3 (n : Nat) (k : (Int → Option ((Unit) ⊕ (Bool)))) (x0 : Net) (y1 : Int) (y7 : Int) (y8 : Int) : Option ((Unit) ⊕ (Bool)) :=
  ((spec_l13Bridges_L5 n n x0 y1 0).bind fun o => match o with | .inl (y10, y11, y12, y13, y14, y15, y16, y17, y18, y19, y20, y21, y22, y23, y24, y25, y26, y27, y28, y29, y30, y31, y32, y33) => (spec_l13Bridges_J4 n k y1 y10 y11 y12 y13 y14 y15 y16 y17 y18 y19 y20 y21 y22 y23 y24 y25 y26 y27 y28 y29 y30 y31 y32 y33) | .inr r => some (Sum.inr r))
def spec_l13Bridges_L6 (n : Nat) : Nat → Net → Int → Int → Option ((Int × Int) ⊕ (Bool))
  | 0, _, _, _ => none
  | mo39 + 1, x0, y1, y6 => (bif (decide (y6 < y1)) then ((idx x0.Bridges y6).bind fun v40 => ((idx x0.Bridges y1).bind fun v41 => (bif (v40.Id == v41.Id) then (some (Sum.inr false)) else (spec_l13Bridges_L6 n mo39 x0 y1 (IntKind.wrap .i64 (y6 + 1)))))) else (some (Sum.inl (y6, y6))))
def spec_l13Bridges_L2 (n : Nat) : Nat → Net → Int → Option ((Unit) ⊕ (Bool))
  | 0, _, _ => none
  | mo3 + 1, x0, y1 => (bif (decide (y1 < (x0.Bridges.length : Int))) then ((idx x0.Bridges y1).bind fun v4 => ((spec_BridgeOkF n v4).bind fun r5 => (bif (!r5) then (some (Sum.inr false)) else ((spec_l13Bridges_L6 n n x0 y1 0).bind fun o => match o with | .inl (y7, y8) => (spec_l13Bridges_J3 n (fun v => spec_l13Bridges_L2 n mo3 x0 v) x0 y1 y7 y8) | .inr r => some (Sum.inr r))))) else (some (Sum.inl ())))
def spec_l13BridgesF (n : Nat) (x0 : Net) : Option (Bool) :=
  ((spec_l13Bridges_L2 n n x0 0).bind fun o => match o with | .inl _ => (spec_l13Bridges_J1 n x0) | .inr r => some r)
/-- loop.example/g00326/spec.l13Bridges -/
theorem spec_l13Bridges (n : Nat) (x0 : Net) (r : Bool) (H : spec_l13BridgesF n x0 = some r) : LCall Try.prog 85 [.val true (CV.frzRow (Net.row x0))] [.val false [.lit (.bool r)]] [] := by
  refine LCall.of_body tOk Try.func85 rfl (c := (.seq (.region 0 (rg Try.f85 0) false) (.seq (.seq (.region 1 (rg Try.f85 1) false) (.block 0 (.loop (.seq (.seq (.region 2 (rg Try.f85 2) false) (.cond (.tmp 10) .skip (.exit 0))) (.seq (.block 1 (.seq (.seq (.region 4 (rg Try.f85 4) false) (.cond (.tmp 19) (.seq (.region 5 (rg Try.f85 5) false) .ret) .skip)) (.seq (.seq (.region 6 (rg Try.f85 6) false) (.block 2 (.loop (.seq (.seq (.region 7 (rg Try.f85 7) false) (.cond (.tmp 22) .skip (.exit 2))) (.seq (.block 3 (.seq (.region 9 (rg Try.f85 9) true) (.cond (.tmp 37) (.seq (.region 10 (rg Try.f85 10) false) .ret) .skip))) (.region 8 (rg Try.f85 8) false)))))) (.seq (.region 11 (rg Try.f85 11) false) (.block 4 (.loop (.seq (.seq (.region 12 (rg Try.f85 12) false) (.cond (.tmp 46) .skip (.exit 4))) (.seq (.block 5 (.seq (.region 14 (rg Try.f85 14) false) (.cond (.tmp 65) (.seq (.region 15 (rg Try.f85 15) false) .ret) .skip))) (.region 13 (rg Try.f85 13) false))))))))) (.region 3 (rg Try.f85 3) false)))))) (.seq (.region 16 (rg Try.f85 16) false) .ret)))) kr (Nat.le_of_ble_eq_true kr) 0 (rs := [.tmp 2]) rfl [] .nil [(false, [.lit (.bool r)])] [] [] fun cx => ?_
  show Tr _ _ _ ⟨70, 0, [sV 0 (CV.frzRow (Net.row x0))], []⟩ _
  unfold spec_l13BridgesF at H
  refine Tr.rs ?_
  refine LAt.runU tOk 2 kr ?_
  refine LAt.doneM 6 2 kr ?_
  refine Tr.seq ?_
  refine Tr.rs ?_
  refine LAt.runU tOk 1 kr ?_
  refine LAt.doneM 14 2 kr ?_
  obtain ⟨o3, eo3, Ho3⟩ := bind_some H
  clear H
  refine Tr.mid (ι := Unit) (fun v => ⟨70, 0, [sB 2 false, sA 1 1 3 0], [(1, (CV.frzRow (Net.row x0)))]⟩) (fun v => spec_l13Bridges_J1 n x0 = some r) ?_ ?_
  · refine Tr.block ?_
    refine Tr.loop (ι := Nat × (Int)) (fun v => ⟨70, 0, [sI 3 v.2, sB 2 false, sA 1 1 3 0], [(1, (CV.frzRow (Net.row x0)))]⟩) (fun v => spec_l13Bridges_L2 n v.1 x0 v.2 = some o3) (fun v => v.1) (n, 0) eo3 (St.sub_of [3, 2, 1] [1] kr) ?_
    rintro ⟨mo3, y1⟩ H
    have H : spec_l13Bridges_L2 n mo3 x0 y1 = some o3 := H
    obtain _ | mo3 := mo3
    · cases (show (none : Option _) = some o3 from H)
    · rw [spec_l13Bridges_L2] at H
      refine Tr.seq ?_
      refine Tr.rs ?_
      refine LAt.runU tOk 3 kr ?_
      refine LAt.lenE tOk (t := 30) (ty := 3) (e := 61) (x := (.tmp 8)) (d := 9) (g := none) ⟨(.slot 8), [], 0, false, 11, (CV.frzEs (x0.Bridges.map Bridge.row))⟩ (x0.Bridges).length _ kr kr kr kr kr (frz_len _ _) rfl ?_
      refine LAt.runU tOk 1 kr ?_
      refine LAt.doneM 1998 2 kr ?_
      refine Tr.to ⟨70, 0, [sB 10 (decide (y1 < (x0.Bridges.length : Int))), sI 9 (x0.Bridges.length : Int), sC 8 (cF 11 x0.Bridges Bridge.row), sA 7 1 3 0, sI 6 y1, sI 3 y1, sB 2 false, sA 1 1 3 0], [(1, (CV.frzRow (Net.row x0)))]⟩ kr ?_
      cases h1 : (decide (y1 < (x0.Bridges.length : Int)))
      · have H := bifF h1 H
        refine Tr.cond (b := false) kr (fun h => nomatch h) (fun _ => ?_)
        refine Tr.exit ?_
        refine And.intro (fun _ => ?_) (fun h => absurd rfl h)
        have H := Option.some.inj H
        subst H
        have H := Ho3
        dsimp only at H
        exact Exists.intro () (And.intro H (St.sub_of [2, 1] [1] kr))
      · have H := bifT h1 H
        refine Tr.cond (b := true) kr (fun _ => ?_) (fun h => nomatch h)
        refine Tr.skip ?_
        show Tr _ _ _ _ _
        refine Tr.seq ?_
        refine Tr.block ?_
        refine Tr.seq ?_
        refine Tr.rs ?_
        refine LAt.runU tOk 3 kr ?_
        obtain ⟨v4, ev4, H⟩ := bind_some H
        refine LAt.indexF tOk (t := 30) (ty := 0) (x := (.tmp 14)) (y := (.tmp 15)) (d := 16) (g := none) ⟨(.slot 14), [], 0, false, 11, (CV.frzEs (x0.Bridges.map Bridge.row))⟩ y1 (CV.frzRow (Bridge.row v4)) _ kr kr kr kr rfl (idx_isF ev4) rfl ?_
        refine LAt.runU tOk 1 kr ?_
        obtain ⟨r5, er5, H⟩ := bind_some H
        refine LAt.callU tOk [.rd] (f := 115) (av := #[.tmp 17]) (ats := #[61]) (d := (some 18)) (ty := 4) (g := none) kr kr kr [] (spec_BridgeOk n v4 r5 er5) kr (.inl rfl) ?_
        refine LAt.runU tOk 1 kr ?_
        refine LAt.doneM 1042382 2 kr ?_
        refine Tr.to ⟨70, 0, [sB 19 (!r5), sB 18 r5, sV 17 (CV.frzRow (Bridge.row v4)), (16, .fad ((CV.frzRow (Bridge.row v4)))), sI 15 y1, sC 14 (cF 11 x0.Bridges Bridge.row), sA 13 1 3 0, sB 10 true, sI 9 (x0.Bridges.length : Int), sC 8 (cF 11 x0.Bridges Bridge.row), sA 7 1 3 0, sI 6 y1, sI 3 y1, sB 2 false, sA 1 1 3 0], [(1, (CV.frzRow (Net.row x0)))]⟩ kr ?_
        cases h2 : (!r5)
        · have H := bifF h2 H
          refine Tr.cond (b := false) kr (fun h => nomatch h) (fun _ => ?_)
          refine Tr.skip ?_
          show Tr _ _ _ _ _
          refine Tr.seq ?_
          refine Tr.rs ?_
          refine LAt.runU tOk 1 kr ?_
          refine LAt.doneM 1042398 2 kr ?_
          obtain ⟨o39, eo39, Ho39⟩ := bind_some H
          clear H
          refine Tr.mid (ι := Int × Int) (fun v => ⟨70, 0, [sB 22 false, sI 21 y1, sI 20 v.1, sI 4 v.2, sB 19 false, sB 18 r5, sV 17 (CV.frzRow (Bridge.row v4)), (16, .fad ((CV.frzRow (Bridge.row v4)))), sI 15 y1, sC 14 (cF 11 x0.Bridges Bridge.row), sA 13 1 3 0, sB 10 true, sI 9 (x0.Bridges.length : Int), sC 8 (cF 11 x0.Bridges Bridge.row), sA 7 1 3 0, sI 6 y1, sI 3 y1, sB 2 false, sA 1 1 3 0], [(1, (CV.frzRow (Net.row x0)))]⟩) (fun v => spec_l13Bridges_J3 n (fun v => spec_l13Bridges_L2 n mo3 x0 v) x0 y1 v.1 v.2 = some o3) ?_ ?_
          · refine Tr.block ?_
            refine Tr.loop (ι := Nat × (Int)) (fun v => ⟨70, 0, [sI 4 v.2, sB 19 false, sB 18 r5, sV 17 (CV.frzRow (Bridge.row v4)), (16, .fad ((CV.frzRow (Bridge.row v4)))), sI 15 y1, sC 14 (cF 11 x0.Bridges Bridge.row), sA 13 1 3 0, sB 10 true, sI 9 (x0.Bridges.length : Int), sC 8 (cF 11 x0.Bridges Bridge.row), sA 7 1 3 0, sI 6 y1, sI 3 y1, sB 2 false, sA 1 1 3 0], [(1, (CV.frzRow (Net.row x0)))]⟩) (fun v => spec_l13Bridges_L6 n v.1 x0 y1 v.2 = some o39) (fun v => v.1) (n, 0) eo39 (St.sub_of [4, 19, 18, 17, 16, 15, 14, 13, 10, 9, 8, 7, 6, 3, 2, 1] [1] kr) ?_
            rintro ⟨mo39, y6⟩ H
            have H : spec_l13Bridges_L6 n mo39 x0 y1 y6 = some o39 := H
            obtain _ | mo39 := mo39
            · cases (show (none : Option _) = some o39 from H)
            · rw [spec_l13Bridges_L6] at H
              refine Tr.seq ?_
              refine Tr.rs ?_
              refine LAt.runU tOk 3 kr ?_
              refine LAt.doneM 8382430 2 kr ?_
              refine Tr.to ⟨70, 0, [sB 22 (decide (y6 < y1)), sI 21 y1, sI 20 y6, sI 4 y6, sB 19 false, sB 18 r5, sV 17 (CV.frzRow (Bridge.row v4)), (16, .fad ((CV.frzRow (Bridge.row v4)))), sI 15 y1, sC 14 (cF 11 x0.Bridges Bridge.row), sA 13 1 3 0, sB 10 true, sI 9 (x0.Bridges.length : Int), sC 8 (cF 11 x0.Bridges Bridge.row), sA 7 1 3 0, sI 6 y1, sI 3 y1, sB 2 false, sA 1 1 3 0], [(1, (CV.frzRow (Net.row x0)))]⟩ kr ?_
              cases h6 : (decide (y6 < y1))
              · have H := bifF h6 H
                refine Tr.cond (b := false) kr (fun h => nomatch h) (fun _ => ?_)
                refine Tr.exit ?_
                refine And.intro (fun _ => ?_) (fun h => absurd rfl h)
                have H := Option.some.inj H
                subst H
                have H := Ho39
                dsimp only at H
                exact Exists.intro (y6, y6) (And.intro H (St.sub_of [22, 21, 20, 4, 19, 18, 17, 16, 15, 14, 13, 10, 9, 8, 7, 6, 3, 2, 1] [1] kr))
              · have H := bifT h6 H
                refine Tr.cond (b := true) kr (fun _ => ?_) (fun h => nomatch h)
                refine Tr.skip ?_
                show Tr _ _ _ _ _
                refine Tr.seq ?_
                refine Tr.block ?_
                obtain ⟨v40, ev40, H⟩ := bind_some H
                obtain ⟨v41, ev41, H⟩ := bind_some H
                refine Tr.draws mixed 13 kr ⟨70, 0, [sB 37 (v40.Id == v41.Id), sI 36 v41.Id, (35, .fad ((CV.frzRow (Bridge.row v41)))), (34, .fad ((CV.frzRow (Bridge.row v41)))), sI 33 y1, sR 32 1 3 0 1 false, sA 31 1 3 0, sI 30 v40.Id, (29, .fad ((CV.frzRow (Bridge.row v40)))), (28, .fad ((CV.frzRow (Bridge.row v40)))), sI 27 y6, sR 26 1 3 0 1 false, sA 25 1 3 0, sB 22 true, sI 21 y1, sI 20 y6, sI 4 y6, sB 19 false, sB 18 r5, sV 17 (CV.frzRow (Bridge.row v4)), (16, .fad ((CV.frzRow (Bridge.row v4)))), sI 15 y1, sC 14 (cF 11 x0.Bridges Bridge.row), sA 13 1 3 0, sB 10 true, sI 9 (x0.Bridges.length : Int), sC 8 (cF 11 x0.Bridges Bridge.row), sA 7 1 3 0, sI 6 y1, sI 3 y1, sB 2 false, sA 1 1 3 0], [(1, (CV.frzRow (Net.row x0)))]⟩ (fun cx => ?_) ?_
                · refine AT.runU tOk [(0, []), (1, []), (2, [])] 10 [⟨[], 30, 25, 26⟩] [2, 1, 0] rfl kr (fun cx => ?_)
                  refine AT.indexF tOk 3 (t := 30) (ty := 0) (x := (.tmp 26)) (y := (.tmp 27)) (d := 28) (g := none) ⟨(.box 1), [(0, 0)], 0, false, 11, (CV.frzEs (x0.Bridges.map Bridge.row))⟩ y6 (CV.frzRow (Bridge.row v40)) _ kr kr kr kr kr kr rfl (idx_isF ev40) rfl (fun cx => ?_)
                  refine AT.runU tOk [(4, []), (5, []), (6, []), (7, []), (8, [])] 4 [⟨[], 30, 31, 32⟩, ⟨[], 30, 25, 26⟩] [8, 7, 6, 5, 4, 3, 2, 1, 0] rfl kr (fun cx => ?_)
                  refine AT.indexF tOk 9 (t := 30) (ty := 0) (x := (.tmp 32)) (y := (.tmp 33)) (d := 34) (g := none) ⟨(.box 1), [(0, 0)], 0, false, 11, (CV.frzEs (x0.Bridges.map Bridge.row))⟩ y1 (CV.frzRow (Bridge.row v41)) _ kr kr kr kr kr kr rfl (idx_isF ev41) rfl (fun cx => ?_)
                  refine AT.runU tOk [(10, []), (11, []), (12, [])] 0 [⟨[], 30, 31, 32⟩, ⟨[], 30, 25, 26⟩] [12, 11, 10, 9, 8, 7, 6, 5, 4, 3, 2, 1, 0] rfl kr (fun cx => ?_)
                  exact AT.done [37, 36, 35, 34, 33, 32, 31, 30, 29, 28, 27, 26, 25, 22, 21, 20, 4, 19, 18, 17, 16, 15, 14, 13, 10, 9, 8, 7, 6, 3, 2, 1] [1] _ kr kr rfl
                · refine Tr.to ⟨70, 0, [sB 37 (v40.Id == v41.Id), sI 36 v41.Id, (35, .fad ((CV.frzRow (Bridge.row v41)))), (34, .fad ((CV.frzRow (Bridge.row v41)))), sI 33 y1, sR 32 1 3 0 1 false, sA 31 1 3 0, sI 30 v40.Id, (29, .fad ((CV.frzRow (Bridge.row v40)))), (28, .fad ((CV.frzRow (Bridge.row v40)))), sI 27 y6, sR 26 1 3 0 1 false, sA 25 1 3 0, sB 22 true, sI 21 y1, sI 20 y6, sI 4 y6, sB 19 false, sB 18 r5, sV 17 (CV.frzRow (Bridge.row v4)), (16, .fad ((CV.frzRow (Bridge.row v4)))), sI 15 y1, sC 14 (cF 11 x0.Bridges Bridge.row), sA 13 1 3 0, sB 10 true, sI 9 (x0.Bridges.length : Int), sC 8 (cF 11 x0.Bridges Bridge.row), sA 7 1 3 0, sI 6 y1, sI 3 y1, sB 2 false, sA 1 1 3 0], [(1, (CV.frzRow (Net.row x0)))]⟩ kr ?_
                  cases h7 : (v40.Id == v41.Id)
                  · have H := bifF h7 H
                    refine Tr.cond (b := false) kr (fun h => nomatch h) (fun _ => ?_)
                    refine Tr.skip ?_
                    show Tr _ _ _ _ _
                    refine Tr.at ?_
                    refine LAt.runU tOk 3 kr ?_
                    refine LAt.doneM 274877900766 2 kr ?_
                    exact Exists.intro (mo39, (IntKind.wrap .i64 (y6 + 1))) (And.intro H (And.intro (Nat.lt_succ_self mo39) (St.sub_of [4, 19, 18, 17, 16, 15, 14, 13, 10, 9, 8, 7, 6, 3, 2, 1] [1] kr)))
                  · have H := bifT h7 H
                    refine Tr.cond (b := true) kr (fun _ => ?_) (fun h => nomatch h)
                    refine Tr.rs ?_
                    refine LAt.runU tOk 1 kr ?_
                    refine LAt.doneM 274852734942 2 kr ?_
                    refine Tr.ret ?_
                    have H := Option.some.inj H
                    subst H
                    have H := Ho39
                    dsimp only at H
                    have H := Option.some.inj H
                    subst H
                    have H := Ho3
                    dsimp only at H
                    have H := Option.some.inj H
                    subst H
                    exact Fin.of _ [(false, [cB false])] kr rfl rfl
          · rintro ⟨y7, y8⟩ H
            have H : (spec_l13Bridges_J3 n (fun v => spec_l13Bridges_L2 n mo3 x0 v) x0 y1 y7 y8) = some o3 := H
            unfold spec_l13Bridges_J3 at H
            show Tr _ _ _ _ _
            refine Tr.rs ?_
            refine LAt.runU tOk 1 kr ?_
            refine LAt.doneM 8382462 2 kr ?_
            obtain ⟨o34, eo34, Ho34⟩ := bind_some H
            clear H
            refine Tr.mid (ι := Int × (List Pt) × (List Pt) × (List Fent) × (List Vrow) × (List Int) × Int × Int × Int × Int × Int × Int × ByteArray × (List Pt) × (List Fent) × (List Vrow) × (List Int) × Int × Int × Int × Int × Int × Int × Int) (fun v => ⟨70, 0, [sB 46 false, sI 45 v.1, sC 44 (cF 8 v.2.1 Pt.row), (43, .fad ([cF 8 v.2.2.1 Pt.row, cF 5 v.2.2.2.1 Fent.row, cF 3 v.2.2.2.2.1 Vrow.row, cF 1 v.2.2.2.2.2.1 intRow, cI v.2.2.2.2.2.2.1, cI v.2.2.2.2.2.2.2.1, cI v.2.2.2.2.2.2.2.2.1, cI v.2.2.2.2.2.2.2.2.2.1, cI v.2.2.2.2.2.2.2.2.2.2.1])), (42, .fad ([cI v.2.2.2.2.2.2.2.2.2.2.2.1, cS v.2.2.2.2.2.2.2.2.2.2.2.2.1, cF 8 v.2.2.2.2.2.2.2.2.2.2.2.2.2.1 Pt.row, cF 5 v.2.2.2.2.2.2.2.2.2.2.2.2.2.2.1 Fent.row, cF 3 v.2.2.2.2.2.2.2.2.2.2.2.2.2.2.2.1 Vrow.row, cF 1 v.2.2.2.2.2.2.2.2.2.2.2.2.2.2.2.2.1 intRow, cI v.2.2.2.2.2.2.2.2.2.2.2.2.2.2.2.2.2.1, cI v.2.2.2.2.2.2.2.2.2.2.2.2.2.2.2.2.2.2.1, cI v.2.2.2.2.2.2.2.2.2.2.2.2.2.2.2.2.2.2.2.1, cI v.2.2.2.2.2.2.2.2.2.2.2.2.2.2.2.2.2.2.2.2.1, cI v.2.2.2.2.2.2.2.2.2.2.2.2.2.2.2.2.2.2.2.2.2.1])), sI 41 y1, sC 40 (cF 11 x0.Bridges Bridge.row), sA 39 1 3 0, sI 38 v.2.2.2.2.2.2.2.2.2.2.2.2.2.2.2.2.2.2.2.2.2.2.1, sI 5 v.2.2.2.2.2.2.2.2.2.2.2.2.2.2.2.2.2.2.2.2.2.2.2, sB 22 false, sI 21 y1, sI 20 y7, sI 4 y8, sB 19 false, sB 18 r5, sV 17 (CV.frzRow (Bridge.row v4)), (16, .fad ((CV.frzRow (Bridge.row v4)))), sI 15 y1, sC 14 (cF 11 x0.Bridges Bridge.row), sA 13 1 3 0, sB 10 true, sI 9 (x0.Bridges.length : Int), sC 8 (cF 11 x0.Bridges Bridge.row), sA 7 1 3 0, sI 6 y1, sI 3 y1, sB 2 false, sA 1 1 3 0], [(1, (CV.frzRow (Net.row x0)))]⟩) (fun v => spec_l13Bridges_J4 n (fun v => spec_l13Bridges_L2 n mo3 x0 v) y1 v.1 v.2.1 v.2.2.1 v.2.2.2.1 v.2.2.2.2.1 v.2.2.2.2.2.1 v.2.2.2.2.2.2.1 v.2.2.2.2.2.2.2.1 v.2.2.2.2.2.2.2.2.1 v.2.2.2.2.2.2.2.2.2.1 v.2.2.2.2.2.2.2.2.2.2.1 v.2.2.2.2.2.2.2.2.2.2.2.1 v.2.2.2.2.2.2.2.2.2.2.2.2.1 v.2.2.2.2.2.2.2.2.2.2.2.2.2.1 v.2.2.2.2.2.2.2.2.2.2.2.2.2.2.1 v.2.2.2.2.2.2.2.2.2.2.2.2.2.2.2.1 v.2.2.2.2.2.2.2.2.2.2.2.2.2.2.2.2.1 v.2.2.2.2.2.2.2.2.2.2.2.2.2.2.2.2.2.1 v.2.2.2.2.2.2.2.2.2.2.2.2.2.2.2.2.2.2.1 v.2.2.2.2.2.2.2.2.2.2.2.2.2.2.2.2.2.2.2.1 v.2.2.2.2.2.2.2.2.2.2.2.2.2.2.2.2.2.2.2.2.1 v.2.2.2.2.2.2.2.2.2.2.2.2.2.2.2.2.2.2.2.2.2.1 v.2.2.2.2.2.2.2.2.2.2.2.2.2.2.2.2.2.2.2.2.2.2.1 v.2.2.2.2.2.2.2.2.2.2.2.2.2.2.2.2.2.2.2.2.2.2.2 = some o3) ?_ ?_
            · refine Tr.block ?_
              refine Tr.loop (ι := Nat × (Int)) (fun v => ⟨70, 0, [sI 5 v.2, sB 22 false, sI 21 y1, sI 20 y7, sI 4 y8, sB 19 false, sB 18 r5, sV 17 (CV.frzRow (Bridge.row v4)), (16, .fad ((CV.frzRow (Bridge.row v4)))), sI 15 y1, sC 14 (cF 11 x0.Bridges Bridge.row), sA 13 1 3 0, sB 10 true, sI 9 (x0.Bridges.length : Int), sC 8 (cF 11 x0.Bridges Bridge.row), sA 7 1 3 0, sI 6 y1, sI 3 y1, sB 2 false, sA 1 1 3 0], [(1, (CV.frzRow (Net.row x0)))]⟩) (fun v => spec_l13Bridges_L5 n v.1 x0 y1 v.2 = some o34) (fun v => v.1) (n, 0) eo34 (St.sub_of [5, 22, 21, 20, 4, 19, 18, 17, 16, 15, 14, 13, 10, 9, 8, 7, 6, 3, 2, 1] [1] kr) ?_
              rintro ⟨mo34, y9⟩ H
              have H : spec_l13Bridges_L5 n mo34 x0 y1 y9 = some o34 := H
              obtain _ | mo34 := mo34
              · cases (show (none : Option _) = some o34 from H)
              · rw [spec_l13Bridges_L5] at H
                refine Tr.seq ?_
                refine Tr.rs ?_
                refine LAt.runU tOk 4 kr ?_
                obtain ⟨v35, ev35, H⟩ := bind_some H
                refine LAt.indexF tOk (t := 30) (ty := 0) (x := (.tmp 40)) (y := (.tmp 41)) (d := 42) (g := none) ⟨(.slot 40), [], 0, false, 11, (CV.frzEs (x0.Bridges.map Bridge.row))⟩ y1 (CV.frzRow (Bridge.row v35)) _ kr kr kr kr rfl (idx_isF ev35) rfl ?_
                refine LAt.runU tOk 2 kr ?_
                refine LAt.lenE tOk (t := 55) (ty := 3) (e := 114) (x := (.tmp 44)) (d := 45) (g := none) ⟨(.slot 44), [], 0, false, 8, (CV.frzEs (v35.Ports.map Pt.row))⟩ (v35.Ports).length _ kr kr kr kr kr (frz_len _ _) rfl ?_
                refine LAt.runU tOk 1 kr ?_
                refine LAt.doneM 140462618830846 2 kr ?_
                refine Tr.to ⟨70, 0, [sB 46 (decide (y9 < (v35.Ports.length : Int))), sI 45 (v35.Ports.length : Int), sC 44 (cF 8 v35.Ports Pt.row), (43, .fad (((CV.frzRow (Bridge.row v35)).drop 2))), (42, .fad ((CV.frzRow (Bridge.row v35)))), sI 41 y1, sC 40 (cF 11 x0.Bridges Bridge.row), sA 39 1 3 0, sI 38 y9, sI 5 y9, sB 22 false, sI 21 y1, sI 20 y7, sI 4 y8, sB 19 false, sB 18 r5, sV 17 (CV.frzRow (Bridge.row v4)), (16, .fad ((CV.frzRow (Bridge.row v4)))), sI 15 y1, sC 14 (cF 11 x0.Bridges Bridge.row), sA 13 1 3 0, sB 10 true, sI 9 (x0.Bridges.length : Int), sC 8 (cF 11 x0.Bridges Bridge.row), sA 7 1 3 0, sI 6 y1, sI 3 y1, sB 2 false, sA 1 1 3 0], [(1, (CV.frzRow (Net.row x0)))]⟩ kr ?_
                cases h3 : (decide (y9 < (v35.Ports.length : Int)))
                · have H := bifF h3 H
                  refine Tr.cond (b := false) kr (fun h => nomatch h) (fun _ => ?_)
                  refine Tr.exit ?_
                  refine And.intro (fun _ => ?_) (fun h => absurd rfl h)
                  have H := Option.some.inj H
                  subst H
                  have H := Ho34
                  dsimp only at H
                  exact Exists.intro ((v35.Ports.length : Int), v35.Ports, v35.Ports, v35.F, v35.V.Rows, v35.V.Pvid, v35.Ticks, v35.Parse, v35.Word, v35.Drops, v35.Vers, v35.Id, v35.Name, v35.Ports, v35.F, v35.V.Rows, v35.V.Pvid, v35.Ticks, v35.Parse, v35.Word, v35.Drops, v35.Vers, y9, y9) (And.intro H (St.sub_of [46, 45, 44, 43, 42, 41, 40, 39, 38, 5, 22, 21, 20, 4, 19, 18, 17, 16, 15, 14, 13, 10, 9, 8, 7, 6, 3, 2, 1] [1] kr))
                · have H := bifT h3 H
                  refine Tr.cond (b := true) kr (fun _ => ?_) (fun h => nomatch h)
                  refine Tr.skip ?_
                  show Tr _ _ _ _ _
                  refine Tr.seq ?_
                  refine Tr.block ?_
                  refine Tr.rs ?_
                  refine LAt.runU tOk 3 kr ?_
                  obtain ⟨v36, ev36, H⟩ := bind_some H
                  refine LAt.indexF tOk (t := 30) (ty := 0) (x := (.tmp 50)) (y := (.tmp 51)) (d := 52) (g := none) ⟨(.slot 50), [], 0, false, 11, (CV.frzEs (x0.Bridges.map Bridge.row))⟩ y1 (CV.frzRow (Bridge.row v36)) _ kr kr kr kr rfl (idx_isF ev36) rfl ?_
                  refine LAt.runU tOk 3 kr ?_
                  obtain ⟨v37, ev37, H⟩ := bind_some H
                  refine LAt.indexF tOk (t := 55) (ty := 0) (x := (.tmp 54)) (y := (.tmp 55)) (d := 56) (g := none) ⟨(.slot 54), [], 0, false, 8, (CV.frzEs (v36.Ports.map Pt.row))⟩ y9 (Pt.row v37) _ kr kr kr kr rfl (idx_isF ev37) rfl ?_
                  refine LAt.runU tOk 3 kr ?_
                  refine LAt.to ⟨70, 0, [sB 59 v37.Has, sB 58 v37.Has, (57, .fad (((Pt.row v37).drop 2))), (56, .fad ((Pt.row v37))), sI 55 y9, sC 54 (cF 8 v36.Ports Pt.row), (53, .fad (((CV.frzRow (Bridge.row v36)).drop 2))), (52, .fad ((CV.frzRow (Bridge.row v36)))), sI 51 y1, sC 50 (cF 11 x0.Bridges Bridge.row), sA 49 1 3 0, sB 46 true, sI 45 (v35.Ports.length : Int), sC 44 (cF 8 v35.Ports Pt.row), (43, .fad (((CV.frzRow (Bridge.row v35)).drop 2))), (42, .fad ((CV.frzRow (Bridge.row v35)))), sI 41 y1, sC 40 (cF 11 x0.Bridges Bridge.row), sA 39 1 3 0, sI 38 y9, sI 5 y9, sB 22 false, sI 21 y1, sI 20 y7, sI 4 y8, sB 19 false, sB 18 r5, sV 17 (CV.frzRow (Bridge.row v4)), (16, .fad ((CV.frzRow (Bridge.row v4)))), sI 15 y1, sC 14 (cF 11 x0.Bridges Bridge.row), sA 13 1 3 0, sB 10 true, sI 9 (x0.Bridges.length : Int), sC 8 (cF 11 x0.Bridges Bridge.row), sA 7 1 3 0, sI 6 y1, sI 3 y1, sB 2 false, sA 1 1 3 0], [(1, (CV.frzRow (Net.row x0)))]⟩ kr ?_
                  cases h4 : v37.Has
                  · have H := bifF h4 H
                    refine LAt.runU tOk 6 kr ?_
                    refine LAt.doneM 73786553807503615998 2 kr ?_
                    refine Tr.cond (b := false) kr (fun h => nomatch h) (fun _ => ?_)
                    refine Tr.skip ?_
                    show Tr _ _ _ _ _
                    refine Tr.at ?_
                    refine LAt.runU tOk 3 kr ?_
                    refine LAt.doneM 73786976019968681982 2 kr ?_
                    exact Exists.intro (mo34, (IntKind.wrap .i64 (y9 + 1))) (And.intro H (And.intro (Nat.lt_succ_self mo34) (St.sub_of [5, 22, 21, 20, 4, 19, 18, 17, 16, 15, 14, 13, 10, 9, 8, 7, 6, 3, 2, 1] [1] kr)))
                  · have H := bifT h4 H
                    refine LAt.runU tOk 3 kr ?_
                    obtain ⟨r38, er38, H⟩ := bind_some H
                    refine LAt.callU tOk [.rd, .rd, .rd] (f := 141) (av := #[.tmp 60, .tmp 61, .tmp 62]) (ats := #[34, 3, 3]) (d := (some 63)) (ty := 3) (g := (some (10, true))) kr kr kr [] (spec_l13Used n x0 y1 y9 r38 er38) kr (.inl rfl) ?_
                    refine LAt.runU tOk 2 kr ?_
                    refine LAt.doneM 73786553807503615998 2 kr ?_
                    refine Tr.to ⟨70, 0, [sB 65 (r38 == 0), sB 64 (r38 == 0), sI 63 r38, sI 62 y9, sI 61 y1, sV 60 (CV.frzRow (Net.row x0)), sB 59 true, sB 58 true, (57, .fad (((Pt.row v37).drop 2))), (56, .fad ((Pt.row v37))), sI 55 y9, sC 54 (cF 8 v36.Ports Pt.row), (53, .fad (((CV.frzRow (Bridge.row v36)).drop 2))), (52, .fad ((CV.frzRow (Bridge.row v36)))), sI 51 y1, sC 50 (cF 11 x0.Bridges Bridge.row), sA 49 1 3 0, sB 46 true, sI 45 (v35.Ports.length : Int), sC 44 (cF 8 v35.Ports Pt.row), (43, .fad (((CV.frzRow (Bridge.row v35)).drop 2))), (42, .fad ((CV.frzRow (Bridge.row v35)))), sI 41 y1, sC 40 (cF 11 x0.Bridges Bridge.row), sA 39 1 3 0, sI 38 y9, sI 5 y9, sB 22 false, sI 21 y1, sI 20 y7, sI 4 y8, sB 19 false, sB 18 r5, sV 17 (CV.frzRow (Bridge.row v4)), (16, .fad ((CV.frzRow (Bridge.row v4)))), sI 15 y1, sC 14 (cF 11 x0.Bridges Bridge.row), sA 13 1 3 0, sB 10 true, sI 9 (x0.Bridges.length : Int), sC 8 (cF 11 x0.Bridges Bridge.row), sA 7 1 3 0, sI 6 y1, sI 3 y1, sB 2 false, sA 1 1 3 0], [(1, (CV.frzRow (Net.row x0)))]⟩ kr ?_
                    cases h5 : (r38 == 0)
                    · have H := bifF h5 H
                      refine Tr.cond (b := false) kr (fun h => nomatch h) (fun _ => ?_)
                      refine Tr.skip ?_
                      show Tr _ _ _ _ _
                      refine Tr.at ?_
                      refine LAt.runU tOk 3 kr ?_
                      refine LAt.doneM 73786976019968681982 2 kr ?_
                      exact Exists.intro (mo34, (IntKind.wrap .i64 (y9 + 1))) (And.intro H (And.intro (Nat.lt_succ_self mo34) (St.sub_of [5, 22, 21, 20, 4, 19, 18, 17, 16, 15, 14, 13, 10, 9, 8, 7, 6, 3, 2, 1] [1] kr)))
                    · have H := bifT h5 H
                      refine Tr.cond (b := true) kr (fun _ => ?_) (fun h => nomatch h)
                      refine Tr.rs ?_
                      refine LAt.runU tOk 1 kr ?_
                      refine LAt.doneM 73786553807503615998 2 kr ?_
                      refine Tr.ret ?_
                      have H := Option.some.inj H
                      subst H
                      have H := Ho34
                      dsimp only at H
                      have H := Option.some.inj H
                      subst H
                      have H := Ho3
                      dsimp only at H
                      have H := Option.some.inj H
                      subst H
                      exact Fin.of _ [(false, [cB false])] kr rfl rfl
            · rintro ⟨y10, y11, y12, y13, y14, y15, y16, y17, y18, y19, y20, y21, y22, y23, y24, y25, y26, y27, y28, y29, y30, y31, y32, y33⟩ H
              have H : (spec_l13Bridges_J4 n (fun v => spec_l13Bridges_L2 n mo3 x0 v) y1 y10 y11 y12 y13 y14 y15 y16 y17 y18 y19 y20 y21 y22 y23 y24 y25 y26 y27 y28 y29 y30 y31 y32 y33) = some o3 := H
              unfold spec_l13Bridges_J4 at H
              show Tr _ _ _ _ _
              refine Tr.at ?_
              refine LAt.runU tOk 3 kr ?_
              refine LAt.doneM 140462618836990 2 kr ?_
              exact Exists.intro (mo3, (IntKind.wrap .i64 (y1 + 1))) (And.intro H (And.intro (Nat.lt_succ_self mo3) (St.sub_of [3, 2, 1] [1] kr)))
        · have H := bifT h2 H
          refine Tr.cond (b := true) kr (fun _ => ?_) (fun h => nomatch h)
          refine Tr.rs ?_
          refine LAt.runU tOk 1 kr ?_
          refine LAt.doneM 1042382 2 kr ?_
          refine Tr.ret ?_
          have H := Option.some.inj H
          subst H
          have H := Ho3
          dsimp only at H
          have H := Option.some.inj H
          subst H
          exact Fin.of _ [(false, [cB false])] kr rfl rfl
  · rintro _ H
    have H : (spec_l13Bridges_J1 n x0) = some r := H
    unfold spec_l13Bridges_J1 at H
    show Tr _ _ _ _ _
    refine Tr.rs ?_
    refine LAt.runU tOk 2 kr ?_
    refine LAt.lenE tOk (t := 30) (ty := 3) (e := 61) (x := (.tmp 67)) (d := 68) (g := none) ⟨(.slot 67), [], 0, false, 11, (CV.frzEs (x0.Bridges.map Bridge.row))⟩ (x0.Bridges).length _ kr kr kr kr kr (frz_len _ _) rfl ?_
    obtain ⟨r2, er2, H⟩ := bind_some H
    refine LAt.callU tOk [.rd, .rd, .rd] (f := 65) (av := #[.tmp 68, .const (.int .i64 1), .const (.int .i64 6)]) (ats := #[3, 3, 3]) (d := (some 69)) (ty := 4) (g := none) kr kr kr [] (spec_l1In n (x0.Bridges.length : Int) 1 6 r2 er2) kr (.inl rfl) ?_
    refine LAt.runU tOk 1 kr ?_
    refine LAt.doneM 4 0 kr ?_
    refine Tr.ret ?_
    have H := Option.some.inj H
    subst H
    exact Fin.of _ [(false, [cB r2])] kr rfl rfl

def spec_l13EndF (n : Nat) (x0 : Net) (x1 : Int) (x2 : Int) : Option (Bool) :=
  ((spec_l1InF n x1 0 (IntKind.wrap .i64 ((x0.Bridges.length : Int) - 1))).bind fun r1 => (bif r1 then ((idx x0.Bridges x1).bind fun v2 => ((spec_l1InF n x2 0 (IntKind.wrap .i64 ((v2.Ports.length : Int) - 1))).bind fun r3 => (bif r3 then ((spec_l13UsedF n x0 x1 x2).bind fun r4 => (some (r4 == 1))) else (some false)))) else (some false)))
/-- loop.example/g00326/spec.l13End -/
theorem spec_l13End (n : Nat) (x0 : Net) (x1 : Int) (x2 : Int) (r : Bool) (H : spec_l13EndF n x0 x1 x2 = some r) : LCall Try.prog 86 [.val true (CV.frzRow (Net.row x0)), .val false [.lit (.int .i64 x1)], .val false [.lit (.int .i64 x2)]] [.val false [.lit (.bool r)]] [] := by
  refine LCall.of_body tOk Try.func86 rfl (c := (.seq (.region 0 (rg Try.f86 0) false) (.seq (.region 1 (rg Try.f86 1) false) .ret))) kr (Nat.le_of_ble_eq_true kr) 0 (rs := [.tmp 6]) rfl [] .nil [(false, [.lit (.bool r)])] [] [] fun cx => ?_
  show Tr _ _ _ ⟨32, 0, [sV 0 (CV.frzRow (Net.row x0)), sI 1 x1, sI 2 x2], []⟩ _
  unfold spec_l13EndF at H
  refine Tr.rs ?_
  refine LAt.runU tOk 2 kr ?_
  refine LAt.doneM 78 8 kr ?_
  refine Tr.rs ?_
  refine LAt.runU tOk 3 kr ?_
  refine LAt.lenE tOk (t := 30) (ty := 3) (e := 61) (x := (.tmp 9)) (d := 10) (g := none) ⟨(.slot 9), [], 0, false, 11, (CV.frzEs (x0.Bridges.map Bridge.row))⟩ (x0.Bridges).length _ kr kr kr kr kr (frz_len _ _) rfl ?_
  refine LAt.runU tOk 1 kr ?_
  obtain ⟨r1, er1, H⟩ := bind_some H
  refine LAt.callU tOk [.rd, .rd, .rd] (f := 65) (av := #[.tmp 7, .const (.int .i64 0), .tmp 11]) (ats := #[3, 3, 3]) (d := (some 12)) (ty := 4) (g := none) kr kr kr [] (spec_l1In n x1 0 (IntKind.wrap .i64 ((x0.Bridges.length : Int) - 1)) r1 er1) kr (.inl rfl) ?_
  refine LAt.runU tOk 1 kr ?_
  refine LAt.to ⟨32, 0, [sB 13 r1, sB 12 r1, sI 11 (IntKind.wrap .i64 ((x0.Bridges.length : Int) - 1)), sI 10 (x0.Bridges.length : Int), sC 9 (cF 11 x0.Bridges Bridge.row), sA 8 3 3 0, sI 7 x1, sB 6 false, sA 3 3 3 0, sI 1 x1, sI 2 x2], [(3, (CV.frzRow (Net.row x0)))]⟩ kr ?_
  cases h1 : r1
  · have H := bifF h1 H
    refine LAt.runU tOk 19 kr ?_
    refine LAt.doneM 64 0 kr ?_
    refine Tr.ret ?_
    have H := Option.some.inj H
    subst H
    exact Fin.of _ [(false, [cB false])] kr rfl rfl
  · have H := bifT h1 H
    refine LAt.runU tOk 4 kr ?_
    obtain ⟨v2, ev2, H⟩ := bind_some H
    refine LAt.indexF tOk (t := 30) (ty := 0) (x := (.tmp 16)) (y := (.tmp 17)) (d := 18) (g := (some (6, true))) ⟨(.slot 16), [], 0, false, 11, (CV.frzEs (x0.Bridges.map Bridge.row))⟩ x1 (CV.frzRow (Bridge.row v2)) _ kr kr kr kr rfl (idx_isF ev2) rfl ?_
    refine LAt.runU tOk 2 kr ?_
    refine LAt.lenE tOk (t := 55) (ty := 3) (e := 114) (x := (.tmp 20)) (d := 21) (g := (some (6, true))) ⟨(.slot 20), [], 0, false, 8, (CV.frzEs (v2.Ports.map Pt.row))⟩ (v2.Ports).length _ kr kr kr kr kr (frz_len _ _) rfl ?_
    refine LAt.runU tOk 1 kr ?_
    obtain ⟨r3, er3, H⟩ := bind_some H
    refine LAt.callU tOk [.rd, .rd, .rd] (f := 65) (av := #[.tmp 14, .const (.int .i64 0), .tmp 22]) (ats := #[3, 3, 3]) (d := (some 23)) (ty := 4) (g := (some (6, true))) kr kr kr [] (spec_l1In n x2 0 (IntKind.wrap .i64 ((v2.Ports.length : Int) - 1)) r3 er3) kr (.inl rfl) ?_
    refine LAt.runU tOk 2 kr ?_
    refine LAt.to ⟨32, 0, [sB 25 r3, sB 24 r3, sB 23 r3, sI 22 (IntKind.wrap .i64 ((v2.Ports.length : Int) - 1)), sI 21 (v2.Ports.length : Int), sC 20 (cF 8 v2.Ports Pt.row), (19, .fad (((CV.frzRow (Bridge.row v2)).drop 2))), (18, .fad ((CV.frzRow (Bridge.row v2)))), sI 17 x1, sC 16 (cF 11 x0.Bridges Bridge.row), sA 15 3 3 0, sI 14 x2, sB 13 true, sB 12 true, sI 11 (IntKind.wrap .i64 ((x0.Bridges.length : Int) - 1)), sI 10 (x0.Bridges.length : Int), sC 9 (cF 11 x0.Bridges Bridge.row), sA 8 3 3 0, sI 7 x1, sB 6 false, sA 3 3 3 0, sI 1 x1, sI 2 x2], [(3, (CV.frzRow (Net.row x0)))]⟩ kr ?_
    cases h2 : r3
    · have H := bifF h2 H
      refine LAt.runU tOk 7 kr ?_
      refine LAt.doneM 64 0 kr ?_
      refine Tr.ret ?_
      have H := Option.some.inj H
      subst H
      exact Fin.of _ [(false, [cB false])] kr rfl rfl
    · have H := bifT h2 H
      refine LAt.runU tOk 3 kr ?_
      obtain ⟨r4, er4, H⟩ := bind_some H
      refine LAt.callU tOk [.rd, .rd, .rd] (f := 141) (av := #[.tmp 26, .tmp 27, .tmp 28]) (ats := #[34, 3, 3]) (d := (some 29)) (ty := 3) (g := (some (18, true))) kr kr kr [] (spec_l13Used n x0 x1 x2 r4 er4) kr (.inl rfl) ?_
      refine LAt.runU tOk 3 kr ?_
      refine LAt.doneM 64 0 kr ?_
      refine Tr.ret ?_
      have H := Option.some.inj H
      subst H
      exact Fin.of _ [(false, [cB (r4 == 1)])] kr rfl rfl

def spec_NetOk_J2 (n : Nat) : Option (Bool) :=
  (some true)
def spec_NetOk_L3 (n : Nat) : Nat → Net → Int → Option ((Unit) ⊕ (Bool))
  | 0, _, _ => none
  | mo4 + 1, x0, y3 => (bif (decide (y3 < (x0.Said.length : Int))) then ((idx x0.Said y3).bind fun v5 => ((spec_l1InF n v5.Link 0 (IntKind.wrap .i64 ((x0.Links.length : Int) - 1))).bind fun r6 => (bif (!r6) then (some (Sum.inr false)) else ((idx x0.Said y3).bind fun v7 => ((spec_VecOkF n v7.V).bind fun r8 => (bif (!r8) then (some (Sum.inr false)) else (spec_NetOk_L3 n mo4 x0 (IntKind.wrap .i64 (y3 + 1))))))))) else (some (Sum.inl ())))
def spec_NetOk_J1 (n : Nat) (x0 : Net) : Option (Bool) :=
  ((spec_NetOk_L3 n n x0 0).bind fun o => match o with | .inl _ => (spec_NetOk_J2 n) | .inr r => some r)
def spec_NetOk_L4 (n : Nat) : Nat → Net → Int → Option ((Unit) ⊕ (Bool))
  | 0, _, _ => none
  | mo9 + 1, x0, y2 => (bif (decide (y2 < (x0.Links.length : Int))) then ((idx x0.Links y2).bind fun v10 => (bif (v10.A == v10.B) then (some (Sum.inr false)) else ((spec_l13EndF n x0 v10.A v10.P).bind fun r11 => (bif (!r11) then (some (Sum.inr false)) else ((spec_l13EndF n x0 v10.B v10.Q).bind fun r12 => (bif (!r12) then (some (Sum.inr false)) else ((idx x0.Bridges v10.A).bind fun v13 => ((idx v13.Ports v10.P).bind fun v14 => ((idx x0.Bridges v10.B).bind fun v15 => ((idx v15.Ports v10.Q).bind fun v16 => (bif (!(v14.Up == v16.Up)) then (some (Sum.inr false)) else (spec_NetOk_L4 n mo9 x0 (IntKind.wrap .i64 (y2 + 1)))))))))))))) else (some (Sum.inl ())))
def spec_NetOkF (n : Nat) (x0 : Net) : Option (Bool) :=
  ((spec_l13BridgesF n x0).bind fun r1 => (bif (!r1) then (some false) else (bif (decide ((x0.Links.length : Int) > 9)) then (some false) else (bif (decide ((x0.Said.length : Int) > 40)) then (some false) else ((spec_NetOk_L4 n n x0 0).bind fun o => match o with | .inl _ => (spec_NetOk_J1 n x0) | .inr r => some r)))))
/-- loop.example/g00326/spec.NetOk -/
theorem spec_NetOk (n : Nat) (x0 : Net) (r : Bool) (H : spec_NetOkF n x0 = some r) : LCall Try.prog 31 [.val true (CV.frzRow (Net.row x0))] [.val false [.lit (.bool r)]] [] := by
  refine LCall.of_body tOk Try.func31 rfl (c := (.seq (.region 0 (rg Try.f31 0) false) (.seq (.seq (.region 1 (rg Try.f31 1) false) (.cond (.tmp 20) (.seq (.region 2 (rg Try.f31 2) false) .ret) .skip)) (.seq (.seq (.region 3 (rg Try.f31 3) false) (.block 0 (.loop (.seq (.seq (.region 4 (rg Try.f31 4) false) (.cond (.tmp 25) .skip (.exit 0))) (.seq (.block 1 (.seq (.region 6 (rg Try.f31 6) false) (.seq (.region 7 (rg Try.f31 7) true) (.cond (.tmp 82) (.seq (.region 8 (rg Try.f31 8) false) .ret) .skip)))) (.region 5 (rg Try.f31 5) false)))))) (.seq (.seq (.region 9 (rg Try.f31 9) false) (.block 2 (.loop (.seq (.seq (.region 10 (rg Try.f31 10) false) (.cond (.tmp 87) .skip (.exit 2))) (.seq (.block 3 (.seq (.region 12 (rg Try.f31 12) true) (.cond (.tmp 111) (.seq (.region 13 (rg Try.f31 13) false) .ret) .skip))) (.region 11 (rg Try.f31 11) false)))))) (.seq (.region 14 (rg Try.f31 14) false) .ret)))))) kr (Nat.le_of_ble_eq_true kr) 0 (rs := [.tmp 2]) rfl [] .nil [(false, [.lit (.bool r)])] [] [] fun cx => ?_
  show Tr _ _ _ ⟨112, 0, [sV 0 (CV.frzRow (Net.row x0))], []⟩ _
  unfold spec_NetOkF at H
  refine Tr.rs ?_
  refine LAt.runU tOk 2 kr ?_
  refine LAt.doneM 6 2 kr ?_
  refine Tr.seq ?_
  refine Tr.rs ?_
  refine LAt.runU tOk 1 kr ?_
  obtain ⟨r1, er1, H⟩ := bind_some H
  refine LAt.callU tOk [.rd] (f := 85) (av := #[.tmp 6]) (ats := #[34]) (d := (some 7)) (ty := 4) (g := none) kr kr kr [] (spec_l13Bridges n x0 r1 er1) kr (.inl rfl) ?_
  refine LAt.runU tOk 2 kr ?_
  refine LAt.to ⟨112, 0, [sB 9 (!r1), sB 8 (!r1), sB 7 r1, sV 6 (CV.frzRow (Net.row x0)), sB 2 false, sA 1 1 3 0], [(1, (CV.frzRow (Net.row x0)))]⟩ kr ?_
  cases h1 : (!r1)
  · have H := bifF h1 H
    refine LAt.runU tOk 2 kr ?_
    refine LAt.lenE tOk (t := 31) (ty := 3) (e := 96) (x := (.tmp 11)) (d := 12) (g := (some (3, false))) ⟨(.slot 11), [], 0, false, 4, (CV.frzEs (x0.Links.map Link.row))⟩ (x0.Links).length _ kr kr kr kr kr (frz_len _ _) rfl ?_
    refine LAt.runU tOk 3 kr ?_
    refine LAt.to ⟨112, 0, [sB 15 (decide ((x0.Links.length : Int) > 9)), sB 14 (decide ((x0.Links.length : Int) > 9)), sB 13 (decide ((x0.Links.length : Int) > 9)), sI 12 (x0.Links.length : Int), sC 11 (cF 4 x0.Links Link.row), sA 10 1 3 1, sB 9 false, sB 8 false, sB 7 r1, sV 6 (CV.frzRow (Net.row x0)), sB 2 false, sA 1 1 3 0], [(1, (CV.frzRow (Net.row x0)))]⟩ kr ?_
    cases h2 : (decide ((x0.Links.length : Int) > 9))
    · have H := bifF h2 H
      refine LAt.runU tOk 2 kr ?_
      refine LAt.lenE tOk (t := 32) (ty := 3) (e := 116) (x := (.tmp 17)) (d := 18) (g := (some (9, false))) ⟨(.slot 17), [], 0, false, 7, (CV.frzEs (x0.Said.map Say.row))⟩ (x0.Said).length _ kr kr kr kr kr (frz_len _ _) rfl ?_
      refine LAt.runU tOk 2 kr ?_
      refine LAt.doneM 1048582 2 kr ?_
      refine Tr.to ⟨112, 0, [sB 20 (decide ((x0.Said.length : Int) > 40)), sB 2 false, sA 1 1 3 0], [(1, (CV.frzRow (Net.row x0)))]⟩ kr ?_
      cases h3 : (decide ((x0.Said.length : Int) > 40))
      · have H := bifF h3 H
        refine Tr.cond (b := false) kr (fun h => nomatch h) (fun _ => ?_)
        refine Tr.skip ?_
        show Tr _ _ _ _ _
        refine Tr.seq ?_
        refine Tr.rs ?_
        refine LAt.runU tOk 1 kr ?_
        refine LAt.doneM 14 2 kr ?_
        obtain ⟨o9, eo9, Ho9⟩ := bind_some H
        clear H
        refine Tr.mid (ι := Unit) (fun v => ⟨112, 0, [sB 2 false, sA 1 1 3 0], [(1, (CV.frzRow (Net.row x0)))]⟩) (fun v => spec_NetOk_J1 n x0 = some r) ?_ ?_
        · refine Tr.block ?_
          refine Tr.loop (ι := Nat × (Int)) (fun v => ⟨112, 0, [sI 3 v.2, sB 2 false, sA 1 1 3 0], [(1, (CV.frzRow (Net.row x0)))]⟩) (fun v => spec_NetOk_L4 n v.1 x0 v.2 = some o9) (fun v => v.1) (n, 0) eo9 (St.sub_of [3, 2, 1] [1] kr) ?_
          rintro ⟨mo9, y2⟩ H
          have H : spec_NetOk_L4 n mo9 x0 y2 = some o9 := H
          obtain _ | mo9 := mo9
          · cases (show (none : Option _) = some o9 from H)
          · rw [spec_NetOk_L4] at H
            refine Tr.seq ?_
            refine Tr.rs ?_
            refine LAt.runU tOk 3 kr ?_
            refine LAt.lenE tOk (t := 31) (ty := 3) (e := 96) (x := (.tmp 23)) (d := 24) (g := none) ⟨(.slot 23), [], 0, false, 4, (CV.frzEs (x0.Links.map Link.row))⟩ (x0.Links).length _ kr kr kr kr kr (frz_len _ _) rfl ?_
            refine LAt.runU tOk 1 kr ?_
            refine LAt.doneM 65011726 2 kr ?_
            refine Tr.to ⟨112, 0, [sB 25 (decide (y2 < (x0.Links.length : Int))), sI 24 (x0.Links.length : Int), sC 23 (cF 4 x0.Links Link.row), sA 22 1 3 1, sI 21 y2, sI 3 y2, sB 2 false, sA 1 1 3 0], [(1, (CV.frzRow (Net.row x0)))]⟩ kr ?_
            cases h7 : (decide (y2 < (x0.Links.length : Int)))
            · have H := bifF h7 H
              refine Tr.cond (b := false) kr (fun h => nomatch h) (fun _ => ?_)
              refine Tr.exit ?_
              refine And.intro (fun _ => ?_) (fun h => absurd rfl h)
              have H := Option.some.inj H
              subst H
              have H := Ho9
              dsimp only at H
              exact Exists.intro () (And.intro H (St.sub_of [2, 1] [1] kr))
            · have H := bifT h7 H
              refine Tr.cond (b := true) kr (fun _ => ?_) (fun h => nomatch h)
              refine Tr.skip ?_
              show Tr _ _ _ _ _
              refine Tr.seq ?_
              refine Tr.block ?_
              refine Tr.rs ?_
              refine LAt.runU tOk 3 kr ?_
              obtain ⟨v10, ev10, H⟩ := bind_some H
              refine LAt.indexF tOk (t := 31) (ty := 0) (x := (.tmp 29)) (y := (.tmp 30)) (d := 31) (g := none) ⟨(.slot 29), [], 0, false, 4, (CV.frzEs (x0.Links.map Link.row))⟩ y2 (Link.row v10) _ kr kr kr kr rfl (idx_isF ev10) rfl ?_
              refine LAt.runU tOk 3 kr ?_
              refine LAt.doneM 8386510878 18 kr ?_
              refine Tr.to ⟨112, 0, [sA 4 4 4 0, sV 32 (Link.row v10), (31, .fad ((Link.row v10))), sI 30 y2, sC 29 (cF 4 x0.Links Link.row), sA 28 1 3 1, sB 25 true, sI 24 (x0.Links.length : Int), sC 23 (cF 4 x0.Links Link.row), sA 22 1 3 1, sI 21 y2, sI 3 y2, sB 2 false, sA 1 1 3 0], [(4, (Link.row v10)), (1, (CV.frzRow (Net.row x0)))]⟩ kr ?_
              cases h8 : (v10.A == v10.B)
              · have H := bifF h8 H
                obtain ⟨r11, er11, H⟩ := bind_some H
                refine Tr.to ⟨112, 0, [sA 4 4 4 0, sV 32 (Link.row v10), (31, .fad ((Link.row v10))), sI 30 y2, sC 29 (cF 4 x0.Links Link.row), sA 28 1 3 1, sB 25 true, sI 24 (x0.Links.length : Int), sC 23 (cF 4 x0.Links Link.row), sA 22 1 3 1, sI 21 y2, sI 3 y2, sB 2 false, sA 1 1 3 0], [(4, (Link.row v10)), (1, (CV.frzRow (Net.row x0)))]⟩ kr ?_
                cases h9 : (!r11)
                · have H := bifF h9 H
                  obtain ⟨r12, er12, H⟩ := bind_some H
                  refine Tr.to ⟨112, 0, [sA 4 4 4 0, sV 32 (Link.row v10), (31, .fad ((Link.row v10))), sI 30 y2, sC 29 (cF 4 x0.Links Link.row), sA 28 1 3 1, sB 25 true, sI 24 (x0.Links.length : Int), sC 23 (cF 4 x0.Links Link.row), sA 22 1 3 1, sI 21 y2, sI 3 y2, sB 2 false, sA 1 1 3 0], [(4, (Link.row v10)), (1, (CV.frzRow (Net.row x0)))]⟩ kr ?_
                  cases h10 : (!r12)
                  · have H := bifF h10 H
                    obtain ⟨v13, ev13, H⟩ := bind_some H
                    obtain ⟨v14, ev14, H⟩ := bind_some H
                    obtain ⟨v15, ev15, H⟩ := bind_some H
                    obtain ⟨v16, ev16, H⟩ := bind_some H
                    refine Tr.draws mixed 50 kr ⟨112, 0, [sB 82 (!(v14.Up == v16.Up)), sB 81 (!(v14.Up == v16.Up)), sB 80 v16.Up, (79, .fad ((Pt.row v16))), (78, .fad ((Pt.row v16))), sI 77 v10.Q, sA 76 4 4 3, sC 75 (cF 8 v15.Ports Pt.row), (74, .fad (((CV.frzRow (Bridge.row v15)).drop 2))), (73, .fad ((CV.frzRow (Bridge.row v15)))), sI 72 v10.B, sA 71 4 4 2, sR 70 1 3 0 1 false, sA 69 1 3 0, sB 68 v14.Up, (67, .fad ((Pt.row v14))), (66, .fad ((Pt.row v14))), sI 65 v10.P, sA 64 4 4 1, sC 63 (cF 8 v13.Ports Pt.row), (62, .fad (((CV.frzRow (Bridge.row v13)).drop 2))), (61, .fad ((CV.frzRow (Bridge.row v13)))), sI 60 v10.A, sA 59 4 4 0, sR 58 1 3 0 1 false, sA 57 1 3 0, sB 56 false, sB 55 false, sB 54 false, sB 53 r12, sI 52 v10.Q, sA 51 4 4 3, sI 50 v10.B, sA 49 4 4 2, sR 48 1 3 0 3 true, sB 47 false, sB 46 false, sB 45 false, sB 44 r11, sI 43 v10.P, sA 42 4 4 1, sI 41 v10.A, sA 40 4 4 0, sR 39 1 3 0 3 true, sB 38 false, sB 37 false, sI 36 v10.B, sA 35 4 4 2, sI 34 v10.A, sA 33 4 4 0, sA 4 4 4 0, sV 32 (Link.row v10), (31, .fad ((Link.row v10))), sI 30 y2, sC 29 (cF 4 x0.Links Link.row), sA 28 1 3 1, sB 25 true, sI 24 (x0.Links.length : Int), sC 23 (cF 4 x0.Links Link.row), sA 22 1 3 1, sI 21 y2, sI 3 y2, sB 2 false, sA 1 1 3 0], [(4, (Link.row v10)), (1, (CV.frzRow (Net.row x0)))]⟩ (fun cx => ?_) ?_
                    · refine AT.runU tOk [(0, []), (1, [11, 20]), (2, []), (3, [11, 20]), (4, []), (5, [])] 44 [⟨[11, 20], 3, 35, 36⟩, ⟨[11, 20], 3, 33, 34⟩] [5, 4, 3, 2, 1, 0] rfl kr (fun cx => ?_)
                      refine AT.to ⟨112, 0, [sB 38 (v10.A == v10.B), sB 37 (v10.A == v10.B), sI 36 v10.B, sA 35 4 4 2, sI 34 v10.A, sA 33 4 4 0, sA 4 4 4 0, sV 32 (Link.row v10), (31, .fad ((Link.row v10))), sI 30 y2, sC 29 (cF 4 x0.Links Link.row), sA 28 1 3 1, sB 25 true, sI 24 (x0.Links.length : Int), sC 23 (cF 4 x0.Links Link.row), sA 22 1 3 1, sI 21 y2, sI 3 y2, sB 2 false, sA 1 1 3 0], [(4, (Link.row v10)), (1, (CV.frzRow (Net.row x0)))]⟩ kr ?_
                      rw [h8]
                      refine AT.runU tOk [(6, [11, 20]), (7, []), (8, [11, 20]), (9, []), (10, [11, 20])] 39 [⟨[11, 20], 3, 42, 43⟩, ⟨[11, 20], 3, 40, 41⟩, ⟨[11, 20], 34, 1, 39⟩, ⟨[11, 20], 3, 35, 36⟩, ⟨[11, 20], 3, 33, 34⟩] [10, 9, 8, 7, 6, 5, 4, 3, 2, 1, 0] rfl kr (fun cx => ?_)
                      refine AT.big1 tOk 11 kr kr ?_
                      refine LAt.callU tOk [.rd, .rd, .rd] (f := 86) (av := #[.tmp 39, .tmp 41, .tmp 43]) (ats := #[34, 3, 3]) (d := (some 44)) (ty := 4) (g := (some (5, false))) kr kr kr [] (spec_l13End n x0 v10.A v10.P r11 er11) kr (.inl rfl) ?_
                      refine LAt.fin kr (And.intro (And.intro kr kr) ?_)
                      refine AT.runU tOk [(12, []), (13, []), (14, [])] 35 [⟨[11, 20], 3, 42, 43⟩, ⟨[11, 20], 3, 40, 41⟩, ⟨[11, 20], 34, 1, 39⟩, ⟨[11, 20], 3, 35, 36⟩, ⟨[11, 20], 3, 33, 34⟩] [14, 13, 12, 11, 10, 9, 8, 7, 6, 5, 4, 3, 2, 1, 0] rfl kr (fun cx => ?_)
                      refine AT.to ⟨112, 0, [sB 47 (!r11), sB 46 (!r11), sB 45 (!r11), sB 44 r11, sI 43 v10.P, sA 42 4 4 1, sI 41 v10.A, sA 40 4 4 0, sR 39 1 3 0 3 true, sB 38 false, sB 37 false, sI 36 v10.B, sA 35 4 4 2, sI 34 v10.A, sA 33 4 4 0, sA 4 4 4 0, sV 32 (Link.row v10), (31, .fad ((Link.row v10))), sI 30 y2, sC 29 (cF 4 x0.Links Link.row), sA 28 1 3 1, sB 25 true, sI 24 (x0.Links.length : Int), sC 23 (cF 4 x0.Links Link.row), sA 22 1 3 1, sI 21 y2, sI 3 y2, sB 2 false, sA 1 1 3 0], [(4, (Link.row v10)), (1, (CV.frzRow (Net.row x0)))]⟩ kr ?_
                      rw [h9]
                      refine AT.runU tOk [(15, [20]), (16, []), (17, [20]), (18, []), (19, [20])] 30 [⟨[20], 3, 51, 52⟩, ⟨[20], 3, 49, 50⟩, ⟨[20], 34, 1, 48⟩, ⟨[11, 20], 3, 42, 43⟩, ⟨[11, 20], 3, 40, 41⟩, ⟨[11, 20], 34, 1, 39⟩, ⟨[11, 20], 3, 35, 36⟩, ⟨[11, 20], 3, 33, 34⟩] [19, 18, 17, 16, 15, 14, 13, 12, 11, 10, 9, 8, 7, 6, 5, 4, 3, 2, 1, 0] rfl kr (fun cx => ?_)
                      refine AT.big1 tOk 20 kr kr ?_
                      refine LAt.callU tOk [.rd, .rd, .rd] (f := 86) (av := #[.tmp 48, .tmp 50, .tmp 52]) (ats := #[34, 3, 3]) (d := (some 53)) (ty := 4) (g := (some (14, false))) kr kr kr [] (spec_l13End n x0 v10.B v10.Q r12 er12) kr (.inl rfl) ?_
                      refine LAt.fin kr (And.intro (And.intro kr kr) ?_)
                      refine AT.runU tOk [(21, []), (22, []), (23, [])] 26 [⟨[20], 3, 51, 52⟩, ⟨[20], 3, 49, 50⟩, ⟨[20], 34, 1, 48⟩, ⟨[11, 20], 3, 42, 43⟩, ⟨[11, 20], 3, 40, 41⟩, ⟨[11, 20], 34, 1, 39⟩, ⟨[11, 20], 3, 35, 36⟩, ⟨[11, 20], 3, 33, 34⟩] [23, 22, 21, 20, 19, 18, 17, 16, 15, 14, 13, 12, 11, 10, 9, 8, 7, 6, 5, 4, 3, 2, 1, 0] rfl kr (fun cx => ?_)
                      refine AT.to ⟨112, 0, [sB 56 (!r12), sB 55 (!r12), sB 54 (!r12), sB 53 r12, sI 52 v10.Q, sA 51 4 4 3, sI 50 v10.B, sA 49 4 4 2, sR 48 1 3 0 3 true, sB 47 false, sB 46 false, sB 45 false, sB 44 r11, sI 43 v10.P, sA 42 4 4 1, sI 41 v10.A, sA 40 4 4 0, sR 39 1 3 0 3 true, sB 38 false, sB 37 false, sI 36 v10.B, sA 35 4 4 2, sI 34 v10.A, sA 33 4 4 0, sA 4 4 4 0, sV 32 (Link.row v10), (31, .fad ((Link.row v10))), sI 30 y2, sC 29 (cF 4 x0.Links Link.row), sA 28 1 3 1, sB 25 true, sI 24 (x0.Links.length : Int), sC 23 (cF 4 x0.Links Link.row), sA 22 1 3 1, sI 21 y2, sI 3 y2, sB 2 false, sA 1 1 3 0], [(4, (Link.row v10)), (1, (CV.frzRow (Net.row x0)))]⟩ kr ?_
                      rw [h10]
                      refine AT.runU tOk [(24, []), (25, []), (26, []), (27, [])] 22 [⟨[], 3, 59, 60⟩, ⟨[], 30, 57, 58⟩, ⟨[20], 3, 51, 52⟩, ⟨[20], 3, 49, 50⟩, ⟨[20], 34, 1, 48⟩, ⟨[11, 20], 3, 42, 43⟩, ⟨[11, 20], 3, 40, 41⟩, ⟨[11, 20], 34, 1, 39⟩, ⟨[11, 20], 3, 35, 36⟩, ⟨[11, 20], 3, 33, 34⟩] [27, 26, 25, 24, 23, 22, 21, 20, 19, 18, 17, 16, 15, 14, 13, 12, 11, 10, 9, 8, 7, 6, 5, 4, 3, 2, 1, 0] rfl kr (fun cx => ?_)
                      refine AT.indexF tOk 28 (t := 30) (ty := 0) (x := (.tmp 58)) (y := (.tmp 60)) (d := 61) (g := (some (23, false))) ⟨(.box 1), [(0, 0)], 0, false, 11, (CV.frzEs (x0.Bridges.map Bridge.row))⟩ v10.A (CV.frzRow (Bridge.row v13)) _ kr kr kr kr kr kr rfl (idx_isF ev13) rfl (fun cx => ?_)
                      refine AT.runU tOk [(29, []), (30, []), (31, []), (32, [])] 17 [⟨[], 3, 64, 65⟩, ⟨[], 3, 59, 60⟩, ⟨[], 30, 57, 58⟩, ⟨[20], 3, 51, 52⟩, ⟨[20], 3, 49, 50⟩, ⟨[20], 34, 1, 48⟩, ⟨[11, 20], 3, 42, 43⟩, ⟨[11, 20], 3, 40, 41⟩, ⟨[11, 20], 34, 1, 39⟩, ⟨[11, 20], 3, 35, 36⟩, ⟨[11, 20], 3, 33, 34⟩] [32, 31, 30, 29, 28, 27, 26, 25, 24, 23, 22, 21, 20, 19, 18, 17, 16, 15, 14, 13, 12, 11, 10, 9, 8, 7, 6, 5, 4, 3, 2, 1, 0] rfl kr (fun cx => ?_)
                      refine AT.indexF tOk 33 (t := 55) (ty := 0) (x := (.tmp 63)) (y := (.tmp 65)) (d := 66) (g := (some (23, false))) ⟨(.slot 63), [], 0, false, 8, (CV.frzEs (v13.Ports.map Pt.row))⟩ v10.P (Pt.row v14) _ kr kr kr kr kr kr rfl (idx_isF ev14) rfl (fun cx => ?_)
                      refine AT.runU tOk [(34, []), (35, []), (36, []), (37, []), (38, []), (39, [])] 10 [⟨[], 3, 71, 72⟩, ⟨[], 30, 69, 70⟩, ⟨[], 3, 64, 65⟩, ⟨[], 3, 59, 60⟩, ⟨[], 30, 57, 58⟩, ⟨[20], 3, 51, 52⟩, ⟨[20], 3, 49, 50⟩, ⟨[20], 34, 1, 48⟩, ⟨[11, 20], 3, 42, 43⟩, ⟨[11, 20], 3, 40, 41⟩, ⟨[11, 20], 34, 1, 39⟩, ⟨[11, 20], 3, 35, 36⟩, ⟨[11, 20], 3, 33, 34⟩] [39, 38, 37, 36, 35, 34, 33, 32, 31, 30, 29, 28, 27, 26, 25, 24, 23, 22, 21, 20, 19, 18, 17, 16, 15, 14, 13, 12, 11, 10, 9, 8, 7, 6, 5, 4, 3, 2, 1, 0] rfl kr (fun cx => ?_)
                      refine AT.indexF tOk 40 (t := 30) (ty := 0) (x := (.tmp 70)) (y := (.tmp 72)) (d := 73) (g := (some (23, false))) ⟨(.box 1), [(0, 0)], 0, false, 11, (CV.frzEs (x0.Bridges.map Bridge.row))⟩ v10.B (CV.frzRow (Bridge.row v15)) _ kr kr kr kr kr kr rfl (idx_isF ev15) rfl (fun cx => ?_)
                      refine AT.runU tOk [(41, []), (42, []), (43, []), (44, [])] 5 [⟨[], 3, 76, 77⟩, ⟨[], 3, 71, 72⟩, ⟨[], 30, 69, 70⟩, ⟨[], 3, 64, 65⟩, ⟨[], 3, 59, 60⟩, ⟨[], 30, 57, 58⟩, ⟨[20], 3, 51, 52⟩, ⟨[20], 3, 49, 50⟩, ⟨[20], 34, 1, 48⟩, ⟨[11, 20], 3, 42, 43⟩, ⟨[11, 20], 3, 40, 41⟩, ⟨[11, 20], 34, 1, 39⟩, ⟨[11, 20], 3, 35, 36⟩, ⟨[11, 20], 3, 33, 34⟩] [44, 43, 42, 41, 40, 39, 38, 37, 36, 35, 34, 33, 32, 31, 30, 29, 28, 27, 26, 25, 24, 23, 22, 21, 20, 19, 18, 17, 16, 15, 14, 13, 12, 11, 10, 9, 8, 7, 6, 5, 4, 3, 2, 1, 0] rfl kr (fun cx => ?_)
                      refine AT.indexF tOk 45 (t := 55) (ty := 0) (x := (.tmp 75)) (y := (.tmp 77)) (d := 78) (g := (some (23, false))) ⟨(.slot 75), [], 0, false, 8, (CV.frzEs (v15.Ports.map Pt.row))⟩ v10.Q (Pt.row v16) _ kr kr kr kr kr kr rfl (idx_isF ev16) rfl (fun cx => ?_)
                      refine AT.runU tOk [(46, []), (47, []), (48, []), (49, [])] 0 [⟨[], 3, 76, 77⟩, ⟨[], 3, 71, 72⟩, ⟨[], 30, 69, 70⟩, ⟨[], 3, 64, 65⟩, ⟨[], 3, 59, 60⟩, ⟨[], 30, 57, 58⟩, ⟨[20], 3, 51, 52⟩, ⟨[20], 3, 49, 50⟩, ⟨[20], 34, 1, 48⟩, ⟨[11, 20], 3, 42, 43⟩, ⟨[11, 20], 3, 40, 41⟩, ⟨[11, 20], 34, 1, 39⟩, ⟨[11, 20], 3, 35, 36⟩, ⟨[11, 20], 3, 33, 34⟩] [49, 48, 47, 46, 45, 44, 43, 42, 41, 40, 39, 38, 37, 36, 35, 34, 33, 32, 31, 30, 29, 28, 27, 26, 25, 24, 23, 22, 21, 20, 19, 18, 17, 16, 15, 14, 13, 12, 11, 10, 9, 8, 7, 6, 5, 4, 3, 2, 1, 0] rfl kr (fun cx => ?_)
                      exact AT.done [82, 81, 80, 79, 78, 77, 76, 75, 74, 73, 72, 71, 70, 69, 68, 67, 66, 65, 64, 63, 62, 61, 60, 59, 58, 57, 56, 55, 54, 53, 52, 51, 50, 49, 48, 47, 46, 45, 44, 43, 42, 41, 40, 39, 38, 37, 36, 35, 34, 33, 4, 32, 31, 30, 29, 28, 25, 24, 23, 22, 21, 3, 2, 1] [4, 1] _ kr kr rfl
                    · refine Tr.to ⟨112, 0, [sB 82 (!(v14.Up == v16.Up)), sB 81 (!(v14.Up == v16.Up)), sB 80 v16.Up, (79, .fad ((Pt.row v16))), (78, .fad ((Pt.row v16))), sI 77 v10.Q, sA 76 4 4 3, sC 75 (cF 8 v15.Ports Pt.row), (74, .fad (((CV.frzRow (Bridge.row v15)).drop 2))), (73, .fad ((CV.frzRow (Bridge.row v15)))), sI 72 v10.B, sA 71 4 4 2, sR 70 1 3 0 1 false, sA 69 1 3 0, sB 68 v14.Up, (67, .fad ((Pt.row v14))), (66, .fad ((Pt.row v14))), sI 65 v10.P, sA 64 4 4 1, sC 63 (cF 8 v13.Ports Pt.row), (62, .fad (((CV.frzRow (Bridge.row v13)).drop 2))), (61, .fad ((CV.frzRow (Bridge.row v13)))), sI 60 v10.A, sA 59 4 4 0, sR 58 1 3 0 1 false, sA 57 1 3 0, sB 56 false, sB 55 false, sB 54 false, sB 53 r12, sI 52 v10.Q, sA 51 4 4 3, sI 50 v10.B, sA 49 4 4 2, sR 48 1 3 0 3 true, sB 47 false, sB 46 false, sB 45 false, sB 44 r11, sI 43 v10.P, sA 42 4 4 1, sI 41 v10.A, sA 40 4 4 0, sR 39 1 3 0 3 true, sB 38 false, sB 37 false, sI 36 v10.B, sA 35 4 4 2, sI 34 v10.A, sA 33 4 4 0, sA 4 4 4 0, sV 32 (Link.row v10), (31, .fad ((Link.row v10))), sI 30 y2, sC 29 (cF 4 x0.Links Link.row), sA 28 1 3 1, sB 25 true, sI 24 (x0.Links.length : Int), sC 23 (cF 4 x0.Links Link.row), sA 22 1 3 1, sI 21 y2, sI 3 y2, sB 2 false, sA 1 1 3 0], [(4, (Link.row v10)), (1, (CV.frzRow (Net.row x0)))]⟩ kr ?_
                      cases h11 : (!(v14.Up == v16.Up))
                      · have H := bifF h11 H
                        refine Tr.cond (b := false) kr (fun h => nomatch h) (fun _ => ?_)
                        refine Tr.skip ?_
                        show Tr _ _ _ _ _
                        refine Tr.at ?_
                        refine LAt.runU tOk 3 kr ?_
                        refine LAt.doneM 9671406556917033395552286 18 kr ?_
                        exact Exists.intro (mo9, (IntKind.wrap .i64 (y2 + 1))) (And.intro H (And.intro (Nat.lt_succ_self mo9) (St.sub_of [3, 2, 1] [1] kr)))
                      · have H := bifT h11 H
                        refine Tr.cond (b := true) kr (fun _ => ?_) (fun h => nomatch h)
                        refine Tr.rs ?_
                        refine LAt.runU tOk 1 kr ?_
                        refine LAt.doneM 9671406556917033194225694 18 kr ?_
                        refine Tr.ret ?_
                        have H := Option.some.inj H
                        subst H
                        have H := Ho9
                        dsimp only at H
                        have H := Option.some.inj H
                        subst H
                        exact Fin.of _ [(false, [cB false])] kr rfl rfl
                  · have H := bifT h10 H
                    refine Tr.draws mixed 50 kr ⟨112, 0, [sB 82 true, (81, .tup []), (80, .tup []), (79, .tup []), (78, .tup []), (77, .tup []), (76, .tup []), (75, .tup []), (74, .tup []), (73, .tup []), (72, .tup []), (71, .tup []), (70, .tup []), (69, .tup []), (68, .tup []), (67, .tup []), (66, .tup []), (65, .tup []), (64, .tup []), (63, .tup []), (62, .tup []), (61, .tup []), (60, .tup []), (59, .tup []), (58, .tup []), (57, .tup []), sB 56 true, sB 55 true, sB 54 true, sB 53 r12, sI 52 v10.Q, sA 51 4 4 3, sI 50 v10.B, sA 49 4 4 2, sR 48 1 3 0 3 true, sB 47 false, sB 46 false, sB 45 false, sB 44 r11, sI 43 v10.P, sA 42 4 4 1, sI 41 v10.A, sA 40 4 4 0, sR 39 1 3 0 3 true, sB 38 false, sB 37 false, sI 36 v10.B, sA 35 4 4 2, sI 34 v10.A, sA 33 4 4 0, sA 4 4 4 0, sV 32 (Link.row v10), (31, .fad ((Link.row v10))), sI 30 y2, sC 29 (cF 4 x0.Links Link.row), sA 28 1 3 1, sB 25 true, sI 24 (x0.Links.length : Int), sC 23 (cF 4 x0.Links Link.row), sA 22 1 3 1, sI 21 y2, sI 3 y2, sB 2 false, sA 1 1 3 0], [(4, (Link.row v10)), (1, (CV.frzRow (Net.row x0)))]⟩ (fun cx => ?_) ?_
                    · refine AT.runU tOk [(0, []), (1, [11, 20]), (2, []), (3, [11, 20]), (4, []), (5, [])] 44 [⟨[11, 20], 3, 35, 36⟩, ⟨[11, 20], 3, 33, 34⟩] [5, 4, 3, 2, 1, 0] rfl kr (fun cx => ?_)
                      refine AT.to ⟨112, 0, [sB 38 (v10.A == v10.B), sB 37 (v10.A == v10.B), sI 36 v10.B, sA 35 4 4 2, sI 34 v10.A, sA 33 4 4 0, sA 4 4 4 0, sV 32 (Link.row v10), (31, .fad ((Link.row v10))), sI 30 y2, sC 29 (cF 4 x0.Links Link.row), sA 28 1 3 1, sB 25 true, sI 24 (x0.Links.length : Int), sC 23 (cF 4 x0.Links Link.row), sA 22 1 3 1, sI 21 y2, sI 3 y2, sB 2 false, sA 1 1 3 0], [(4, (Link.row v10)), (1, (CV.frzRow (Net.row x0)))]⟩ kr ?_
                      rw [h8]
                      refine AT.runU tOk [(6, [11, 20]), (7, []), (8, [11, 20]), (9, []), (10, [11, 20])] 39 [⟨[11, 20], 3, 42, 43⟩, ⟨[11, 20], 3, 40, 41⟩, ⟨[11, 20], 34, 1, 39⟩, ⟨[11, 20], 3, 35, 36⟩, ⟨[11, 20], 3, 33, 34⟩] [10, 9, 8, 7, 6, 5, 4, 3, 2, 1, 0] rfl kr (fun cx => ?_)
                      refine AT.big1 tOk 11 kr kr ?_
                      refine LAt.callU tOk [.rd, .rd, .rd] (f := 86) (av := #[.tmp 39, .tmp 41, .tmp 43]) (ats := #[34, 3, 3]) (d := (some 44)) (ty := 4) (g := (some (5, false))) kr kr kr [] (spec_l13End n x0 v10.A v10.P r11 er11) kr (.inl rfl) ?_
                      refine LAt.fin kr (And.intro (And.intro kr kr) ?_)
                      refine AT.runU tOk [(12, []), (13, []), (14, [])] 35 [⟨[11, 20], 3, 42, 43⟩, ⟨[11, 20], 3, 40, 41⟩, ⟨[11, 20], 34, 1, 39⟩, ⟨[11, 20], 3, 35, 36⟩, ⟨[11, 20], 3, 33, 34⟩] [14, 13, 12, 11, 10, 9, 8, 7, 6, 5, 4, 3, 2, 1, 0] rfl kr (fun cx => ?_)
                      refine AT.to ⟨112, 0, [sB 47 (!r11), sB 46 (!r11), sB 45 (!r11), sB 44 r11, sI 43 v10.P, sA 42 4 4 1, sI 41 v10.A, sA 40 4 4 0, sR 39 1 3 0 3 true, sB 38 false, sB 37 false, sI 36 v10.B, sA 35 4 4 2, sI 34 v10.A, sA 33 4 4 0, sA 4 4 4 0, sV 32 (Link.row v10), (31, .fad ((Link.row v10))), sI 30 y2, sC 29 (cF 4 x0.Links Link.row), sA 28 1 3 1, sB 25 true, sI 24 (x0.Links.length : Int), sC 23 (cF 4 x0.Links Link.row), sA 22 1 3 1, sI 21 y2, sI 3 y2, sB 2 false, sA 1 1 3 0], [(4, (Link.row v10)), (1, (CV.frzRow (Net.row x0)))]⟩ kr ?_
                      rw [h9]
                      refine AT.runU tOk [(15, [20]), (16, []), (17, [20]), (18, []), (19, [20])] 30 [⟨[20], 3, 51, 52⟩, ⟨[20], 3, 49, 50⟩, ⟨[20], 34, 1, 48⟩, ⟨[11, 20], 3, 42, 43⟩, ⟨[11, 20], 3, 40, 41⟩, ⟨[11, 20], 34, 1, 39⟩, ⟨[11, 20], 3, 35, 36⟩, ⟨[11, 20], 3, 33, 34⟩] [19, 18, 17, 16, 15, 14, 13, 12, 11, 10, 9, 8, 7, 6, 5, 4, 3, 2, 1, 0] rfl kr (fun cx => ?_)
                      refine AT.big1 tOk 20 kr kr ?_
                      refine LAt.callU tOk [.rd, .rd, .rd] (f := 86) (av := #[.tmp 48, .tmp 50, .tmp 52]) (ats := #[34, 3, 3]) (d := (some 53)) (ty := 4) (g := (some (14, false))) kr kr kr [] (spec_l13End n x0 v10.B v10.Q r12 er12) kr (.inl rfl) ?_
                      refine LAt.fin kr (And.intro (And.intro kr kr) ?_)
                      refine AT.runU tOk [(21, []), (22, []), (23, [])] 26 [⟨[20], 3, 51, 52⟩, ⟨[20], 3, 49, 50⟩, ⟨[20], 34, 1, 48⟩, ⟨[11, 20], 3, 42, 43⟩, ⟨[11, 20], 3, 40, 41⟩, ⟨[11, 20], 34, 1, 39⟩, ⟨[11, 20], 3, 35, 36⟩, ⟨[11, 20], 3, 33, 34⟩] [23, 22, 21, 20, 19, 18, 17, 16, 15, 14, 13, 12, 11, 10, 9, 8, 7, 6, 5, 4, 3, 2, 1, 0] rfl kr (fun cx => ?_)
                      refine AT.to ⟨112, 0, [sB 56 (!r12), sB 55 (!r12), sB 54 (!r12), sB 53 r12, sI 52 v10.Q, sA 51 4 4 3, sI 50 v10.B, sA 49 4 4 2, sR 48 1 3 0 3 true, sB 47 false, sB 46 false, sB 45 false, sB 44 r11, sI 43 v10.P, sA 42 4 4 1, sI 41 v10.A, sA 40 4 4 0, sR 39 1 3 0 3 true, sB 38 false, sB 37 false, sI 36 v10.B, sA 35 4 4 2, sI 34 v10.A, sA 33 4 4 0, sA 4 4 4 0, sV 32 (Link.row v10), (31, .fad ((Link.row v10))), sI 30 y2, sC 29 (cF 4 x0.Links Link.row), sA 28 1 3 1, sB 25 true, sI 24 (x0.Links.length : Int), sC 23 (cF 4 x0.Links Link.row), sA 22 1 3 1, sI 21 y2, sI 3 y2, sB 2 false, sA 1 1 3 0], [(4, (Link.row v10)), (1, (CV.frzRow (Net.row x0)))]⟩ kr ?_
                      rw [h10]
                      refine AT.runU tOk [(24, []), (25, []), (26, []), (27, []), (28, []), (29, []), (30, []), (31, []), (32, []), (33, []), (34, []), (35, []), (36, []), (37, []), (38, []), (39, []), (40, []), (41, []), (42, []), (43, []), (44, []), (45, []), (46, []), (47, []), (48, []), (49, [])] 0 [⟨[20], 3, 51, 52⟩, ⟨[20], 3, 49, 50⟩, ⟨[20], 34, 1, 48⟩, ⟨[11, 20], 3, 42, 43⟩, ⟨[11, 20], 3, 40, 41⟩, ⟨[11, 20], 34, 1, 39⟩, ⟨[11, 20], 3, 35, 36⟩, ⟨[11, 20], 3, 33, 34⟩] [49, 48, 47, 46, 45, 44, 43, 42, 41, 40, 39, 38, 37, 36, 35, 34, 33, 32, 31, 30, 29, 28, 27, 26, 25, 24, 23, 22, 21, 20, 19, 18, 17, 16, 15, 14, 13, 12, 11, 10, 9, 8, 7, 6, 5, 4, 3, 2, 1, 0] rfl kr (fun cx => ?_)
                      exact AT.done [82, 81, 80, 79, 78, 77, 76, 75, 74, 73, 72, 71, 70, 69, 68, 67, 66, 65, 64, 63, 62, 61, 60, 59, 58, 57, 56, 55, 54, 53, 52, 51, 50, 49, 48, 47, 46, 45, 44, 43, 42, 41, 40, 39, 38, 37, 36, 35, 34, 33, 4, 32, 31, 30, 29, 28, 25, 24, 23, 22, 21, 3, 2, 1] [4, 1] _ kr kr rfl
                    · refine Tr.cond (b := true) kr (fun _ => ?_) (fun h => nomatch h)
                      refine Tr.rs ?_
                      refine LAt.runU tOk 1 kr ?_
                      refine LAt.doneM 9671406556917033194225694 18 kr ?_
                      refine Tr.ret ?_
                      have H := Option.some.inj H
                      subst H
                      have H := Ho9
                      dsimp only at H
                      have H := Option.some.inj H
                      subst H
                      exact Fin.of _ [(false, [cB false])] kr rfl rfl
                · have H := bifT h9 H
                  refine Tr.draws mixed 50 kr ⟨112, 0, [sB 82 true, (81, .tup []), (80, .tup []), (79, .tup []), (78, .tup []), (77, .tup []), (76, .tup []), (75, .tup []), (74, .tup []), (73, .tup []), (72, .tup []), (71, .tup []), (70, .tup []), (69, .tup []), (68, .tup []), (67, .tup []), (66, .tup []), (65, .tup []), (64, .tup []), (63, .tup []), (62, .tup []), (61, .tup []), (60, .tup []), (59, .tup []), (58, .tup []), (57, .tup []), sB 56 true, sB 55 true, (54, .tup []), (53, .tup []), (52, .tup []), (51, .tup []), (50, .tup []), (49, .tup []), (48, .tup []), sB 47 true, sB 46 true, sB 45 true, sB 44 r11, sI 43 v10.P, sA 42 4 4 1, sI 41 v10.A, sA 40 4 4 0, sR 39 1 3 0 3 true, sB 38 false, sB 37 false, sI 36 v10.B, sA 35 4 4 2, sI 34 v10.A, sA 33 4 4 0, sA 4 4 4 0, sV 32 (Link.row v10), (31, .fad ((Link.row v10))), sI 30 y2, sC 29 (cF 4 x0.Links Link.row), sA 28 1 3 1, sB 25 true, sI 24 (x0.Links.length : Int), sC 23 (cF 4 x0.Links Link.row), sA 22 1 3 1, sI 21 y2, sI 3 y2, sB 2 false, sA 1 1 3 0], [(4, (Link.row v10)), (1, (CV.frzRow (Net.row x0)))]⟩ (fun cx => ?_) ?_
                  · refine AT.runU tOk [(0, []), (1, [11]), (2, []), (3, [11]), (4, []), (5, [])] 44 [⟨[11], 3, 35, 36⟩, ⟨[11], 3, 33, 34⟩] [5, 4, 3, 2, 1, 0] rfl kr (fun cx => ?_)
                    refine AT.to ⟨112, 0, [sB 38 (v10.A == v10.B), sB 37 (v10.A == v10.B), sI 36 v10.B, sA 35 4 4 2, sI 34 v10.A, sA 33 4 4 0, sA 4 4 4 0, sV 32 (Link.row v10), (31, .fad ((Link.row v10))), sI 30 y2, sC 29 (cF 4 x0.Links Link.row), sA 28 1 3 1, sB 25 true, sI 24 (x0.Links.length : Int), sC 23 (cF 4 x0.Links Link.row), sA 22 1 3 1, sI 21 y2, sI 3 y2, sB 2 false, sA 1 1 3 0], [(4, (Link.row v10)), (1, (CV.frzRow (Net.row x0)))]⟩ kr ?_
                    rw [h8]
                    refine AT.runU tOk [(6, [11]), (7, []), (8, [11]), (9, []), (10, [11])] 39 [⟨[11], 3, 42, 43⟩, ⟨[11], 3, 40, 41⟩, ⟨[11], 34, 1, 39⟩, ⟨[11], 3, 35, 36⟩, ⟨[11], 3, 33, 34⟩] [10, 9, 8, 7, 6, 5, 4, 3, 2, 1, 0] rfl kr (fun cx => ?_)
                    refine AT.big1 tOk 11 kr kr ?_
                    refine LAt.callU tOk [.rd, .rd, .rd] (f := 86) (av := #[.tmp 39, .tmp 41, .tmp 43]) (ats := #[34, 3, 3]) (d := (some 44)) (ty := 4) (g := (some (5, false))) kr kr kr [] (spec_l13End n x0 v10.A v10.P r11 er11) kr (.inl rfl) ?_
                    refine LAt.fin kr (And.intro (And.intro kr kr) ?_)
                    refine AT.runU tOk [(12, []), (13, []), (14, [])] 35 [⟨[11], 3, 42, 43⟩, ⟨[11], 3, 40, 41⟩, ⟨[11], 34, 1, 39⟩, ⟨[11], 3, 35, 36⟩, ⟨[11], 3, 33, 34⟩] [14, 13, 12, 11, 10, 9, 8, 7, 6, 5, 4, 3, 2, 1, 0] rfl kr (fun cx => ?_)
                    refine AT.to ⟨112, 0, [sB 47 (!r11), sB 46 (!r11), sB 45 (!r11), sB 44 r11, sI 43 v10.P, sA 42 4 4 1, sI 41 v10.A, sA 40 4 4 0, sR 39 1 3 0 3 true, sB 38 false, sB 37 false, sI 36 v10.B, sA 35 4 4 2, sI 34 v10.A, sA 33 4 4 0, sA 4 4 4 0, sV 32 (Link.row v10), (31, .fad ((Link.row v10))), sI 30 y2, sC 29 (cF 4 x0.Links Link.row), sA 28 1 3 1, sB 25 true, sI 24 (x0.Links.length : Int), sC 23 (cF 4 x0.Links Link.row), sA 22 1 3 1, sI 21 y2, sI 3 y2, sB 2 false, sA 1 1 3 0], [(4, (Link.row v10)), (1, (CV.frzRow (Net.row x0)))]⟩ kr ?_
                    rw [h9]
                    refine AT.runU tOk [(15, []), (16, []), (17, []), (18, []), (19, []), (20, []), (21, []), (22, []), (23, []), (24, []), (25, []), (26, []), (27, []), (28, []), (29, []), (30, []), (31, []), (32, []), (33, []), (34, []), (35, []), (36, []), (37, []), (38, []), (39, []), (40, []), (41, []), (42, []), (43, []), (44, []), (45, []), (46, []), (47, []), (48, []), (49, [])] 0 [⟨[11], 3, 42, 43⟩, ⟨[11], 3, 40, 41⟩, ⟨[11], 34, 1, 39⟩, ⟨[11], 3, 35, 36⟩, ⟨[11], 3, 33, 34⟩] [49, 48, 47, 46, 45, 44, 43, 42, 41, 40, 39, 38, 37, 36, 35, 34, 33, 32, 31, 30, 29, 28, 27, 26, 25, 24, 23, 22, 21, 20, 19, 18, 17, 16, 15, 14, 13, 12, 11, 10, 9, 8, 7, 6, 5, 4, 3, 2, 1, 0] rfl kr (fun cx => ?_)
                    exact AT.done [82, 81, 80, 79, 78, 77, 76, 75, 74, 73, 72, 71, 70, 69, 68, 67, 66, 65, 64, 63, 62, 61, 60, 59, 58, 57, 56, 55, 54, 53, 52, 51, 50, 49, 48, 47, 46, 45, 44, 43, 42, 41, 40, 39, 38, 37, 36, 35, 34, 33, 4, 32, 31, 30, 29, 28, 25, 24, 23, 22, 21, 3, 2, 1] [4, 1] _ kr kr rfl
                  · refine Tr.cond (b := true) kr (fun _ => ?_) (fun h => nomatch h)
                    refine Tr.rs ?_
                    refine LAt.runU tOk 1 kr ?_
                    refine LAt.doneM 9671406556917033194225694 18 kr ?_
                    refine Tr.ret ?_
                    have H := Option.some.inj H
                    subst H
                    have H := Ho9
                    dsimp only at H
                    have H := Option.some.inj H
                    subst H
                    exact Fin.of _ [(false, [cB false])] kr rfl rfl
              · have H := bifT h8 H
                refine Tr.draws mixed 50 kr ⟨112, 0, [sB 82 true, (81, .tup []), (80, .tup []), (79, .tup []), (78, .tup []), (77, .tup []), (76, .tup []), (75, .tup []), (74, .tup []), (73, .tup []), (72, .tup []), (71, .tup []), (70, .tup []), (69, .tup []), (68, .tup []), (67, .tup []), (66, .tup []), (65, .tup []), (64, .tup []), (63, .tup []), (62, .tup []), (61, .tup []), (60, .tup []), (59, .tup []), (58, .tup []), (57, .tup []), sB 56 true, sB 55 true, (54, .tup []), (53, .tup []), (52, .tup []), (51, .tup []), (50, .tup []), (49, .tup []), (48, .tup []), sB 47 true, sB 46 true, (45, .tup []), (44, .tup []), (43, .tup []), (42, .tup []), (41, .tup []), (40, .tup []), (39, .tup []), sB 38 true, sB 37 true, sI 36 v10.B, sA 35 4 4 2, sI 34 v10.A, sA 33 4 4 0, sA 4 4 4 0, sV 32 (Link.row v10), (31, .fad ((Link.row v10))), sI 30 y2, sC 29 (cF 4 x0.Links Link.row), sA 28 1 3 1, sB 25 true, sI 24 (x0.Links.length : Int), sC 23 (cF 4 x0.Links Link.row), sA 22 1 3 1, sI 21 y2, sI 3 y2, sB 2 false, sA 1 1 3 0], [(4, (Link.row v10)), (1, (CV.frzRow (Net.row x0)))]⟩ (fun cx => ?_) ?_
                · refine AT.runU tOk [(0, []), (1, []), (2, []), (3, []), (4, []), (5, [])] 44 [⟨[], 3, 35, 36⟩, ⟨[], 3, 33, 34⟩] [5, 4, 3, 2, 1, 0] rfl kr (fun cx => ?_)
                  refine AT.to ⟨112, 0, [sB 38 (v10.A == v10.B), sB 37 (v10.A == v10.B), sI 36 v10.B, sA 35 4 4 2, sI 34 v10.A, sA 33 4 4 0, sA 4 4 4 0, sV 32 (Link.row v10), (31, .fad ((Link.row v10))), sI 30 y2, sC 29 (cF 4 x0.Links Link.row), sA 28 1 3 1, sB 25 true, sI 24 (x0.Links.length : Int), sC 23 (cF 4 x0.Links Link.row), sA 22 1 3 1, sI 21 y2, sI 3 y2, sB 2 false, sA 1 1 3 0], [(4, (Link.row v10)), (1, (CV.frzRow (Net.row x0)))]⟩ kr ?_
                  rw [h8]
                  refine AT.runU tOk [(6, []), (7, []), (8, []), (9, []), (10, []), (11, []), (12, []), (13, []), (14, []), (15, []), (16, []), (17, []), (18, []), (19, []), (20, []), (21, []), (22, []), (23, []), (24, []), (25, []), (26, []), (27, []), (28, []), (29, []), (30, []), (31, []), (32, []), (33, []), (34, []), (35, []), (36, []), (37, []), (38, []), (39, []), (40, []), (41, []), (42, []), (43, []), (44, []), (45, []), (46, []), (47, []), (48, []), (49, [])] 0 [⟨[], 3, 35, 36⟩, ⟨[], 3, 33, 34⟩] [49, 48, 47, 46, 45, 44, 43, 42, 41, 40, 39, 38, 37, 36, 35, 34, 33, 32, 31, 30, 29, 28, 27, 26, 25, 24, 23, 22, 21, 20, 19, 18, 17, 16, 15, 14, 13, 12, 11, 10, 9, 8, 7, 6, 5, 4, 3, 2, 1, 0] rfl kr (fun cx => ?_)
                  exact AT.done [82, 81, 80, 79, 78, 77, 76, 75, 74, 73, 72, 71, 70, 69, 68, 67, 66, 65, 64, 63, 62, 61, 60, 59, 58, 57, 56, 55, 54, 53, 52, 51, 50, 49, 48, 47, 46, 45, 44, 43, 42, 41, 40, 39, 38, 37, 36, 35, 34, 33, 4, 32, 31, 30, 29, 28, 25, 24, 23, 22, 21, 3, 2, 1] [4, 1] _ kr kr rfl
                · refine Tr.cond (b := true) kr (fun _ => ?_) (fun h => nomatch h)
                  refine Tr.rs ?_
                  refine LAt.runU tOk 1 kr ?_
                  refine LAt.doneM 9671406556917033194225694 18 kr ?_
                  refine Tr.ret ?_
                  have H := Option.some.inj H
                  subst H
                  have H := Ho9
                  dsimp only at H
                  have H := Option.some.inj H
                  subst H
                  exact Fin.of _ [(false, [cB false])] kr rfl rfl
        · rintro _ H
          have H : (spec_NetOk_J1 n x0) = some r := H
          unfold spec_NetOk_J1 at H
          show Tr _ _ _ _ _
          refine Tr.seq ?_
          refine Tr.rs ?_
          refine LAt.runU tOk 1 kr ?_
          refine LAt.doneM 38 2 kr ?_
          obtain ⟨o4, eo4, Ho4⟩ := bind_some H
          clear H
          refine Tr.mid (ι := Unit) (fun v => ⟨112, 0, [sB 2 false], []⟩) (fun v => spec_NetOk_J2 n = some r) ?_ ?_
          · refine Tr.block ?_
            refine Tr.loop (ι := Nat × (Int)) (fun v => ⟨112, 0, [sI 5 v.2, sB 2 false, sA 1 1 3 0], [(1, (CV.frzRow (Net.row x0)))]⟩) (fun v => spec_NetOk_L3 n v.1 x0 v.2 = some o4) (fun v => v.1) (n, 0) eo4 (St.sub_of [5, 2, 1] [1] kr) ?_
            rintro ⟨mo4, y3⟩ H
            have H : spec_NetOk_L3 n mo4 x0 y3 = some o4 := H
            obtain _ | mo4 := mo4
            · cases (show (none : Option _) = some o4 from H)
            · rw [spec_NetOk_L3] at H
              refine Tr.seq ?_
              refine Tr.rs ?_
              refine LAt.runU tOk 3 kr ?_
              refine LAt.lenE tOk (t := 32) (ty := 3) (e := 116) (x := (.tmp 85)) (d := 86) (g := none) ⟨(.slot 85), [], 0, false, 7, (CV.frzEs (x0.Said.map Say.row))⟩ (x0.Said).length _ kr kr kr kr kr (frz_len _ _) rfl ?_
              refine LAt.runU tOk 1 kr ?_
              refine LAt.doneM 299813603264428035327131686 2 kr ?_
              refine Tr.to ⟨112, 0, [sB 87 (decide (y3 < (x0.Said.length : Int))), sI 86 (x0.Said.length : Int), sC 85 (cF 7 x0.Said Say.row), sA 84 1 3 2, sI 83 y3, sI 5 y3, sB 2 false, sA 1 1 3 0], [(1, (CV.frzRow (Net.row x0)))]⟩ kr ?_
              cases h4 : (decide (y3 < (x0.Said.length : Int)))
              · have H := bifF h4 H
                refine Tr.cond (b := false) kr (fun h => nomatch h) (fun _ => ?_)
                refine Tr.exit ?_
                refine And.intro (fun _ => ?_) (fun h => absurd rfl h)
                have H := Option.some.inj H
                subst H
                have H := Ho4
                dsimp only at H
                exact Exists.intro () (And.intro H (St.sub_of [2] [] kr))
              · have H := bifT h4 H
                refine Tr.cond (b := true) kr (fun _ => ?_) (fun h => nomatch h)
                refine Tr.skip ?_
                show Tr _ _ _ _ _
                refine Tr.seq ?_
                refine Tr.block ?_
                obtain ⟨v5, ev5, H⟩ := bind_some H
                obtain ⟨r6, er6, H⟩ := bind_some H
                refine Tr.to ⟨112, 0, [sB 87 true, sI 86 (x0.Said.length : Int), sC 85 (cF 7 x0.Said Say.row), sA 84 1 3 2, sI 83 y3, sI 5 y3, sB 2 false, sA 1 1 3 0], [(1, (CV.frzRow (Net.row x0)))]⟩ kr ?_
                cases h5 : (!r6)
                · have H := bifF h5 H
                  obtain ⟨v7, ev7, H⟩ := bind_some H
                  obtain ⟨r8, er8, H⟩ := bind_some H
                  refine Tr.draws mixed 22 kr ⟨112, 0, [sB 111 (!r8), sB 110 (!r8), sB 109 r8, sV 108 ((Say.row v7).drop 2), (107, .fad (((Say.row v7).drop 2))), (106, .fad ((Say.row v7))), sI 105 y3, sR 104 1 3 2 1 false, sA 103 1 3 2, sB 102 false, sB 101 false, sB 100 r6, sI 99 (IntKind.wrap .i64 ((x0.Links.length : Int) - 1)), sI 98 (x0.Links.length : Int), sR 97 1 3 1 1 false, sA 96 1 3 1, sI 95 v5.Link, (94, .fad ((Say.row v5))), (93, .fad ((Say.row v5))), sI 92 y3, sR 91 1 3 2 1 false, sA 90 1 3 2, sB 87 true, sI 86 (x0.Said.length : Int), sC 85 (cF 7 x0.Said Say.row), sA 84 1 3 2, sI 83 y3, sI 5 y3, sB 2 false, sA 1 1 3 0], [(1, (CV.frzRow (Net.row x0)))]⟩ (fun cx => ?_) ?_
                  · refine AT.runU tOk [(0, []), (1, [10, 19]), (2, [])] 19 [⟨[10, 19], 32, 90, 91⟩] [2, 1, 0] rfl kr (fun cx => ?_)
                    refine AT.indexF tOk 3 (t := 32) (ty := 0) (x := (.tmp 91)) (y := (.tmp 92)) (d := 93) (g := none) ⟨(.box 1), [(0, 0)], 2, false, 7, (CV.frzEs (x0.Said.map Say.row))⟩ y3 (Say.row v5) _ kr kr kr kr kr kr rfl (idx_isF ev5) rfl (fun cx => ?_)
                    refine AT.runU tOk [(4, []), (5, []), (6, []), (7, [10, 19])] 14 [⟨[10, 19], 31, 96, 97⟩, ⟨[10, 19], 32, 90, 91⟩] [7, 6, 5, 4, 3, 2, 1, 0] rfl kr (fun cx => ?_)
                    refine AT.lenE tOk 8 (t := 31) (ty := 3) (e := 96) (x := (.tmp 97)) (d := 98) (g := none) ⟨(.box 1), [(0, 0)], 1, false, 4, (CV.frzEs (x0.Links.map Link.row))⟩ (x0.Links).length _ kr kr kr kr kr kr kr (frz_len _ _) rfl (fun cx => ?_)
                    refine AT.runU tOk [(9, [])] 12 [⟨[10, 19], 31, 96, 97⟩, ⟨[10, 19], 32, 90, 91⟩] [9, 8, 7, 6, 5, 4, 3, 2, 1, 0] rfl kr (fun cx => ?_)
                    refine AT.big1 tOk 10 kr kr ?_
                    refine LAt.callU tOk [.rd, .rd, .rd] (f := 65) (av := #[.tmp 95, .const (.int .i64 0), .tmp 99]) (ats := #[3, 3, 3]) (d := (some 100)) (ty := 4) (g := none) kr kr kr [] (spec_l1In n v5.Link 0 (IntKind.wrap .i64 ((x0.Links.length : Int) - 1)) r6 er6) kr (.inl rfl) ?_
                    refine LAt.fin kr (And.intro (And.intro kr kr) ?_)
                    refine AT.runU tOk [(11, []), (12, [])] 9 [⟨[10, 19], 31, 96, 97⟩, ⟨[10, 19], 32, 90, 91⟩] [12, 11, 10, 9, 8, 7, 6, 5, 4, 3, 2, 1, 0] rfl kr (fun cx => ?_)
                    refine AT.to ⟨112, 0, [sB 102 (!r6), sB 101 (!r6), sB 100 r6, sI 99 (IntKind.wrap .i64 ((x0.Links.length : Int) - 1)), sI 98 (x0.Links.length : Int), sR 97 1 3 1 1 false, sA 96 1 3 1, sI 95 v5.Link, (94, .fad ((Say.row v5))), (93, .fad ((Say.row v5))), sI 92 y3, sR 91 1 3 2 1 false, sA 90 1 3 2, sB 87 true, sI 86 (x0.Said.length : Int), sC 85 (cF 7 x0.Said Say.row), sA 84 1 3 2, sI 83 y3, sI 5 y3, sB 2 false, sA 1 1 3 0], [(1, (CV.frzRow (Net.row x0)))]⟩ kr ?_
                    rw [h5]
                    refine AT.runU tOk [(13, []), (14, [19]), (15, [])] 6 [⟨[19], 32, 103, 104⟩, ⟨[10, 19], 31, 96, 97⟩, ⟨[10, 19], 32, 90, 91⟩] [15, 14, 13, 12, 11, 10, 9, 8, 7, 6, 5, 4, 3, 2, 1, 0] rfl kr (fun cx => ?_)
                    refine AT.indexF tOk 16 (t := 32) (ty := 0) (x := (.tmp 104)) (y := (.tmp 105)) (d := 106) (g := (some (12, false))) ⟨(.box 1), [(0, 0)], 2, false, 7, (CV.frzEs (x0.Said.map Say.row))⟩ y3 (Say.row v7) _ kr kr kr kr kr kr rfl (idx_isF ev7) rfl (fun cx => ?_)
                    refine AT.runU tOk [(17, []), (18, [])] 3 [⟨[19], 32, 103, 104⟩, ⟨[10, 19], 31, 96, 97⟩, ⟨[10, 19], 32, 90, 91⟩] [18, 17, 16, 15, 14, 13, 12, 11, 10, 9, 8, 7, 6, 5, 4, 3, 2, 1, 0] rfl kr (fun cx => ?_)
                    refine AT.big1 tOk 19 kr kr ?_
                    refine LAt.callU tOk [.rd] (f := 87) (av := #[.tmp 108]) (ats := #[70]) (d := (some 109)) (ty := 4) (g := (some (12, false))) kr kr kr [] (spec_VecOk n v7.V r8 er8) kr (.inl rfl) ?_
                    refine LAt.fin kr (And.intro (And.intro kr kr) ?_)
                    refine AT.runU tOk [(20, []), (21, [])] 0 [⟨[19], 32, 103, 104⟩, ⟨[10, 19], 31, 96, 97⟩, ⟨[10, 19], 32, 90, 91⟩] [21, 20, 19, 18, 17, 16, 15, 14, 13, 12, 11, 10, 9, 8, 7, 6, 5, 4, 3, 2, 1, 0] rfl kr (fun cx => ?_)
                    exact AT.done [111, 110, 109, 108, 107, 106, 105, 104, 103, 102, 101, 100, 99, 98, 97, 96, 95, 94, 93, 92, 91, 90, 87, 86, 85, 84, 83, 5, 2, 1] [1] _ kr kr rfl
                  · refine Tr.to ⟨112, 0, [sB 111 (!r8), sB 110 (!r8), sB 109 r8, sV 108 ((Say.row v7).drop 2), (107, .fad (((Say.row v7).drop 2))), (106, .fad ((Say.row v7))), sI 105 y3, sR 104 1 3 2 1 false, sA 103 1 3 2, sB 102 false, sB 101 false, sB 100 r6, sI 99 (IntKind.wrap .i64 ((x0.Links.length : Int) - 1)), sI 98 (x0.Links.length : Int), sR 97 1 3 1 1 false, sA 96 1 3 1, sI 95 v5.Link, (94, .fad ((Say.row v5))), (93, .fad ((Say.row v5))), sI 92 y3, sR 91 1 3 2 1 false, sA 90 1 3 2, sB 87 true, sI 86 (x0.Said.length : Int), sC 85 (cF 7 x0.Said Say.row), sA 84 1 3 2, sI 83 y3, sI 5 y3, sB 2 false, sA 1 1 3 0], [(1, (CV.frzRow (Net.row x0)))]⟩ kr ?_
                    cases h6 : (!r8)
                    · have H := bifF h6 H
                      refine Tr.cond (b := false) kr (fun h => nomatch h) (fun _ => ?_)
                      refine Tr.skip ?_
                      show Tr _ _ _ _ _
                      refine Tr.at ?_
                      refine LAt.runU tOk 3 kr ?_
                      refine LAt.doneM 5192296848863421071613462931570726 2 kr ?_
                      exact Exists.intro (mo4, (IntKind.wrap .i64 (y3 + 1))) (And.intro H (And.intro (Nat.lt_succ_self mo4) (St.sub_of [5, 2, 1] [1] kr)))
                    · have H := bifT h6 H
                      refine Tr.cond (b := true) kr (fun _ => ?_) (fun h => nomatch h)
                      refine Tr.rs ?_
                      refine LAt.runU tOk 1 kr ?_
                      refine LAt.doneM 5192295920408391607578256757227558 2 kr ?_
                      refine Tr.ret ?_
                      have H := Option.some.inj H
                      subst H
                      have H := Ho4
                      dsimp only at H
                      have H := Option.some.inj H
                      subst H
                      exact Fin.of _ [(false, [cB false])] kr rfl rfl
                · have H := bifT h5 H
                  refine Tr.draws mixed 22 kr ⟨112, 0, [sB 111 true, (110, .tup []), (109, .tup []), (108, .tup []), (107, .tup []), (106, .tup []), (105, .tup []), (104, .tup []), (103, .tup []), sB 102 true, sB 101 true, sB 100 r6, sI 99 (IntKind.wrap .i64 ((x0.Links.length : Int) - 1)), sI 98 (x0.Links.length : Int), sR 97 1 3 1 1 false, sA 96 1 3 1, sI 95 v5.Link, (94, .fad ((Say.row v5))), (93, .fad ((Say.row v5))), sI 92 y3, sR 91 1 3 2 1 false, sA 90 1 3 2, sB 87 true, sI 86 (x0.Said.length : Int), sC 85 (cF 7 x0.Said Say.row), sA 84 1 3 2, sI 83 y3, sI 5 y3, sB 2 false, sA 1 1 3 0], [(1, (CV.frzRow (Net.row x0)))]⟩ (fun cx => ?_) ?_
                  · refine AT.runU tOk [(0, []), (1, [10]), (2, [])] 19 [⟨[10], 32, 90, 91⟩] [2, 1, 0] rfl kr (fun cx => ?_)
                    refine AT.indexF tOk 3 (t := 32) (ty := 0) (x := (.tmp 91)) (y := (.tmp 92)) (d := 93) (g := none) ⟨(.box 1), [(0, 0)], 2, false, 7, (CV.frzEs (x0.Said.map Say.row))⟩ y3 (Say.row v5) _ kr kr kr kr kr kr rfl (idx_isF ev5) rfl (fun cx => ?_)
                    refine AT.runU tOk [(4, []), (5, []), (6, []), (7, [10])] 14 [⟨[10], 31, 96, 97⟩, ⟨[10], 32, 90, 91⟩] [7, 6, 5, 4, 3, 2, 1, 0] rfl kr (fun cx => ?_)
                    refine AT.lenE tOk 8 (t := 31) (ty := 3) (e := 96) (x := (.tmp 97)) (d := 98) (g := none) ⟨(.box 1), [(0, 0)], 1, false, 4, (CV.frzEs (x0.Links.map Link.row))⟩ (x0.Links).length _ kr kr kr kr kr kr kr (frz_len _ _) rfl (fun cx => ?_)
                    refine AT.runU tOk [(9, [])] 12 [⟨[10], 31, 96, 97⟩, ⟨[10], 32, 90, 91⟩] [9, 8, 7, 6, 5, 4, 3, 2, 1, 0] rfl kr (fun cx => ?_)
                    refine AT.big1 tOk 10 kr kr ?_
                    refine LAt.callU tOk [.rd, .rd, .rd] (f := 65) (av := #[.tmp 95, .const (.int .i64 0), .tmp 99]) (ats := #[3, 3, 3]) (d := (some 100)) (ty := 4) (g := none) kr kr kr [] (spec_l1In n v5.Link 0 (IntKind.wrap .i64 ((x0.Links.length : Int) - 1)) r6 er6) kr (.inl rfl) ?_
                    refine LAt.fin kr (And.intro (And.intro kr kr) ?_)
                    refine AT.runU tOk [(11, []), (12, [])] 9 [⟨[10], 31, 96, 97⟩, ⟨[10], 32, 90, 91⟩] [12, 11, 10, 9, 8, 7, 6, 5, 4, 3, 2, 1, 0] rfl kr (fun cx => ?_)
                    refine AT.to ⟨112, 0, [sB 102 (!r6), sB 101 (!r6), sB 100 r6, sI 99 (IntKind.wrap .i64 ((x0.Links.length : Int) - 1)), sI 98 (x0.Links.length : Int), sR 97 1 3 1 1 false, sA 96 1 3 1, sI 95 v5.Link, (94, .fad ((Say.row v5))), (93, .fad ((Say.row v5))), sI 92 y3, sR 91 1 3 2 1 false, sA 90 1 3 2, sB 87 true, sI 86 (x0.Said.length : Int), sC 85 (cF 7 x0.Said Say.row), sA 84 1 3 2, sI 83 y3, sI 5 y3, sB 2 false, sA 1 1 3 0], [(1, (CV.frzRow (Net.row x0)))]⟩ kr ?_
                    rw [h5]
                    refine AT.runU tOk [(13, []), (14, []), (15, []), (16, []), (17, []), (18, []), (19, []), (20, []), (21, [])] 0 [⟨[10], 31, 96, 97⟩, ⟨[10], 32, 90, 91⟩] [21, 20, 19, 18, 17, 16, 15, 14, 13, 12, 11, 10, 9, 8, 7, 6, 5, 4, 3, 2, 1, 0] rfl kr (fun cx => ?_)
                    exact AT.done [111, 110, 109, 108, 107, 106, 105, 104, 103, 102, 101, 100, 99, 98, 97, 96, 95, 94, 93, 92, 91, 90, 87, 86, 85, 84, 83, 5, 2, 1] [1] _ kr kr rfl
                  · refine Tr.cond (b := true) kr (fun _ => ?_) (fun h => nomatch h)
                    refine Tr.rs ?_
                    refine LAt.runU tOk 1 kr ?_
                    refine LAt.doneM 5192295920408391607578256757227558 2 kr ?_
                    refine Tr.ret ?_
                    have H := Option.some.inj H
                    subst H
                    have H := Ho4
                    dsimp only at H
                    have H := Option.some.inj H
                    subst H
                    exact Fin.of _ [(false, [cB false])] kr rfl rfl
          · rintro _ H
            have H : (spec_NetOk_J2 n) = some r := H
            unfold spec_NetOk_J2 at H
            show Tr _ _ _ _ _
            refine Tr.rs ?_
            refine LAt.runU tOk 1 kr ?_
            refine LAt.doneM 4 0 kr ?_
            refine Tr.ret ?_
            have H := Option.some.inj H
            subst H
            exact Fin.of _ [(false, [cB true])] kr rfl rfl
      · have H := bifT h3 H
        refine Tr.cond (b := true) kr (fun _ => ?_) (fun h => nomatch h)
        refine Tr.rs ?_
        refine LAt.runU tOk 1 kr ?_
        refine LAt.doneM 6 2 kr ?_
        refine Tr.ret ?_
        have H := Option.some.inj H
        subst H
        exact Fin.of _ [(false, [cB false])] kr rfl rfl
    · have H := bifT h2 H
      refine LAt.runU tOk 5 kr ?_
      refine LAt.doneM 1048582 2 kr ?_
      refine Tr.cond (b := true) kr (fun _ => ?_) (fun h => nomatch h)
      refine Tr.rs ?_
      refine LAt.runU tOk 1 kr ?_
      refine LAt.doneM 6 2 kr ?_
      refine Tr.ret ?_
      have H := Option.some.inj H
      subst H
      exact Fin.of _ [(false, [cB false])] kr rfl rfl
  · have H := bifT h1 H
    refine LAt.runU tOk 11 kr ?_
    refine LAt.doneM 1048582 2 kr ?_
    refine Tr.cond (b := true) kr (fun _ => ?_) (fun h => nomatch h)
    refine Tr.rs ?_
    refine LAt.runU tOk 1 kr ?_
    refine LAt.doneM 6 2 kr ?_
    refine Tr.ret ?_
    have H := Option.some.inj H
    subst H
    exact Fin.of _ [(false, [cB false])] kr rfl rfl

def impl_inF (n : Nat) (x0 : Int) (x1 : Int) (x2 : Int) : Option (Bool) :=
  (bif (decide (x0 ≥ x1)) then (some (decide (x0 ≤ x2))) else (some false))
/-- loop.example/g00326/impl.in -/
theorem impl_in (n : Nat) (x0 : Int) (x1 : Int) (x2 : Int) (r : Bool) (H : impl_inF n x0 x1 x2 = some r) : LCall Try.prog 70 [.val false [.lit (.int .i64 x0)], .val false [.lit (.int .i64 x1)], .val false [.lit (.int .i64 x2)]] [.val false [.lit (.bool r)]] [] := by
  refine LCall.of_body tOk Try.func70 rfl (c := (.seq (.region 0 (rg Try.f70 0) false) (.seq (.region 1 (rg Try.f70 1) false) .ret))) kr (Nat.le_of_ble_eq_true kr) 0 (rs := [.tmp 6]) rfl [] .nil [(false, [.lit (.bool r)])] [] [] fun cx => ?_
  show Tr _ _ _ ⟨15, 0, [sI 0 x0, sI 1 x1, sI 2 x2], []⟩ _
  unfold impl_inF at H
  refine Tr.rs ?_
  refine LAt.runU tOk 1 kr ?_
  refine LAt.doneM 71 0 kr ?_
  refine Tr.rs ?_
  refine LAt.runU tOk 4 kr ?_
  refine LAt.to ⟨15, 0, [sB 10 (decide (x0 ≥ x1)), sB 9 (decide (x0 ≥ x1)), sI 8 x1, sI 7 x0, sB 6 false, sI 0 x0, sI 1 x1, sI 2 x2], []⟩ kr ?_
  cases h1 : (decide (x0 ≥ x1))
  · have H := bifF h1 H
    refine LAt.runU tOk 5 kr ?_
    refine LAt.doneM 64 0 kr ?_
    refine Tr.ret ?_
    have H := Option.some.inj H
    subst H
    exact Fin.of _ [(false, [cB false])] kr rfl rfl
  · have H := bifT h1 H
    refine LAt.runU tOk 5 kr ?_
    refine LAt.doneM 64 0 kr ?_
    refine Tr.ret ?_
    have H := Option.some.inj H
    subst H
    exact Fin.of _ [(false, [cB (decide (x0 ≤ x2))])] kr rfl rfl

def impl_VecOkF (n : Nat) (x0 : Vec) : Option (Bool) :=
  ((impl_inF n x0.Root 1 99).bind fun r1 => (bif r1 then ((impl_inF n x0.Cost 0 100000).bind fun r2 => (bif r2 then ((impl_inF n x0.Hops 0 10).bind fun r3 => (bif r3 then ((impl_inF n x0.Bridge 1 99).bind fun r4 => (bif r4 then ((impl_inF n x0.Port 0 7).bind fun r5 => (some r5)) else (some false))) else (some false))) else (some false))) else (some false)))
/-- loop.example/g00326/impl.VecOk -/
theorem impl_VecOk (n : Nat) (x0 : Vec) (r : Bool) (H : impl_VecOkF n x0 = some r) : LCall Try.prog 90 [.val true (CV.frzRow (Vec.row x0))] [.val false [.lit (.bool r)]] [] := by
  refine LCall.of_body tOk Try.func90 rfl (c := (.seq (.region 0 (rg Try.f90 0) false) (.seq (.region 1 (rg Try.f90 1) false) .ret))) kr (Nat.le_of_ble_eq_true kr) 0 (rs := [.tmp 2]) rfl [] .nil [(false, [.lit (.bool r)])] [] [] fun cx => ?_
  show Tr _ _ _ ⟨26, 0, [sV 0 (Vec.row x0)], []⟩ _
  unfold impl_VecOkF at H
  refine Tr.rs ?_
  refine LAt.runU tOk 2 kr ?_
  refine LAt.doneM 6 2 kr ?_
  refine Tr.rs ?_
  refine LAt.runU tOk 2 kr ?_
  obtain ⟨r1, er1, H⟩ := bind_some H
  refine LAt.callU tOk [.rd, .rd, .rd] (f := 70) (av := #[.tmp 4, .const (.int .i64 1), .const (.int .i64 99)]) (ats := #[3, 3, 3]) (d := (some 5)) (ty := 4) (g := none) kr kr kr [] (impl_in n x0.Root 1 99 r1 er1) kr (.inl rfl) ?_
  refine LAt.runU tOk 1 kr ?_
  refine LAt.to ⟨26, 0, [sB 6 r1, sB 5 r1, sI 4 x0.Root, sA 3 1 5 0, sB 2 false, sA 1 1 5 0], [(1, (Vec.row x0))]⟩ kr ?_
  cases h1 : r1
  · have H := bifF h1 H
    refine LAt.runU tOk 20 kr ?_
    refine LAt.doneM 4 0 kr ?_
    refine Tr.ret ?_
    have H := Option.some.inj H
    subst H
    exact Fin.of _ [(false, [cB false])] kr rfl rfl
  · have H := bifT h1 H
    refine LAt.runU tOk 2 kr ?_
    obtain ⟨r2, er2, H⟩ := bind_some H
    refine LAt.callU tOk [.rd, .rd, .rd] (f := 70) (av := #[.tmp 8, .const (.int .i64 0), .const (.int .i64 100000)]) (ats := #[3, 3, 3]) (d := (some 9)) (ty := 4) (g := (some (3, true))) kr kr kr [] (impl_in n x0.Cost 0 100000 r2 er2) kr (.inl rfl) ?_
    refine LAt.runU tOk 2 kr ?_
    refine LAt.to ⟨26, 0, [sB 11 r2, sB 10 r2, sB 9 r2, sI 8 x0.Cost, sA 7 1 5 1, sB 6 true, sB 5 true, sI 4 x0.Root, sA 3 1 5 0, sB 2 false, sA 1 1 5 0], [(1, (Vec.row x0))]⟩ kr ?_
    cases h2 : r2
    · have H := bifF h2 H
      refine LAt.runU tOk 15 kr ?_
      refine LAt.doneM 4 0 kr ?_
      refine Tr.ret ?_
      have H := Option.some.inj H
      subst H
      exact Fin.of _ [(false, [cB false])] kr rfl rfl
    · have H := bifT h2 H
      refine LAt.runU tOk 2 kr ?_
      obtain ⟨r3, er3, H⟩ := bind_some H
      refine LAt.callU tOk [.rd, .rd, .rd] (f := 70) (av := #[.tmp 13, .const (.int .i64 0), .const (.int .i64 10)]) (ats := #[3, 3, 3]) (d := (some 14)) (ty := 4) (g := (some (8, true))) kr kr kr [] (impl_in n x0.Hops 0 10 r3 er3) kr (.inl rfl) ?_
      refine LAt.runU tOk 2 kr ?_
      refine LAt.to ⟨26, 0, [sB 16 r3, sB 15 r3, sB 14 r3, sI 13 x0.Hops, sA 12 1 5 2, sB 11 true, sB 10 true, sB 9 true, sI 8 x0.Cost, sA 7 1 5 1, sB 6 true, sB 5 true, sI 4 x0.Root, sA 3 1 5 0, sB 2 false, sA 1 1 5 0], [(1, (Vec.row x0))]⟩ kr ?_
      cases h3 : r3
      · have H := bifF h3 H
        refine LAt.runU tOk 10 kr ?_
        refine LAt.doneM 4 0 kr ?_
        refine Tr.ret ?_
        have H := Option.some.inj H
        subst H
        exact Fin.of _ [(false, [cB false])] kr rfl rfl
      · have H := bifT h3 H
        refine LAt.runU tOk 2 kr ?_
        obtain ⟨r4, er4, H⟩ := bind_some H
        refine LAt.callU tOk [.rd, .rd, .rd] (f := 70) (av := #[.tmp 18, .const (.int .i64 1), .const (.int .i64 99)]) (ats := #[3, 3, 3]) (d := (some 19)) (ty := 4) (g := (some (13, true))) kr kr kr [] (impl_in n x0.Bridge 1 99 r4 er4) kr (.inl rfl) ?_
        refine LAt.runU tOk 2 kr ?_
        refine LAt.to ⟨26, 0, [sB 21 r4, sB 20 r4, sB 19 r4, sI 18 x0.Bridge, sA 17 1 5 3, sB 16 true, sB 15 true, sB 14 true, sI 13 x0.Hops, sA 12 1 5 2, sB 11 true, sB 10 true, sB 9 true, sI 8 x0.Cost, sA 7 1 5 1, sB 6 true, sB 5 true, sI 4 x0.Root, sA 3 1 5 0, sB 2 false, sA 1 1 5 0], [(1, (Vec.row x0))]⟩ kr ?_
        cases h4 : r4
        · have H := bifF h4 H
          refine LAt.runU tOk 5 kr ?_
          refine LAt.doneM 4 0 kr ?_
          refine Tr.ret ?_
          have H := Option.some.inj H
          subst H
          exact Fin.of _ [(false, [cB false])] kr rfl rfl
        · have H := bifT h4 H
          refine LAt.runU tOk 2 kr ?_
          obtain ⟨r5, er5, H⟩ := bind_some H
          refine LAt.callU tOk [.rd, .rd, .rd] (f := 70) (av := #[.tmp 23, .const (.int .i64 0), .const (.int .i64 7)]) (ats := #[3, 3, 3]) (d := (some 24)) (ty := 4) (g := (some (18, true))) kr kr kr [] (impl_in n x0.Port 0 7 r5 er5) kr (.inl rfl) ?_
          refine LAt.runU tOk 2 kr ?_
          refine LAt.doneM 4 0 kr ?_
          refine Tr.ret ?_
          have H := Option.some.inj H
          subst H
          exact Fin.of _ [(false, [cB r5])] kr rfl rfl

def impl_PtOkF (n : Nat) (x0 : Pt) : Option (Bool) :=
  ((impl_inF n x0.Cost 1 1000).bind fun r1 => (bif (!r1) then (some false) else (bif x0.Has then (bif (!x0.Up) then (some false) else ((impl_VecOkF n x0.Heard).bind fun r2 => (some r2))) else (some ((x0.Heard.Root == 0) && ((x0.Heard.Cost == 0) && ((x0.Heard.Hops == 0) && ((x0.Heard.Bridge == 0) && ((x0.Heard.Port == 0) && true)))))))))
/-- loop.example/g00326/impl.PtOk -/
theorem impl_PtOk (n : Nat) (x0 : Pt) (r : Bool) (H : impl_PtOkF n x0 = some r) : LCall Try.prog 142 [.val true (CV.frzRow (Pt.row x0))] [.val false [.lit (.bool r)]] [] := by
  refine LCall.of_body tOk Try.func142 rfl (c := (.seq (.region 0 (rg Try.f142 0) false) (.seq (.seq (.region 1 (rg Try.f142 1) false) (.cond (.tmp 15) (.seq (.region 2 (rg Try.f142 2) false) .ret) .skip)) (.seq (.seq (.region 3 (rg Try.f142 3) false) (.cond (.tmp 17) (.seq (.region 4 (rg Try.f142 4) false) .ret) .skip)) (.seq (.region 5 (rg Try.f142 5) false) .ret))))) kr (Nat.le_of_ble_eq_true kr) 0 (rs := [.tmp 2]) rfl [] .nil [(false, [.lit (.bool r)])] [] [] fun cx => ?_
  show Tr _ _ _ ⟨25, 0, [sV 0 (Pt.row x0)], []⟩ _
  unfold impl_PtOkF at H
  refine Tr.rs ?_
  refine LAt.runU tOk 2 kr ?_
  refine LAt.doneM 6 2 kr ?_
  refine Tr.seq ?_
  refine Tr.rs ?_
  refine LAt.runU tOk 2 kr ?_
  obtain ⟨r1, er1, H⟩ := bind_some H
  refine LAt.callU tOk [.rd, .rd, .rd] (f := 70) (av := #[.tmp 4, .const (.int .i64 1), .const (.int .i64 1000)]) (ats := #[3, 3, 3]) (d := (some 5)) (ty := 4) (g := none) kr kr kr [] (impl_in n x0.Cost 1 1000 r1 er1) kr (.inl rfl) ?_
  refine LAt.runU tOk 2 kr ?_
  refine LAt.to ⟨25, 0, [sB 7 (!r1), sB 6 (!r1), sB 5 r1, sI 4 x0.Cost, sA 3 1 8 1, sB 2 false, sA 1 1 8 0], [(1, (Pt.row x0))]⟩ kr ?_
  cases h1 : (!r1)
  · have H := bifF h1 H
    refine LAt.runU tOk 3 kr ?_
    refine LAt.to ⟨25, 0, [sB 10 x0.Has, sB 9 x0.Has, sA 8 1 8 2, sB 7 false, sB 6 false, sB 5 r1, sI 4 x0.Cost, sA 3 1 8 1, sB 2 false, sA 1 1 8 0], [(1, (Pt.row x0))]⟩ kr ?_
    cases h2 : x0.Has
    · have H := bifF h2 H
      refine LAt.runU tOk 5 kr ?_
      refine LAt.doneM 32774 2 kr ?_
      refine Tr.cond (b := false) kr (fun h => nomatch h) (fun _ => ?_)
      refine Tr.skip ?_
      show Tr _ _ _ _ _
      refine Tr.seq ?_
      refine Tr.rs ?_
      refine LAt.runU tOk 2 kr ?_
      refine LAt.doneM 131078 2 kr ?_
      refine Tr.to ⟨25, 0, [sB 17 x0.Has, sB 2 false, sA 1 1 8 0], [(1, (Pt.row x0))]⟩ kr ?_
      rw [h2]
      refine Tr.cond (b := false) kr (fun h => nomatch h) (fun _ => ?_)
      refine Tr.skip ?_
      show Tr _ _ _ _ _
      refine Tr.rs ?_
      refine LAt.runU tOk 3 kr ?_
      refine LAt.eqSG false (t := 70) (ty := 70) (ty' := 4) (x := (.tmp 22)) (y := (.tmp 23)) (d := 24) (g := none) ((x0.Heard.Root == 0) && ((x0.Heard.Cost == 0) && ((x0.Heard.Hops == 0) && ((x0.Heard.Bridge == 0) && ((x0.Heard.Port == 0) && true))))) _ kr kr kr kr rfl ?_
      refine LAt.runU tOk 1 kr ?_
      refine LAt.doneM 4 0 kr ?_
      refine Tr.ret ?_
      have H := Option.some.inj H
      subst H
      exact Fin.of _ [(false, [cB ((x0.Heard.Root == 0) && ((x0.Heard.Cost == 0) && ((x0.Heard.Hops == 0) && ((x0.Heard.Bridge == 0) && ((x0.Heard.Port == 0) && true)))))])] kr rfl rfl
    · have H := bifT h2 H
      refine LAt.runU tOk 5 kr ?_
      refine LAt.doneM 32774 2 kr ?_
      refine Tr.to ⟨25, 0, [sB 15 (!x0.Up), sB 2 false, sA 1 1 8 0], [(1, (Pt.row x0))]⟩ kr ?_
      cases h3 : (!x0.Up)
      · have H := bifF h3 H
        refine Tr.cond (b := false) kr (fun h => nomatch h) (fun _ => ?_)
        refine Tr.skip ?_
        show Tr _ _ _ _ _
        refine Tr.seq ?_
        refine Tr.rs ?_
        refine LAt.runU tOk 2 kr ?_
        refine LAt.doneM 131078 2 kr ?_
        refine Tr.to ⟨25, 0, [sB 17 x0.Has, sB 2 false, sA 1 1 8 0], [(1, (Pt.row x0))]⟩ kr ?_
        rw [h2]
        refine Tr.cond (b := true) kr (fun _ => ?_) (fun h => nomatch h)
        refine Tr.rs ?_
        refine LAt.runU tOk 2 kr ?_
        obtain ⟨r2, er2, H⟩ := bind_some H
        refine LAt.callU tOk [.rd] (f := 90) (av := #[.tmp 19]) (ats := #[70]) (d := (some 20)) (ty := 4) (g := none) kr kr kr [] (impl_VecOk n x0.Heard r2 er2) kr (.inl rfl) ?_
        refine LAt.runU tOk 1 kr ?_
        refine LAt.doneM 6 2 kr ?_
        refine Tr.ret ?_
        have H := Option.some.inj H
        subst H
        exact Fin.of _ [(false, [cB r2])] kr rfl rfl
      · have H := bifT h3 H
        refine Tr.cond (b := true) kr (fun _ => ?_) (fun h => nomatch h)
        refine Tr.rs ?_
        refine LAt.runU tOk 1 kr ?_
        refine LAt.doneM 6 2 kr ?_
        refine Tr.ret ?_
        have H := Option.some.inj H
        subst H
        exact Fin.of _ [(false, [cB false])] kr rfl rfl
  · have H := bifT h1 H
    refine LAt.runU tOk 8 kr ?_
    refine LAt.doneM 32774 2 kr ?_
    refine Tr.cond (b := true) kr (fun _ => ?_) (fun h => nomatch h)
    refine Tr.rs ?_
    refine LAt.runU tOk 1 kr ?_
    refine LAt.doneM 6 2 kr ?_
    refine Tr.ret ?_
    have H := Option.some.inj H
    subst H
    exact Fin.of _ [(false, [cB false])] kr rfl rfl

def impl_fentOkF (n : Nat) (x0 : Fent) : Option (Bool) :=
  ((impl_inF n x0.Tag 1 99).bind fun r1 => (bif r1 then ((impl_inF n x0.Mac 1 9999).bind fun r2 => (bif r2 then ((impl_inF n x0.Port 0 7).bind fun r3 => (bif r3 then ((impl_inF n x0.Age 0 4).bind fun r4 => (bif r4 then (bif (!x0.Static) then (some true) else (some (x0.Age == 0))) else (some false))) else (some false))) else (some false))) else (some false)))
/-- loop.example/g00326/impl.fentOk -/
theorem impl_fentOk (n : Nat) (x0 : Fent) (r : Bool) (H : impl_fentOkF n x0 = some r) : LCall Try.prog 176 [.val true (CV.frzRow (Fent.row x0))] [.val false [.lit (.bool r)]] [] := by
  refine LCall.of_body tOk Try.func176 rfl (c := (.seq (.region 0 (rg Try.f176 0) false) (.seq (.region 1 (rg Try.f176 1) false) .ret))) kr (Nat.le_of_ble_eq_true kr) 0 (rs := [.tmp 2]) rfl [] .nil [(false, [.lit (.bool r)])] [] [] fun cx => ?_
  show Tr _ _ _ ⟨31, 0, [sV 0 (Fent.row x0)], []⟩ _
  unfold impl_fentOkF at H
  refine Tr.rs ?_
  refine LAt.runU tOk 2 kr ?_
  refine LAt.doneM 6 2 kr ?_
  refine Tr.rs ?_
  refine LAt.runU tOk 2 kr ?_
  obtain ⟨r1, er1, H⟩ := bind_some H
  refine LAt.callU tOk [.rd, .rd, .rd] (f := 70) (av := #[.tmp 4, .const (.int .i64 1), .const (.int .i64 99)]) (ats := #[3, 3, 3]) (d := (some 5)) (ty := 4) (g := none) kr kr kr [] (impl_in n x0.Tag 1 99 r1 er1) kr (.inl rfl) ?_
  refine LAt.runU tOk 1 kr ?_
  refine LAt.to ⟨31, 0, [sB 6 r1, sB 5 r1, sI 4 x0.Tag, sA 3 1 5 0, sB 2 false, sA 1 1 5 0], [(1, (Fent.row x0))]⟩ kr ?_
  cases h1 : r1
  · have H := bifF h1 H
    refine LAt.runU tOk 25 kr ?_
    refine LAt.doneM 4 0 kr ?_
    refine Tr.ret ?_
    have H := Option.some.inj H
    subst H
    exact Fin.of _ [(false, [cB false])] kr rfl rfl
  · have H := bifT h1 H
    refine LAt.runU tOk 2 kr ?_
    obtain ⟨r2, er2, H⟩ := bind_some H
    refine LAt.callU tOk [.rd, .rd, .rd] (f := 70) (av := #[.tmp 8, .const (.int .i64 1), .const (.int .i64 9999)]) (ats := #[3, 3, 3]) (d := (some 9)) (ty := 4) (g := (some (3, true))) kr kr kr [] (impl_in n x0.Mac 1 9999 r2 er2) kr (.inl rfl) ?_
    refine LAt.runU tOk 2 kr ?_
    refine LAt.to ⟨31, 0, [sB 11 r2, sB 10 r2, sB 9 r2, sI 8 x0.Mac, sA 7 1 5 1, sB 6 true, sB 5 true, sI 4 x0.Tag, sA 3 1 5 0, sB 2 false, sA 1 1 5 0], [(1, (Fent.row x0))]⟩ kr ?_
    cases h2 : r2
    · have H := bifF h2 H
      refine LAt.runU tOk 20 kr ?_
      refine LAt.doneM 4 0 kr ?_
      refine Tr.ret ?_
      have H := Option.some.inj H
      subst H
      exact Fin.of _ [(false, [cB false])] kr rfl rfl
    · have H := bifT h2 H
      refine LAt.runU tOk 2 kr ?_
      obtain ⟨r3, er3, H⟩ := bind_some H
      refine LAt.callU tOk [.rd, .rd, .rd] (f := 70) (av := #[.tmp 13, .const (.int .i64 0), .const (.int .i64 7)]) (ats := #[3, 3, 3]) (d := (some 14)) (ty := 4) (g := (some (8, true))) kr kr kr [] (impl_in n x0.Port 0 7 r3 er3) kr (.inl rfl) ?_
      refine LAt.runU tOk 2 kr ?_
      refine LAt.to ⟨31, 0, [sB 16 r3, sB 15 r3, sB 14 r3, sI 13 x0.Port, sA 12 1 5 2, sB 11 true, sB 10 true, sB 9 true, sI 8 x0.Mac, sA 7 1 5 1, sB 6 true, sB 5 true, sI 4 x0.Tag, sA 3 1 5 0, sB 2 false, sA 1 1 5 0], [(1, (Fent.row x0))]⟩ kr ?_
      cases h3 : r3
      · have H := bifF h3 H
        refine LAt.runU tOk 15 kr ?_
        refine LAt.doneM 4 0 kr ?_
        refine Tr.ret ?_
        have H := Option.some.inj H
        subst H
        exact Fin.of _ [(false, [cB false])] kr rfl rfl
      · have H := bifT h3 H
        refine LAt.runU tOk 2 kr ?_
        obtain ⟨r4, er4, H⟩ := bind_some H
        refine LAt.callU tOk [.rd, .rd, .rd] (f := 70) (av := #[.tmp 18, .const (.int .i64 0), .const (.int .i64 4)]) (ats := #[3, 3, 3]) (d := (some 19)) (ty := 4) (g := (some (13, true))) kr kr kr [] (impl_in n x0.Age 0 4 r4 er4) kr (.inl rfl) ?_
        refine LAt.runU tOk 2 kr ?_
        refine LAt.to ⟨31, 0, [sB 21 r4, sB 20 r4, sB 19 r4, sI 18 x0.Age, sA 17 1 5 3, sB 16 true, sB 15 true, sB 14 true, sI 13 x0.Port, sA 12 1 5 2, sB 11 true, sB 10 true, sB 9 true, sI 8 x0.Mac, sA 7 1 5 1, sB 6 true, sB 5 true, sI 4 x0.Tag, sA 3 1 5 0, sB 2 false, sA 1 1 5 0], [(1, (Fent.row x0))]⟩ kr ?_
        cases h4 : r4
        · have H := bifF h4 H
          refine LAt.runU tOk 10 kr ?_
          refine LAt.doneM 4 0 kr ?_
          refine Tr.ret ?_
          have H := Option.some.inj H
          subst H
          exact Fin.of _ [(false, [cB false])] kr rfl rfl
        · have H := bifT h4 H
          refine LAt.runU tOk 4 kr ?_
          refine LAt.to ⟨31, 0, [sB 25 (!x0.Static), sB 24 (!x0.Static), sB 23 x0.Static, sA 22 1 5 4, sB 21 true, sB 20 true, sB 19 true, sI 18 x0.Age, sA 17 1 5 3, sB 16 true, sB 15 true, sB 14 true, sI 13 x0.Port, sA 12 1 5 2, sB 11 true, sB 10 true, sB 9 true, sI 8 x0.Mac, sA 7 1 5 1, sB 6 true, sB 5 true, sI 4 x0.Tag, sA 3 1 5 0, sB 2 false, sA 1 1 5 0], [(1, (Fent.row x0))]⟩ kr ?_
          cases h5 : (!x0.Static)
          · have H := bifF h5 H
            refine LAt.runU tOk 6 kr ?_
            refine LAt.doneM 4 0 kr ?_
            refine Tr.ret ?_
            have H := Option.some.inj H
            subst H
            exact Fin.of _ [(false, [cB (x0.Age == 0)])] kr rfl rfl
          · have H := bifT h5 H
            refine LAt.runU tOk 6 kr ?_
            refine LAt.doneM 4 0 kr ?_
            refine Tr.ret ?_
            have H := Option.some.inj H
            subst H
            exact Fin.of _ [(false, [cB true])] kr rfl rfl

def impl_behindF (n : Nat) (x0 : Fent) (x1 : Int) (x2 : Int) : Option (Bool) :=
  (bif (decide (x0.Tag > x1)) then (some true) else (bif (x0.Tag == x1) then (some (decide (x0.Mac > x2))) else (some false)))
/-- loop.example/g00326/impl.behind -/
theorem impl_behind (n : Nat) (x0 : Fent) (x1 : Int) (x2 : Int) (r : Bool) (H : impl_behindF n x0 x1 x2 = some r) : LCall Try.prog 177 [.val true (CV.frzRow (Fent.row x0)), .val false [.lit (.int .i64 x1)], .val false [.lit (.int .i64 x2)]] [.val false [.lit (.bool r)]] [] := by
  refine LCall.of_body tOk Try.func177 rfl (c := (.seq (.region 0 (rg Try.f177 0) false) (.seq (.region 1 (rg Try.f177 1) false) .ret))) kr (Nat.le_of_ble_eq_true kr) 0 (rs := [.tmp 6]) rfl [] .nil [(false, [.lit (.bool r)])] [] [] fun cx => ?_
  show Tr _ _ _ ⟨23, 0, [sV 0 (Fent.row x0), sI 1 x1, sI 2 x2], []⟩ _
  unfold impl_behindF at H
  refine Tr.rs ?_
  refine LAt.runU tOk 2 kr ?_
  refine LAt.doneM 78 8 kr ?_
  refine Tr.rs ?_
  refine LAt.runU tOk 5 kr ?_
  refine LAt.to ⟨23, 0, [sB 11 (decide (x0.Tag > x1)), sB 10 (decide (x0.Tag > x1)), sI 9 x1, sI 8 x0.Tag, sA 7 3 5 0, sB 6 false, sA 3 3 5 0, sI 1 x1, sI 2 x2], [(3, (Fent.row x0))]⟩ kr ?_
  cases h1 : (decide (x0.Tag > x1))
  · have H := bifF h1 H
    refine LAt.runU tOk 5 kr ?_
    refine LAt.to ⟨23, 0, [sB 16 (x0.Tag == x1), sB 15 (x0.Tag == x1), sI 14 x1, sI 13 x0.Tag, sA 12 3 5 0, sB 11 false, sB 10 false, sI 9 x1, sI 8 x0.Tag, sA 7 3 5 0, sB 6 false, sA 3 3 5 0, sI 1 x1, sI 2 x2], [(3, (Fent.row x0))]⟩ kr ?_
    cases h2 : (x0.Tag == x1)
    · have H := bifF h2 H
      refine LAt.runU tOk 7 kr ?_
      refine LAt.doneM 64 0 kr ?_
      refine Tr.ret ?_
      have H := Option.some.inj H
      subst H
      exact Fin.of _ [(false, [cB false])] kr rfl rfl
    · have H := bifT h2 H
      refine LAt.runU tOk 7 kr ?_
      refine LAt.doneM 64 0 kr ?_
      refine Tr.ret ?_
      have H := Option.some.inj H
      subst H
      exact Fin.of _ [(false, [cB (decide (x0.Mac > x2))])] kr rfl rfl
  · have H := bifT h1 H
    refine LAt.runU tOk 12 kr ?_
    refine LAt.doneM 64 0 kr ?_
    refine Tr.ret ?_
    have H := Option.some.inj H
    subst H
    exact Fin.of _ [(false, [cB true])] kr rfl rfl

def impl_FdbOk_J1 (n : Nat) (x0 : (List Fent)) : Option (Bool) :=
  (some (decide ((x0.length : Int) ≤ 12)))
def impl_FdbOk_L2 (n : Nat) : Nat → (List Fent) → Int → Option ((Unit) ⊕ (Bool))
  | 0, _, _ => none
  | mo2 + 1, x0, y1 => (bif (decide (y1 < (x0.length : Int))) then ((idx x0 y1).bind fun v3 => ((impl_fentOkF n v3).bind fun r4 => (bif (!r4) then (some (Sum.inr false)) else (bif (decide (y1 > 0)) then ((idx x0 (IntKind.wrap .i64 (y1 - 1))).bind fun v5 => ((idx x0 (IntKind.wrap .i64 (y1 - 1))).bind fun v6 => ((impl_behindF n v3 v5.Tag v6.Mac).bind fun r7 => (bif (!r7) then (some (Sum.inr false)) else (impl_FdbOk_L2 n mo2 x0 (IntKind.wrap .i64 (y1 + 1))))))) else (impl_FdbOk_L2 n mo2 x0 (IntKind.wrap .i64 (y1 + 1))))))) else (some (Sum.inl ())))
def impl_FdbOkF (n : Nat) (x0 : (List Fent)) : Option (Bool) :=
  ((impl_FdbOk_L2 n n x0 0).bind fun o => match o with | .inl _ => (impl_FdbOk_J1 n x0) | .inr r => some r)
/-- loop.example/g00326/impl.FdbOk -/
theorem impl_FdbOk (n : Nat) (x0 : (List Fent)) (r : Bool) (H : impl_FdbOkF n x0 = some r) : LCall Try.prog 143 [.val false [.sl false 5 (CV.frzEs (x0.map Fent.row))]] [.val false [.lit (.bool r)]] [] := by
  refine LCall.of_body tOk Try.func143 rfl (c := (.seq (.region 0 (rg Try.f143 0) false) (.seq (.seq (.region 1 (rg Try.f143 1) false) (.block 0 (.loop (.seq (.region 2 (rg Try.f143 2) false) (.seq (.cond (.tmp 8) .skip (.exit 0)) (.seq (.block 1 (.seq (.region 3 (rg Try.f143 3) false) (.seq (.region 4 (rg Try.f143 4) true) (.cond (.tmp 35) (.seq (.region 5 (rg Try.f143 5) false) .ret) .skip)))) (.region 6 (rg Try.f143 6) false))))))) (.seq (.region 7 (rg Try.f143 7) false) .ret)))) kr (Nat.le_of_ble_eq_true kr) 0 (rs := [.tmp 2]) rfl [] .nil [(false, [.lit (.bool r)])] [] [] fun cx => ?_
  show Tr _ _ _ ⟨40, 0, [sC 0 (cF 5 x0 Fent.row)], []⟩ _
  unfold impl_FdbOkF at H
  refine Tr.rs ?_
  refine LAt.runU tOk 1 kr ?_
  refine LAt.doneM 5 0 kr ?_
  refine Tr.seq ?_
  refine Tr.rs ?_
  refine LAt.runU tOk 1 kr ?_
  refine LAt.lenE tOk (t := 56) (ty := 3) (e := 141) (x := (.tmp 5)) (d := 6) (g := none) ⟨(.slot 5), [], 0, false, 5, (CV.frzEs (x0.map Fent.row))⟩ (x0).length _ kr kr kr kr kr (frz_len _ _) rfl ?_
  refine LAt.runU tOk 1 kr ?_
  refine LAt.doneM 229 0 kr ?_
  obtain ⟨o2, eo2, Ho2⟩ := bind_some H
  clear H
  refine Tr.mid (ι := Unit) (fun v => ⟨40, 0, [sB 2 false, sC 0 (cF 5 x0 Fent.row)], []⟩) (fun v => impl_FdbOk_J1 n x0 = some r) ?_ ?_
  · refine Tr.block ?_
    refine Tr.loop (ι := Nat × (Int)) (fun v => ⟨40, 0, [sI 7 v.2, sI 6 (x0.length : Int), sC 5 (cF 5 x0 Fent.row), sB 2 false, sC 0 (cF 5 x0 Fent.row)], []⟩) (fun v => impl_FdbOk_L2 n v.1 x0 v.2 = some o2) (fun v => v.1) (n, 0) eo2 (St.sub_of [7, 6, 5, 2, 0] [] kr) ?_
    rintro ⟨mo2, y1⟩ H
    have H : impl_FdbOk_L2 n mo2 x0 y1 = some o2 := H
    obtain _ | mo2 := mo2
    · cases (show (none : Option _) = some o2 from H)
    · rw [impl_FdbOk_L2] at H
      refine Tr.rs ?_
      refine LAt.runU tOk 1 kr ?_
      refine LAt.doneM 485 0 kr ?_
      refine Tr.seq ?_
      refine Tr.to ⟨40, 0, [sB 8 (decide (y1 < (x0.length : Int))), sI 7 y1, sI 6 (x0.length : Int), sC 5 (cF 5 x0 Fent.row), sB 2 false, sC 0 (cF 5 x0 Fent.row)], []⟩ kr ?_
      cases h1 : (decide (y1 < (x0.length : Int)))
      · have H := bifF h1 H
        refine Tr.cond (b := false) kr (fun h => nomatch h) (fun _ => ?_)
        refine Tr.exit ?_
        refine And.intro (fun _ => ?_) (fun h => absurd rfl h)
        have H := Option.some.inj H
        subst H
        have H := Ho2
        dsimp only at H
        exact Exists.intro () (And.intro H (St.sub_of [2, 0] [] kr))
      · have H := bifT h1 H
        refine Tr.cond (b := true) kr (fun _ => ?_) (fun h => nomatch h)
        refine Tr.skip ?_
        show Tr _ _ _ _ _
        refine Tr.seq ?_
        refine Tr.block ?_
        refine Tr.rs ?_
        refine LAt.runU tOk 1 kr ?_
        obtain ⟨v3, ev3, H⟩ := bind_some H
        refine LAt.indexF tOk (t := 56) (ty := 0) (x := (.tmp 5)) (y := (.tmp 7)) (d := 10) (g := none) ⟨(.slot 5), [], 0, false, 5, (CV.frzEs (x0.map Fent.row))⟩ y1 (Fent.row v3) _ kr kr kr kr rfl (idx_isF ev3) rfl ?_
        refine LAt.runU tOk 4 kr ?_
        refine LAt.doneM 4093 16 kr ?_
        obtain ⟨r4, er4, H⟩ := bind_some H
        refine Tr.to ⟨40, 0, [sI 3 y1, sA 4 4 5 0, sV 11 (Fent.row v3), (10, .fad ((Fent.row v3))), sI 9 y1, sB 8 true, sI 7 y1, sI 6 (x0.length : Int), sC 5 (cF 5 x0 Fent.row), sB 2 false, sC 0 (cF 5 x0 Fent.row)], [(4, (Fent.row v3))]⟩ kr ?_
        cases h2 : (!r4)
        · have H := bifF h2 H
          refine Tr.to ⟨40, 0, [sI 3 y1, sA 4 4 5 0, sV 11 (Fent.row v3), (10, .fad ((Fent.row v3))), sI 9 y1, sB 8 true, sI 7 y1, sI 6 (x0.length : Int), sC 5 (cF 5 x0 Fent.row), sB 2 false, sC 0 (cF 5 x0 Fent.row)], [(4, (Fent.row v3))]⟩ kr ?_
          cases h3 : (decide (y1 > 0))
          · have H := bifF h3 H
            refine Tr.draws mixed 24 kr ⟨40, 0, [sB 35 false, sB 34 false, (33, .tup []), (32, .tup []), (31, .tup []), (30, .tup []), (29, .tup []), (28, .tup []), (27, .tup []), (26, .tup []), (25, .tup []), (24, .tup []), (23, .tup []), (22, .tup []), (21, .tup []), (20, .tup []), (19, .tup []), sB 18 false, sB 17 false, sI 16 y1, sB 15 false, sB 14 false, sB 13 r4, sV 12 (Fent.row v3), sI 3 y1, sA 4 4 5 0, sV 11 (Fent.row v3), (10, .fad ((Fent.row v3))), sI 9 y1, sB 8 true, sI 7 y1, sI 6 (x0.length : Int), sC 5 (cF 5 x0 Fent.row), sB 2 false, sC 0 (cF 5 x0 Fent.row)], [(4, (Fent.row v3))]⟩ (fun cx => ?_) ?_
            · refine AT.runU tOk [(0, [1])] 23 [⟨[1], 141, 4, 12⟩] [0] rfl kr (fun cx => ?_)
              refine AT.big1 tOk 1 kr kr ?_
              refine LAt.callU tOk [.rd] (f := 176) (av := #[.tmp 12]) (ats := #[141]) (d := (some 13)) (ty := 4) (g := none) kr kr kr [] (impl_fentOk n v3 r4 er4) kr (.inl rfl) ?_
              refine LAt.fin kr (And.intro (And.intro kr kr) ?_)
              refine AT.runU tOk [(2, []), (3, [])] 20 [⟨[1], 141, 4, 12⟩] [3, 2, 1, 0] rfl kr (fun cx => ?_)
              refine AT.to ⟨40, 0, [sB 15 (!r4), sB 14 (!r4), sB 13 r4, sV 12 (Fent.row v3), sI 3 y1, sA 4 4 5 0, sV 11 (Fent.row v3), (10, .fad ((Fent.row v3))), sI 9 y1, sB 8 true, sI 7 y1, sI 6 (x0.length : Int), sC 5 (cF 5 x0 Fent.row), sB 2 false, sC 0 (cF 5 x0 Fent.row)], [(4, (Fent.row v3))]⟩ kr ?_
              rw [h2]
              refine AT.runU tOk [(4, []), (5, []), (6, [])] 17 [⟨[1], 141, 4, 12⟩] [6, 5, 4, 3, 2, 1, 0] rfl kr (fun cx => ?_)
              refine AT.to ⟨40, 0, [sB 18 (decide (y1 > 0)), sB 17 (decide (y1 > 0)), sI 16 y1, sB 15 false, sB 14 false, sB 13 r4, sV 12 (Fent.row v3), sI 3 y1, sA 4 4 5 0, sV 11 (Fent.row v3), (10, .fad ((Fent.row v3))), sI 9 y1, sB 8 true, sI 7 y1, sI 6 (x0.length : Int), sC 5 (cF 5 x0 Fent.row), sB 2 false, sC 0 (cF 5 x0 Fent.row)], [(4, (Fent.row v3))]⟩ kr ?_
              rw [h3]
              refine AT.runU tOk [(7, []), (8, []), (9, []), (10, []), (11, []), (12, []), (13, []), (14, []), (15, []), (16, []), (17, []), (18, []), (19, []), (20, []), (21, []), (22, []), (23, [])] 0 [⟨[1], 141, 4, 12⟩] [23, 22, 21, 20, 19, 18, 17, 16, 15, 14, 13, 12, 11, 10, 9, 8, 7, 6, 5, 4, 3, 2, 1, 0] rfl kr (fun cx => ?_)
              exact AT.done [35, 34, 33, 32, 31, 30, 29, 28, 27, 26, 25, 24, 23, 22, 21, 20, 19, 18, 17, 16, 15, 14, 13, 12, 3, 4, 11, 10, 9, 8, 7, 6, 5, 2, 0] [4] _ kr kr rfl
            · refine Tr.cond (b := false) kr (fun h => nomatch h) (fun _ => ?_)
              refine Tr.skip ?_
              show Tr _ _ _ _ _
              refine Tr.at ?_
              refine LAt.runU tOk 2 kr ?_
              refine LAt.doneM 137438953469 16 kr ?_
              exact Exists.intro (mo2, (IntKind.wrap .i64 (y1 + 1))) (And.intro H (And.intro (Nat.lt_succ_self mo2) (St.sub_of [7, 6, 5, 2, 0] [] kr)))
          · have H := bifT h3 H
            obtain ⟨v5, ev5, H⟩ := bind_some H
            obtain ⟨v6, ev6, H⟩ := bind_some H
            obtain ⟨r7, er7, H⟩ := bind_some H
            refine Tr.draws mixed 24 kr ⟨40, 0, [sB 35 (!r7), sB 34 (!r7), sB 33 (!r7), sB 32 r7, sI 31 v6.Mac, (30, .fad (((Fent.row v6).drop 1))), (29, .fad ((Fent.row v6))), sI 28 (IntKind.wrap .i64 (y1 - 1)), sI 27 y1, sC 26 (cF 5 x0 Fent.row), sI 25 v5.Tag, (24, .fad ((Fent.row v5))), (23, .fad ((Fent.row v5))), sI 22 (IntKind.wrap .i64 (y1 - 1)), sI 21 y1, sC 20 (cF 5 x0 Fent.row), sV 19 (Fent.row v3), sB 18 true, sB 17 true, sI 16 y1, sB 15 false, sB 14 false, sB 13 r4, sV 12 (Fent.row v3), sI 3 y1, sA 4 4 5 0, sV 11 (Fent.row v3), (10, .fad ((Fent.row v3))), sI 9 y1, sB 8 true, sI 7 y1, sI 6 (x0.length : Int), sC 5 (cF 5 x0 Fent.row), sB 2 false, sC 0 (cF 5 x0 Fent.row)], [(4, (Fent.row v3))]⟩ (fun cx => ?_) ?_
            · refine AT.runU tOk [(0, [1, 20])] 23 [⟨[1, 20], 141, 4, 12⟩] [0] rfl kr (fun cx => ?_)
              refine AT.big1 tOk 1 kr kr ?_
              refine LAt.callU tOk [.rd] (f := 176) (av := #[.tmp 12]) (ats := #[141]) (d := (some 13)) (ty := 4) (g := none) kr kr kr [] (impl_fentOk n v3 r4 er4) kr (.inl rfl) ?_
              refine LAt.fin kr (And.intro (And.intro kr kr) ?_)
              refine AT.runU tOk [(2, []), (3, [])] 20 [⟨[1, 20], 141, 4, 12⟩] [3, 2, 1, 0] rfl kr (fun cx => ?_)
              refine AT.to ⟨40, 0, [sB 15 (!r4), sB 14 (!r4), sB 13 r4, sV 12 (Fent.row v3), sI 3 y1, sA 4 4 5 0, sV 11 (Fent.row v3), (10, .fad ((Fent.row v3))), sI 9 y1, sB 8 true, sI 7 y1, sI 6 (x0.length : Int), sC 5 (cF 5 x0 Fent.row), sB 2 false, sC 0 (cF 5 x0 Fent.row)], [(4, (Fent.row v3))]⟩ kr ?_
              rw [h2]
              refine AT.runU tOk [(4, []), (5, []), (6, [])] 17 [⟨[1, 20], 141, 4, 12⟩] [6, 5, 4, 3, 2, 1, 0] rfl kr (fun cx => ?_)
              refine AT.to ⟨40, 0, [sB 18 (decide (y1 > 0)), sB 17 (decide (y1 > 0)), sI 16 y1, sB 15 false, sB 14 false, sB 13 r4, sV 12 (Fent.row v3), sI 3 y1, sA 4 4 5 0, sV 11 (Fent.row v3), (10, .fad ((Fent.row v3))), sI 9 y1, sB 8 true, sI 7 y1, sI 6 (x0.length : Int), sC 5 (cF 5 x0 Fent.row), sB 2 false, sC 0 (cF 5 x0 Fent.row)], [(4, (Fent.row v3))]⟩ kr ?_
              rw [h3]
              refine AT.runU tOk [(7, [20]), (8, []), (9, []), (10, [])] 13 [⟨[20], 141, 4, 19⟩, ⟨[1, 20], 141, 4, 12⟩] [10, 9, 8, 7, 6, 5, 4, 3, 2, 1, 0] rfl kr (fun cx => ?_)
              refine AT.indexF tOk 11 (t := 56) (ty := 0) (x := (.tmp 20)) (y := (.tmp 22)) (d := 23) (g := (some (6, true))) ⟨(.slot 20), [], 0, false, 5, (CV.frzEs (x0.map Fent.row))⟩ (IntKind.wrap .i64 (y1 - 1)) (Fent.row v5) _ kr kr kr kr kr kr rfl (idx_isF ev5) rfl (fun cx => ?_)
              refine AT.runU tOk [(12, []), (13, []), (14, []), (15, []), (16, [])] 7 [⟨[20], 141, 4, 19⟩, ⟨[1, 20], 141, 4, 12⟩] [16, 15, 14, 13, 12, 11, 10, 9, 8, 7, 6, 5, 4, 3, 2, 1, 0] rfl kr (fun cx => ?_)
              refine AT.indexF tOk 17 (t := 56) (ty := 0) (x := (.tmp 26)) (y := (.tmp 28)) (d := 29) (g := (some (6, true))) ⟨(.slot 26), [], 0, false, 5, (CV.frzEs (x0.map Fent.row))⟩ (IntKind.wrap .i64 (y1 - 1)) (Fent.row v6) _ kr kr kr kr kr kr rfl (idx_isF ev6) rfl (fun cx => ?_)
              refine AT.runU tOk [(18, []), (19, [])] 4 [⟨[20], 141, 4, 19⟩, ⟨[1, 20], 141, 4, 12⟩] [19, 18, 17, 16, 15, 14, 13, 12, 11, 10, 9, 8, 7, 6, 5, 4, 3, 2, 1, 0] rfl kr (fun cx => ?_)
              refine AT.big1 tOk 20 kr kr ?_
              refine LAt.callU tOk [.rd, .rd, .rd] (f := 177) (av := #[.tmp 19, .tmp 25, .tmp 31]) (ats := #[141, 3, 3]) (d := (some 32)) (ty := 4) (g := (some (6, true))) kr kr kr [] (impl_behind n v3 v5.Tag v6.Mac r7 er7) kr (.inl rfl) ?_
              refine LAt.fin kr (And.intro (And.intro kr kr) ?_)
              refine AT.runU tOk [(21, []), (22, []), (23, [])] 0 [⟨[20], 141, 4, 19⟩, ⟨[1, 20], 141, 4, 12⟩] [23, 22, 21, 20, 19, 18, 17, 16, 15, 14, 13, 12, 11, 10, 9, 8, 7, 6, 5, 4, 3, 2, 1, 0] rfl kr (fun cx => ?_)
              exact AT.done [35, 34, 33, 32, 31, 30, 29, 28, 27, 26, 25, 24, 23, 22, 21, 20, 19, 18, 17, 16, 15, 14, 13, 12, 3, 4, 11, 10, 9, 8, 7, 6, 5, 2, 0] [4] _ kr kr rfl
            · refine Tr.to ⟨40, 0, [sB 35 (!r7), sB 34 (!r7), sB 33 (!r7), sB 32 r7, sI 31 v6.Mac, (30, .fad (((Fent.row v6).drop 1))), (29, .fad ((Fent.row v6))), sI 28 (IntKind.wrap .i64 (y1 - 1)), sI 27 y1, sC 26 (cF 5 x0 Fent.row), sI 25 v5.Tag, (24, .fad ((Fent.row v5))), (23, .fad ((Fent.row v5))), sI 22 (IntKind.wrap .i64 (y1 - 1)), sI 21 y1, sC 20 (cF 5 x0 Fent.row), sV 19 (Fent.row v3), sB 18 true, sB 17 true, sI 16 y1, sB 15 false, sB 14 false, sB 13 r4, sV 12 (Fent.row v3), sI 3 y1, sA 4 4 5 0, sV 11 (Fent.row v3), (10, .fad ((Fent.row v3))), sI 9 y1, sB 8 true, sI 7 y1, sI 6 (x0.length : Int), sC 5 (cF 5 x0 Fent.row), sB 2 false, sC 0 (cF 5 x0 Fent.row)], [(4, (Fent.row v3))]⟩ kr ?_
              cases h4 : (!r7)
              · have H := bifF h4 H
                refine Tr.cond (b := false) kr (fun h => nomatch h) (fun _ => ?_)
                refine Tr.skip ?_
                show Tr _ _ _ _ _
                refine Tr.at ?_
                refine LAt.runU tOk 2 kr ?_
                refine LAt.doneM 137438953469 16 kr ?_
                exact Exists.intro (mo2, (IntKind.wrap .i64 (y1 + 1))) (And.intro H (And.intro (Nat.lt_succ_self mo2) (St.sub_of [7, 6, 5, 2, 0] [] kr)))
              · have H := bifT h4 H
                refine Tr.cond (b := true) kr (fun _ => ?_) (fun h => nomatch h)
                refine Tr.rs ?_
                refine LAt.runU tOk 1 kr ?_
                refine LAt.doneM 68719476733 16 kr ?_
                refine Tr.ret ?_
                have H := Option.some.inj H
                subst H
                have H := Ho2
                dsimp only at H
                have H := Option.some.inj H
                subst H
                exact Fin.of _ [(false, [cB false])] kr rfl rfl
        · have H := bifT h2 H
          refine Tr.draws mixed 24 kr ⟨40, 0, [sB 35 true, (34, .tup []), (33, .tup []), (32, .tup []), (31, .tup []), (30, .tup []), (29, .tup []), (28, .tup []), (27, .tup []), (26, .tup []), (25, .tup []), (24, .tup []), (23, .tup []), (22, .tup []), (21, .tup []), (20, .tup []), (19, .tup []), (18, .tup []), (17, .tup []), (16, .tup []), sB 15 true, sB 14 true, sB 13 r4, sV 12 (Fent.row v3), sI 3 y1, sA 4 4 5 0, sV 11 (Fent.row v3), (10, .fad ((Fent.row v3))), sI 9 y1, sB 8 true, sI 7 y1, sI 6 (x0.length : Int), sC 5 (cF 5 x0 Fent.row), sB 2 false, sC 0 (cF 5 x0 Fent.row)], [(4, (Fent.row v3))]⟩ (fun cx => ?_) ?_
          · refine AT.runU tOk [(0, [1])] 23 [⟨[1], 141, 4, 12⟩] [0] rfl kr (fun cx => ?_)
            refine AT.big1 tOk 1 kr kr ?_
            refine LAt.callU tOk [.rd] (f := 176) (av := #[.tmp 12]) (ats := #[141]) (d := (some 13)) (ty := 4) (g := none) kr kr kr [] (impl_fentOk n v3 r4 er4) kr (.inl rfl) ?_
            refine LAt.fin kr (And.intro (And.intro kr kr) ?_)
            refine AT.runU tOk [(2, []), (3, [])] 20 [⟨[1], 141, 4, 12⟩] [3, 2, 1, 0] rfl kr (fun cx => ?_)
            refine AT.to ⟨40, 0, [sB 15 (!r4), sB 14 (!r4), sB 13 r4, sV 12 (Fent.row v3), sI 3 y1, sA 4 4 5 0, sV 11 (Fent.row v3), (10, .fad ((Fent.row v3))), sI 9 y1, sB 8 true, sI 7 y1, sI 6 (x0.length : Int), sC 5 (cF 5 x0 Fent.row), sB 2 false, sC 0 (cF 5 x0 Fent.row)], [(4, (Fent.row v3))]⟩ kr ?_
            rw [h2]
            refine AT.runU tOk [(4, []), (5, []), (6, []), (7, []), (8, []), (9, []), (10, []), (11, []), (12, []), (13, []), (14, []), (15, []), (16, []), (17, []), (18, []), (19, []), (20, []), (21, []), (22, []), (23, [])] 0 [⟨[1], 141, 4, 12⟩] [23, 22, 21, 20, 19, 18, 17, 16, 15, 14, 13, 12, 11, 10, 9, 8, 7, 6, 5, 4, 3, 2, 1, 0] rfl kr (fun cx => ?_)
            exact AT.done [35, 34, 33, 32, 31, 30, 29, 28, 27, 26, 25, 24, 23, 22, 21, 20, 19, 18, 17, 16, 15, 14, 13, 12, 3, 4, 11, 10, 9, 8, 7, 6, 5, 2, 0] [4] _ kr kr rfl
          · refine Tr.cond (b := true) kr (fun _ => ?_) (fun h => nomatch h)
            refine Tr.rs ?_
            refine LAt.runU tOk 1 kr ?_
            refine LAt.doneM 68719476733 16 kr ?_
            refine Tr.ret ?_
            have H := Option.some.inj H
            subst H
            have H := Ho2
            dsimp only at H
            have H := Option.some.inj H
            subst H
            exact Fin.of _ [(false, [cB false])] kr rfl rfl
  · rintro _ H
    have H : (impl_FdbOk_J1 n x0) = some r := H
    unfold impl_FdbOk_J1 at H
    show Tr _ _ _ _ _
    refine Tr.rs ?_
    refine LAt.runU tOk 1 kr ?_
    refine LAt.lenE tOk (t := 56) (ty := 3) (e := 141) (x := (.tmp 37)) (d := 38) (g := none) ⟨(.slot 37), [], 0, false, 5, (CV.frzEs (x0.map Fent.row))⟩ (x0).length _ kr kr kr kr kr (frz_len _ _) rfl ?_
    refine LAt.runU tOk 2 kr ?_
    refine LAt.doneM 4 0 kr ?_
    refine Tr.ret ?_
    have H := Option.some.inj H
    subst H
    exact Fin.of _ [(false, [cB (decide ((x0.length : Int) ≤ 12))])] kr rfl rfl

def impl_allPortsF (n : Nat) (x0 : Int) : Option (Int) :=
  (bif (decide ((0 : Int) ≤ x0)) then (some (IntKind.wrap .i64 ((IntKind.wrap .i64 (1 * 2 ^ min ((x0 : Int)).toNat (IntKind.bits .i64))) - 1))) else none)
/-- loop.example/g00326/impl.allPorts -/
theorem impl_allPorts (n : Nat) (x0 : Int) (r : Int) (H : impl_allPortsF n x0 = some r) : LCall Try.prog 178 [.val false [.lit (.int .i64 x0)]] [.val false [.lit (.int .i64 r)]] [] := by
  refine LCall.of_body tOk Try.func178 rfl (c := (.seq (.region 0 (rg Try.f178 0) false) (.seq (.region 1 (rg Try.f178 1) false) .ret))) kr (Nat.le_of_ble_eq_true kr) 0 (rs := [.tmp 2]) rfl [] .nil [(false, [.lit (.int .i64 r)])] [] [] fun cx => ?_
  show Tr _ _ _ ⟨6, 0, [sI 0 x0], []⟩ _
  unfold impl_allPortsF at H
  refine Tr.rs ?_
  refine LAt.runU tOk 1 kr ?_
  refine LAt.doneM 5 0 kr ?_
  refine Tr.rs ?_
  refine LAt.runU tOk 1 kr ?_
  obtain ⟨hg1, H⟩ := guard_some H
  refine LAt.binC tOk (op := .shl) (t := 3) (ty := 3) (ty' := 3) (x := (.const (.int .i64 1))) (y := (.tmp 3)) (d := 4) (g := none) (.int .i64 1) (.int .i64 x0) (.int .i64 (IntKind.wrap .i64 (1 * 2 ^ min ((x0 : Int)).toNat (IntKind.bits .i64)))) _ kr kr kr kr kr (φ := (0 : Int) ≤ x0) kr (of_decide_eq_true hg1) rfl ?_
  refine LAt.runU tOk 2 kr ?_
  refine LAt.doneM 4 0 kr ?_
  refine Tr.ret ?_
  have H := Option.some.inj H
  subst H
  exact Fin.of _ [(false, [cI (IntKind.wrap .i64 ((IntKind.wrap .i64 (1 * 2 ^ min ((x0 : Int)).toNat (IntKind.bits .i64))) - 1))])] kr rfl rfl

def impl_RowAt_J1 (n : Nat) : Option (Int) :=
  (some (-1))
def impl_RowAt_L2 (n : Nat) : Nat → Vtab → Int → Int → Option ((Unit) ⊕ (Int))
  | 0, _, _, _ => none
  | mo2 + 1, x0, x1, y1 => (bif (decide (y1 < (x0.Rows.length : Int))) then ((idx x0.Rows y1).bind fun v3 => (bif (v3.Id == x1) then (some (Sum.inr y1)) else (impl_RowAt_L2 n mo2 x0 x1 (IntKind.wrap .i64 (y1 + 1))))) else (some (Sum.inl ())))
def impl_RowAtF (n : Nat) (x0 : Vtab) (x1 : Int) : Option (Int) :=
  ((impl_RowAt_L2 n n x0 x1 0).bind fun o => match o with | .inl _ => (impl_RowAt_J1 n) | .inr r => some r)
/-- loop.example/g00326/impl.RowAt -/
theorem impl_RowAt (n : Nat) (x0 : Vtab) (x1 : Int) (r : Int) (H : impl_RowAtF n x0 x1 = some r) : LCall Try.prog 179 [.val true (CV.frzRow (Vtab.row x0)), .val false [.lit (.int .i64 x1)]] [.val false [.lit (.int .i64 r)]] [] := by
  refine LCall.of_body tOk Try.func179 rfl (c := (.seq (.region 0 (rg Try.f179 0) false) (.seq (.seq (.region 1 (rg Try.f179 1) false) (.block 0 (.loop (.seq (.region 2 (rg Try.f179 2) false) (.seq (.cond (.tmp 11) .skip (.exit 0)) (.seq (.block 1 (.seq (.region 3 (rg Try.f179 3) false) (.seq (.region 4 (rg Try.f179 4) false) (.cond (.tmp 18) (.seq (.region 5 (rg Try.f179 5) false) .ret) .skip)))) (.region 6 (rg Try.f179 6) false))))))) (.seq (.region 7 (rg Try.f179 7) false) .ret)))) kr (Nat.le_of_ble_eq_true kr) 0 (rs := [.tmp 4]) rfl [] .nil [(false, [.lit (.int .i64 r)])] [] [] fun cx => ?_
  show Tr _ _ _ ⟨21, 0, [sV 0 (CV.frzRow (Vtab.row x0)), sI 1 x1], []⟩ _
  unfold impl_RowAtF at H
  refine Tr.rs ?_
  refine LAt.runU tOk 2 kr ?_
  refine LAt.doneM 22 4 kr ?_
  refine Tr.seq ?_
  refine Tr.rs ?_
  refine LAt.runU tOk 2 kr ?_
  refine LAt.lenE tOk (t := 57) (ty := 3) (e := 138) (x := (.tmp 8)) (d := 9) (g := none) ⟨(.slot 8), [], 0, false, 3, (CV.frzEs (x0.Rows.map Vrow.row))⟩ (x0.Rows).length _ kr kr kr kr kr (frz_len _ _) rfl ?_
  refine LAt.runU tOk 1 kr ?_
  refine LAt.doneM 1810 0 kr ?_
  obtain ⟨o2, eo2, Ho2⟩ := bind_some H
  clear H
  refine Tr.mid (ι := Unit) (fun v => ⟨21, 0, [sI 4 0], []⟩) (fun v => impl_RowAt_J1 n = some r) ?_ ?_
  · refine Tr.block ?_
    refine Tr.loop (ι := Nat × (Int)) (fun v => ⟨21, 0, [sI 10 v.2, sI 9 (x0.Rows.length : Int), sC 8 (cF 3 x0.Rows Vrow.row), sI 4 0, sI 1 x1], []⟩) (fun v => impl_RowAt_L2 n v.1 x0 x1 v.2 = some o2) (fun v => v.1) (n, 0) eo2 (St.sub_of [10, 9, 8, 4, 1] [] kr) ?_
    rintro ⟨mo2, y1⟩ H
    have H : impl_RowAt_L2 n mo2 x0 x1 y1 = some o2 := H
    obtain _ | mo2 := mo2
    · cases (show (none : Option _) = some o2 from H)
    · rw [impl_RowAt_L2] at H
      refine Tr.rs ?_
      refine LAt.runU tOk 1 kr ?_
      refine LAt.doneM 3858 0 kr ?_
      refine Tr.seq ?_
      refine Tr.to ⟨21, 0, [sB 11 (decide (y1 < (x0.Rows.length : Int))), sI 10 y1, sI 9 (x0.Rows.length : Int), sC 8 (cF 3 x0.Rows Vrow.row), sI 4 0, sI 1 x1], []⟩ kr ?_
      cases h1 : (decide (y1 < (x0.Rows.length : Int)))
      · have H := bifF h1 H
        refine Tr.cond (b := false) kr (fun h => nomatch h) (fun _ => ?_)
        refine Tr.exit ?_
        refine And.intro (fun _ => ?_) (fun h => absurd rfl h)
        have H := Option.some.inj H
        subst H
        have H := Ho2
        dsimp only at H
        exact Exists.intro () (And.intro H (St.sub_of [4] [] kr))
      · have H := bifT h1 H
        refine Tr.cond (b := true) kr (fun _ => ?_) (fun h => nomatch h)
        refine Tr.skip ?_
        show Tr _ _ _ _ _
        refine Tr.seq ?_
        refine Tr.block ?_
        refine Tr.rs ?_
        refine LAt.runU tOk 1 kr ?_
        obtain ⟨v3, ev3, H⟩ := bind_some H
        refine LAt.indexF tOk (t := 57) (ty := 0) (x := (.tmp 8)) (y := (.tmp 10)) (d := 13) (g := none) ⟨(.slot 8), [], 0, false, 3, (CV.frzEs (x0.Rows.map Vrow.row))⟩ y1 (Vrow.row v3) _ kr kr kr kr rfl (idx_isF ev3) rfl ?_
        refine LAt.runU tOk 4 kr ?_
        refine LAt.doneM 32626 64 kr ?_
        refine Tr.rs ?_
        refine LAt.runU tOk 4 kr ?_
        refine LAt.doneM 524146 64 kr ?_
        refine Tr.to ⟨21, 0, [sB 18 (v3.Id == x1), sI 17 x1, sI 16 v3.Id, sA 15 6 3 0, sI 5 y1, sA 6 6 3 0, sV 14 (Vrow.row v3), (13, .fad ((Vrow.row v3))), sI 12 y1, sB 11 true, sI 10 y1, sI 9 (x0.Rows.length : Int), sC 8 (cF 3 x0.Rows Vrow.row), sI 4 0, sI 1 x1], [(6, (Vrow.row v3))]⟩ kr ?_
        cases h2 : (v3.Id == x1)
        · have H := bifF h2 H
          refine Tr.cond (b := false) kr (fun h => nomatch h) (fun _ => ?_)
          refine Tr.skip ?_
          show Tr _ _ _ _ _
          refine Tr.at ?_
          refine LAt.runU tOk 2 kr ?_
          refine LAt.doneM 1572722 64 kr ?_
          exact Exists.intro (mo2, (IntKind.wrap .i64 (y1 + 1))) (And.intro H (And.intro (Nat.lt_succ_self mo2) (St.sub_of [10, 9, 8, 4, 1] [] kr)))
        · have H := bifT h2 H
          refine Tr.cond (b := true) kr (fun _ => ?_) (fun h => nomatch h)
          refine Tr.rs ?_
          refine LAt.runU tOk 2 kr ?_
          refine LAt.doneM 1048434 64 kr ?_
          refine Tr.ret ?_
          have H := Option.some.inj H
          subst H
          have H := Ho2
          dsimp only at H
          have H := Option.some.inj H
          subst H
          exact Fin.of _ [(false, [cI y1])] kr rfl rfl
  · rintro _ H
    have H : (impl_RowAt_J1 n) = some r := H
    unfold impl_RowAt_J1 at H
    show Tr _ _ _ _ _
    refine Tr.rs ?_
    refine LAt.runU tOk 1 kr ?_
    refine LAt.doneM 16 0 kr ?_
    refine Tr.ret ?_
    have H := Option.some.inj H
    subst H
    exact Fin.of _ [(false, [cI (-1)])] kr rfl rfl
end Go.Proofs.Ytjdedhklbdkeoaa.Tw
