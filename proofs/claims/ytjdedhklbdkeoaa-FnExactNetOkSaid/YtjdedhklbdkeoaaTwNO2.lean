/- Functions of the program, over trees. -/
import Derived.Test.YtjdedhklbdkeoaaProg
import Derived.Test.YtjdedhklbdkeoaaTlRule
import Derived.Test.YtjdedhklbdkeoaaTlU5
import Derived.Test.YtjdedhklbdkeoaaTwNO1
import Derived.WalkKit
set_option linter.unusedVariables false
set_option linter.unusedSimpArgs false
set_option maxRecDepth 100000
set_option maxHeartbeats 1000000
namespace Go.Proofs.Ytjdedhklbdkeoaa.Tw
open Go Go.TL Go.Proofs


def impl_VtabOk_J2 (n : Nat) : Option (Bool) :=
  (some true)
def impl_VtabOk_L3 (n : Nat) : Nat → Vtab → Int → Option ((Unit) ⊕ (Bool))
  | 0, _, _ => none
  | mo4 + 1, x0, y3 => (bif (decide (y3 < (x0.Pvid.length : Int))) then ((idx x0.Pvid y3).bind fun v5 => ((impl_RowAtF n x0 v5).bind fun r6 => (bif (decide (r6 < 0)) then (some (Sum.inr false)) else (impl_VtabOk_L3 n mo4 x0 (IntKind.wrap .i64 (y3 + 1)))))) else (some (Sum.inl ())))
def impl_VtabOk_J1 (n : Nat) (x0 : Vtab) : Option (Bool) :=
  ((impl_VtabOk_L3 n n x0 0).bind fun o => match o with | .inl _ => (impl_VtabOk_J2 n) | .inr r => some r)
def impl_VtabOk_L4 (n : Nat) : Nat → Vtab → Int → Int → Option ((Unit) ⊕ (Bool))
  | 0, _, _, _ => none
  | mo7 + 1, x0, x1, y2 => (bif (decide (y2 < (x0.Rows.length : Int))) then ((idx x0.Rows y2).bind fun v8 => ((impl_inF n v8.Id 1 99).bind fun r9 => (bif (!r9) then (some (Sum.inr false)) else (bif (decide (y2 > 0)) then ((idx x0.Rows (IntKind.wrap .i64 (y2 - 1))).bind fun v12 => (bif (decide (v12.Id ≥ v8.Id)) then (some (Sum.inr false)) else ((impl_allPortsF n x1).bind fun r13 => ((impl_inF n v8.Members 0 r13).bind fun r14 => (bif (!r14) then (some (Sum.inr false)) else (bif ((IntKind.wrap .i64 (BitVec.ofInt (IntKind.bits .i64) v8.Bare &&& ~~~BitVec.ofInt (IntKind.bits .i64) v8.Members).toNat) != 0) then (some (Sum.inr false)) else (impl_VtabOk_L4 n mo7 x0 x1 (IntKind.wrap .i64 (y2 + 1))))))))) else ((impl_allPortsF n x1).bind fun r10 => ((impl_inF n v8.Members 0 r10).bind fun r11 => (bif (!r11) then (some (Sum.inr false)) else (bif ((IntKind.wrap .i64 (BitVec.ofInt (IntKind.bits .i64) v8.Bare &&& ~~~BitVec.ofInt (IntKind.bits .i64) v8.Members).toNat) != 0) then (some (Sum.inr false)) else (impl_VtabOk_L4 n mo7 x0 x1 (IntKind.wrap .i64 (y2 + 1))))))))))) else (some (Sum.inl ())))
def impl_VtabOkF (n : Nat) (x0 : Vtab) (x1 : Int) : Option (Bool) :=
  ((impl_inF n x1 1 6).bind fun r1 => (bif (!r1) then (some false) else (bif ((x0.Pvid.length : Int) != x1) then (some false) else (bif (decide ((x0.Rows.length : Int) > 6)) then (some false) else ((impl_VtabOk_L4 n n x0 x1 0).bind fun o => match o with | .inl _ => (impl_VtabOk_J1 n x0) | .inr r => some r)))))
/-- loop.example/g00326/impl.VtabOk -/
theorem impl_VtabOk (n : Nat) (x0 : Vtab) (x1 : Int) (r : Bool) (H : impl_VtabOkF n x0 x1 = some r) : LCall Try.prog 144 [.val true (CV.frzRow (Vtab.row x0)), .val false [.lit (.int .i64 x1)]] [.val false [.lit (.bool r)]] [] := by
  refine LCall.of_body tOk Try.func144 rfl (c := (.seq (.region 0 (rg Try.f144 0) false) (.seq (.seq (.region 1 (rg Try.f144 1) false) (.cond (.tmp 24) (.seq (.region 2 (rg Try.f144 2) false) .ret) .skip)) (.seq (.seq (.region 3 (rg Try.f144 3) false) (.block 0 (.loop (.seq (.region 4 (rg Try.f144 4) false) (.seq (.cond (.tmp 29) .skip (.exit 0)) (.seq (.block 1 (.seq (.region 5 (rg Try.f144 5) false) (.seq (.region 6 (rg Try.f144 6) true) (.cond (.tmp 68) (.seq (.region 7 (rg Try.f144 7) false) .ret) .skip)))) (.region 8 (rg Try.f144 8) false))))))) (.seq (.seq (.region 9 (rg Try.f144 9) false) (.block 2 (.loop (.seq (.region 10 (rg Try.f144 10) false) (.seq (.cond (.tmp 74) .skip (.exit 2)) (.seq (.block 3 (.seq (.region 11 (rg Try.f144 11) false) (.seq (.region 12 (rg Try.f144 12) false) (.cond (.tmp 80) (.seq (.region 13 (rg Try.f144 13) false) .ret) .skip)))) (.region 14 (rg Try.f144 14) false))))))) (.seq (.region 15 (rg Try.f144 15) false) .ret)))))) kr (Nat.le_of_ble_eq_true kr) 0 (rs := [.tmp 4]) rfl [] .nil [(false, [.lit (.bool r)])] [] [] fun cx => ?_
  show Tr _ _ _ ⟨82, 0, [sV 0 (CV.frzRow (Vtab.row x0)), sI 1 x1], []⟩ _
  unfold impl_VtabOkF at H
  refine Tr.rs ?_
  refine LAt.runU tOk 2 kr ?_
  refine LAt.doneM 22 4 kr ?_
  refine Tr.seq ?_
  refine Tr.rs ?_
  refine LAt.runU tOk 1 kr ?_
  obtain ⟨r1, er1, H⟩ := bind_some H
  refine LAt.callU tOk [.rd, .rd, .rd] (f := 70) (av := #[.tmp 9, .const (.int .i64 1), .const (.int .i64 6)]) (ats := #[3, 3, 3]) (d := (some 10)) (ty := 4) (g := none) kr kr kr [] (impl_in n x1 1 6 r1 er1) kr (.inl rfl) ?_
  refine LAt.runU tOk 2 kr ?_
  refine LAt.to ⟨82, 0, [sB 12 (!r1), sB 11 (!r1), sB 10 r1, sI 9 x1, sB 4 false, sA 2 2 2 0, sI 1 x1], [(2, (CV.frzRow (Vtab.row x0)))]⟩ kr ?_
  cases h1 : (!r1)
  · have H := bifF h1 H
    refine LAt.runU tOk 2 kr ?_
    refine LAt.lenE tOk (t := 27) (ty := 3) (e := 3) (x := (.tmp 14)) (d := 15) (g := (some (3, false))) ⟨(.slot 14), [], 0, false, 1, (CV.frzEs (x0.Pvid.map intRow))⟩ (x0.Pvid).length _ kr kr kr kr kr (frz_len _ _) rfl ?_
    refine LAt.runU tOk 4 kr ?_
    refine LAt.to ⟨82, 0, [sB 19 ((x0.Pvid.length : Int) != x1), sB 18 ((x0.Pvid.length : Int) != x1), sB 17 ((x0.Pvid.length : Int) != x1), sI 16 x1, sI 15 (x0.Pvid.length : Int), sC 14 (cF 1 x0.Pvid intRow), sA 13 2 2 1, sB 12 false, sB 11 false, sB 10 r1, sI 9 x1, sB 4 false, sA 2 2 2 0, sI 1 x1], [(2, (CV.frzRow (Vtab.row x0)))]⟩ kr ?_
    cases h2 : ((x0.Pvid.length : Int) != x1)
    · have H := bifF h2 H
      refine LAt.runU tOk 2 kr ?_
      refine LAt.lenE tOk (t := 57) (ty := 3) (e := 138) (x := (.tmp 21)) (d := 22) (g := (some (10, false))) ⟨(.slot 21), [], 0, false, 3, (CV.frzEs (x0.Rows.map Vrow.row))⟩ (x0.Rows).length _ kr kr kr kr kr (frz_len _ _) rfl ?_
      refine LAt.runU tOk 2 kr ?_
      refine LAt.doneM 16777238 4 kr ?_
      refine Tr.to ⟨82, 0, [sB 24 (decide ((x0.Rows.length : Int) > 6)), sB 4 false, sA 2 2 2 0, sI 1 x1], [(2, (CV.frzRow (Vtab.row x0)))]⟩ kr ?_
      cases h3 : (decide ((x0.Rows.length : Int) > 6))
      · have H := bifF h3 H
        refine Tr.cond (b := false) kr (fun h => nomatch h) (fun _ => ?_)
        refine Tr.skip ?_
        show Tr _ _ _ _ _
        refine Tr.seq ?_
        refine Tr.rs ?_
        refine LAt.runU tOk 2 kr ?_
        refine LAt.lenE tOk (t := 57) (ty := 3) (e := 138) (x := (.tmp 26)) (d := 27) (g := none) ⟨(.slot 26), [], 0, false, 3, (CV.frzEs (x0.Rows.map Vrow.row))⟩ (x0.Rows).length _ kr kr kr kr kr (frz_len _ _) rfl ?_
        refine LAt.runU tOk 1 kr ?_
        refine LAt.doneM 469762070 4 kr ?_
        obtain ⟨o7, eo7, Ho7⟩ := bind_some H
        clear H
        refine Tr.mid (ι := Unit) (fun v => ⟨82, 0, [sB 4 false, sA 2 2 2 0], [(2, (CV.frzRow (Vtab.row x0)))]⟩) (fun v => impl_VtabOk_J1 n x0 = some r) ?_ ?_
        · refine Tr.block ?_
          refine Tr.loop (ι := Nat × (Int)) (fun v => ⟨82, 0, [sI 28 v.2, sI 27 (x0.Rows.length : Int), sC 26 (cF 3 x0.Rows Vrow.row), sB 4 false, sA 2 2 2 0, sI 1 x1], [(2, (CV.frzRow (Vtab.row x0)))]⟩) (fun v => impl_VtabOk_L4 n v.1 x0 x1 v.2 = some o7) (fun v => v.1) (n, 0) eo7 (St.sub_of [28, 27, 26, 4, 2, 1] [2] kr) ?_
          rintro ⟨mo7, y2⟩ H
          have H : impl_VtabOk_L4 n mo7 x0 x1 y2 = some o7 := H
          obtain _ | mo7 := mo7
          · cases (show (none : Option _) = some o7 from H)
          · rw [impl_VtabOk_L4] at H
            refine Tr.rs ?_
            refine LAt.runU tOk 1 kr ?_
            refine LAt.doneM 1006632982 4 kr ?_
            refine Tr.seq ?_
            refine Tr.to ⟨82, 0, [sB 29 (decide (y2 < (x0.Rows.length : Int))), sI 28 y2, sI 27 (x0.Rows.length : Int), sC 26 (cF 3 x0.Rows Vrow.row), sB 4 false, sA 2 2 2 0, sI 1 x1], [(2, (CV.frzRow (Vtab.row x0)))]⟩ kr ?_
            cases h6 : (decide (y2 < (x0.Rows.length : Int)))
            · have H := bifF h6 H
              refine Tr.cond (b := false) kr (fun h => nomatch h) (fun _ => ?_)
              refine Tr.exit ?_
              refine And.intro (fun _ => ?_) (fun h => absurd rfl h)
              have H := Option.some.inj H
              subst H
              have H := Ho7
              dsimp only at H
              exact Exists.intro () (And.intro H (St.sub_of [4, 2] [2] kr))
            · have H := bifT h6 H
              refine Tr.cond (b := true) kr (fun _ => ?_) (fun h => nomatch h)
              refine Tr.skip ?_
              show Tr _ _ _ _ _
              refine Tr.seq ?_
              refine Tr.block ?_
              refine Tr.rs ?_
              refine LAt.runU tOk 1 kr ?_
              obtain ⟨v8, ev8, H⟩ := bind_some H
              refine LAt.indexF tOk (t := 57) (ty := 0) (x := (.tmp 26)) (y := (.tmp 28)) (d := 31) (g := none) ⟨(.slot 26), [], 0, false, 3, (CV.frzEs (x0.Rows.map Vrow.row))⟩ y2 (Vrow.row v8) _ kr kr kr kr rfl (idx_isF ev8) rfl ?_
              refine LAt.runU tOk 4 kr ?_
              refine LAt.doneM 8522825846 68 kr ?_
              obtain ⟨r9, er9, H⟩ := bind_some H
              refine Tr.to ⟨82, 0, [sI 5 y2, sA 6 6 3 0, sV 32 (Vrow.row v8), (31, .fad ((Vrow.row v8))), sI 30 y2, sB 29 true, sI 28 y2, sI 27 (x0.Rows.length : Int), sC 26 (cF 3 x0.Rows Vrow.row), sB 4 false, sA 2 2 2 0, sI 1 x1], [(6, (Vrow.row v8)), (2, (CV.frzRow (Vtab.row x0)))]⟩ kr ?_
              cases h7 : (!r9)
              · have H := bifF h7 H
                refine Tr.to ⟨82, 0, [sI 5 y2, sA 6 6 3 0, sV 32 (Vrow.row v8), (31, .fad ((Vrow.row v8))), sI 30 y2, sB 29 true, sI 28 y2, sI 27 (x0.Rows.length : Int), sC 26 (cF 3 x0.Rows Vrow.row), sB 4 false, sA 2 2 2 0, sI 1 x1], [(6, (Vrow.row v8)), (2, (CV.frzRow (Vtab.row x0)))]⟩ kr ?_
                cases h8 : (decide (y2 > 0))
                · have H := bifF h8 H
                  obtain ⟨r10, er10, H⟩ := bind_some H
                  obtain ⟨r11, er11, H⟩ := bind_some H
                  refine Tr.to ⟨82, 0, [sI 5 y2, sA 6 6 3 0, sV 32 (Vrow.row v8), (31, .fad ((Vrow.row v8))), sI 30 y2, sB 29 true, sI 28 y2, sI 27 (x0.Rows.length : Int), sC 26 (cF 3 x0.Rows Vrow.row), sB 4 false, sA 2 2 2 0, sI 1 x1], [(6, (Vrow.row v8)), (2, (CV.frzRow (Vtab.row x0)))]⟩ kr ?_
                  cases h9 : (!r11)
                  · have H := bifF h9 H
                    refine Tr.draws mixed 36 kr ⟨82, 0, [sB 68 ((IntKind.wrap .i64 (BitVec.ofInt (IntKind.bits .i64) v8.Bare &&& ~~~BitVec.ofInt (IntKind.bits .i64) v8.Members).toNat) != 0), sB 67 ((IntKind.wrap .i64 (BitVec.ofInt (IntKind.bits .i64) v8.Bare &&& ~~~BitVec.ofInt (IntKind.bits .i64) v8.Members).toNat) != 0), sI 66 (IntKind.wrap .i64 (BitVec.ofInt (IntKind.bits .i64) v8.Bare &&& ~~~BitVec.ofInt (IntKind.bits .i64) v8.Members).toNat), sI 65 v8.Members, sA 64 6 3 1, sI 63 v8.Bare, sA 62 6 3 2, sB 61 false, sB 60 false, sB 59 false, sB 58 r11, sI 57 r10, sI 56 x1, sI 55 v8.Members, sA 54 6 3 1, sB 53 false, sB 52 false, sB 51 false, (50, .tup []), (49, .tup []), (48, .tup []), (47, .tup []), (46, .tup []), (45, .tup []), (44, .tup []), (43, .tup []), (42, .tup []), (41, .tup []), sB 40 false, sB 39 false, sI 38 y2, sB 37 false, sB 36 false, sB 35 r9, sI 34 v8.Id, sA 33 6 3 0, sI 5 y2, sA 6 6 3 0, sV 32 (Vrow.row v8), (31, .fad ((Vrow.row v8))), sI 30 y2, sB 29 true, sI 28 y2, sI 27 (x0.Rows.length : Int), sC 26 (cF 3 x0.Rows Vrow.row), sB 4 false, sA 2 2 2 0, sI 1 x1], [(6, (Vrow.row v8)), (2, (CV.frzRow (Vtab.row x0)))]⟩ (fun cx => ?_) ?_
                    · refine AT.runU tOk [(0, []), (1, [2, 24, 25])] 34 [⟨[2, 24, 25], 3, 33, 34⟩] [1, 0] rfl kr (fun cx => ?_)
                      refine AT.big1 tOk 2 kr kr ?_
                      refine LAt.callU tOk [.rd, .rd, .rd] (f := 70) (av := #[.tmp 34, .const (.int .i64 1), .const (.int .i64 99)]) (ats := #[3, 3, 3]) (d := (some 35)) (ty := 4) (g := none) kr kr kr [] (impl_in n v8.Id 1 99 r9 er9) kr (.inl rfl) ?_
                      refine LAt.fin kr (And.intro (And.intro kr kr) ?_)
                      refine AT.runU tOk [(3, []), (4, [])] 31 [⟨[2, 24, 25], 3, 33, 34⟩] [4, 3, 2, 1, 0] rfl kr (fun cx => ?_)
                      refine AT.to ⟨82, 0, [sB 37 (!r9), sB 36 (!r9), sB 35 r9, sI 34 v8.Id, sA 33 6 3 0, sI 5 y2, sA 6 6 3 0, sV 32 (Vrow.row v8), (31, .fad ((Vrow.row v8))), sI 30 y2, sB 29 true, sI 28 y2, sI 27 (x0.Rows.length : Int), sC 26 (cF 3 x0.Rows Vrow.row), sB 4 false, sA 2 2 2 0, sI 1 x1], [(6, (Vrow.row v8)), (2, (CV.frzRow (Vtab.row x0)))]⟩ kr ?_
                      rw [h7]
                      refine AT.runU tOk [(5, []), (6, []), (7, [])] 28 [⟨[2, 24, 25], 3, 33, 34⟩] [7, 6, 5, 4, 3, 2, 1, 0] rfl kr (fun cx => ?_)
                      refine AT.to ⟨82, 0, [sB 40 (decide (y2 > 0)), sB 39 (decide (y2 > 0)), sI 38 y2, sB 37 false, sB 36 false, sB 35 r9, sI 34 v8.Id, sA 33 6 3 0, sI 5 y2, sA 6 6 3 0, sV 32 (Vrow.row v8), (31, .fad ((Vrow.row v8))), sI 30 y2, sB 29 true, sI 28 y2, sI 27 (x0.Rows.length : Int), sC 26 (cF 3 x0.Rows Vrow.row), sB 4 false, sA 2 2 2 0, sI 1 x1], [(6, (Vrow.row v8)), (2, (CV.frzRow (Vtab.row x0)))]⟩ kr ?_
                      rw [h8]
                      refine AT.runU tOk [(8, []), (9, []), (10, []), (11, []), (12, []), (13, []), (14, []), (15, []), (16, []), (17, []), (18, []), (19, []), (20, []), (21, []), (22, [25]), (23, [])] 12 [⟨[25], 3, 54, 55⟩, ⟨[2, 24, 25], 3, 33, 34⟩] [23, 22, 21, 20, 19, 18, 17, 16, 15, 14, 13, 12, 11, 10, 9, 8, 7, 6, 5, 4, 3, 2, 1, 0] rfl kr (fun cx => ?_)
                      refine AT.big1 tOk 24 kr kr ?_
                      refine LAt.callU tOk [.rd] (f := 178) (av := #[.tmp 56]) (ats := #[3]) (d := (some 57)) (ty := 3) (g := (some (20, false))) kr kr kr [] (impl_allPorts n x1 r10 er10) kr (.inl rfl) ?_
                      refine LAt.fin kr (And.intro (And.intro kr kr) ?_)
                      refine AT.big1 tOk 25 kr kr ?_
                      refine LAt.callU tOk [.rd, .rd, .rd] (f := 70) (av := #[.tmp 55, .const (.int .i64 0), .tmp 57]) (ats := #[3, 3, 3]) (d := (some 58)) (ty := 4) (g := (some (20, false))) kr kr kr [] (impl_in n v8.Members 0 r10 r11 er11) kr (.inl rfl) ?_
                      refine LAt.fin kr (And.intro (And.intro kr kr) ?_)
                      refine AT.runU tOk [(26, []), (27, []), (28, [])] 7 [⟨[25], 3, 54, 55⟩, ⟨[2, 24, 25], 3, 33, 34⟩] [28, 27, 26, 25, 24, 23, 22, 21, 20, 19, 18, 17, 16, 15, 14, 13, 12, 11, 10, 9, 8, 7, 6, 5, 4, 3, 2, 1, 0] rfl kr (fun cx => ?_)
                      refine AT.to ⟨82, 0, [sB 61 (!r11), sB 60 (!r11), sB 59 (!r11), sB 58 r11, sI 57 r10, sI 56 x1, sI 55 v8.Members, sA 54 6 3 1, sB 53 false, sB 52 false, sB 51 false, (50, .tup []), (49, .tup []), (48, .tup []), (47, .tup []), (46, .tup []), (45, .tup []), (44, .tup []), (43, .tup []), (42, .tup []), (41, .tup []), sB 40 false, sB 39 false, sI 38 y2, sB 37 false, sB 36 false, sB 35 r9, sI 34 v8.Id, sA 33 6 3 0, sI 5 y2, sA 6 6 3 0, sV 32 (Vrow.row v8), (31, .fad ((Vrow.row v8))), sI 30 y2, sB 29 true, sI 28 y2, sI 27 (x0.Rows.length : Int), sC 26 (cF 3 x0.Rows Vrow.row), sB 4 false, sA 2 2 2 0, sI 1 x1], [(6, (Vrow.row v8)), (2, (CV.frzRow (Vtab.row x0)))]⟩ kr ?_
                      rw [h9]
                      refine AT.runU tOk [(29, []), (30, []), (31, []), (32, []), (33, []), (34, []), (35, [])] 0 [⟨[], 3, 64, 65⟩, ⟨[], 3, 62, 63⟩, ⟨[25], 3, 54, 55⟩, ⟨[2, 24, 25], 3, 33, 34⟩] [35, 34, 33, 32, 31, 30, 29, 28, 27, 26, 25, 24, 23, 22, 21, 20, 19, 18, 17, 16, 15, 14, 13, 12, 11, 10, 9, 8, 7, 6, 5, 4, 3, 2, 1, 0] rfl kr (fun cx => ?_)
                      exact AT.done [68, 67, 66, 65, 64, 63, 62, 61, 60, 59, 58, 57, 56, 55, 54, 53, 52, 51, 50, 49, 48, 47, 46, 45, 44, 43, 42, 41, 40, 39, 38, 37, 36, 35, 34, 33, 5, 6, 32, 31, 30, 29, 28, 27, 26, 4, 2, 1] [6, 2] _ kr kr rfl
                    · refine Tr.to ⟨82, 0, [sB 68 ((IntKind.wrap .i64 (BitVec.ofInt (IntKind.bits .i64) v8.Bare &&& ~~~BitVec.ofInt (IntKind.bits .i64) v8.Members).toNat) != 0), sB 67 ((IntKind.wrap .i64 (BitVec.ofInt (IntKind.bits .i64) v8.Bare &&& ~~~BitVec.ofInt (IntKind.bits .i64) v8.Members).toNat) != 0), sI 66 (IntKind.wrap .i64 (BitVec.ofInt (IntKind.bits .i64) v8.Bare &&& ~~~BitVec.ofInt (IntKind.bits .i64) v8.Members).toNat), sI 65 v8.Members, sA 64 6 3 1, sI 63 v8.Bare, sA 62 6 3 2, sB 61 false, sB 60 false, sB 59 false, sB 58 r11, sI 57 r10, sI 56 x1, sI 55 v8.Members, sA 54 6 3 1, sB 53 false, sB 52 false, sB 51 false, (50, .tup []), (49, .tup []), (48, .tup []), (47, .tup []), (46, .tup []), (45, .tup []), (44, .tup []), (43, .tup []), (42, .tup []), (41, .tup []), sB 40 false, sB 39 false, sI 38 y2, sB 37 false, sB 36 false, sB 35 r9, sI 34 v8.Id, sA 33 6 3 0, sI 5 y2, sA 6 6 3 0, sV 32 (Vrow.row v8), (31, .fad ((Vrow.row v8))), sI 30 y2, sB 29 true, sI 28 y2, sI 27 (x0.Rows.length : Int), sC 26 (cF 3 x0.Rows Vrow.row), sB 4 false, sA 2 2 2 0, sI 1 x1], [(6, (Vrow.row v8)), (2, (CV.frzRow (Vtab.row x0)))]⟩ kr ?_
                      cases h10 : ((IntKind.wrap .i64 (BitVec.ofInt (IntKind.bits .i64) v8.Bare &&& ~~~BitVec.ofInt (IntKind.bits .i64) v8.Members).toNat) != 0)
                      · have H := bifF h10 H
                        refine Tr.cond (b := false) kr (fun h => nomatch h) (fun _ => ?_)
                        refine Tr.skip ?_
                        show Tr _ _ _ _ _
                        refine Tr.at ?_
                        refine LAt.runU tOk 2 kr ?_
                        refine LAt.doneM 1180591620717344194678 68 kr ?_
                        exact Exists.intro (mo7, (IntKind.wrap .i64 (y2 + 1))) (And.intro H (And.intro (Nat.lt_succ_self mo7) (St.sub_of [28, 27, 26, 4, 2, 1] [2] kr)))
                      · have H := bifT h10 H
                        refine Tr.cond (b := true) kr (fun _ => ?_) (fun h => nomatch h)
                        refine Tr.rs ?_
                        refine LAt.runU tOk 1 kr ?_
                        refine LAt.doneM 590295810358638542966 68 kr ?_
                        refine Tr.ret ?_
                        have H := Option.some.inj H
                        subst H
                        have H := Ho7
                        dsimp only at H
                        have H := Option.some.inj H
                        subst H
                        exact Fin.of _ [(false, [cB false])] kr rfl rfl
                  · have H := bifT h9 H
                    refine Tr.draws mixed 36 kr ⟨82, 0, [sB 68 true, (67, .tup []), (66, .tup []), (65, .tup []), (64, .tup []), (63, .tup []), (62, .tup []), sB 61 true, sB 60 true, sB 59 true, sB 58 r11, sI 57 r10, sI 56 x1, sI 55 v8.Members, sA 54 6 3 1, sB 53 false, sB 52 false, sB 51 false, (50, .tup []), (49, .tup []), (48, .tup []), (47, .tup []), (46, .tup []), (45, .tup []), (44, .tup []), (43, .tup []), (42, .tup []), (41, .tup []), sB 40 false, sB 39 false, sI 38 y2, sB 37 false, sB 36 false, sB 35 r9, sI 34 v8.Id, sA 33 6 3 0, sI 5 y2, sA 6 6 3 0, sV 32 (Vrow.row v8), (31, .fad ((Vrow.row v8))), sI 30 y2, sB 29 true, sI 28 y2, sI 27 (x0.Rows.length : Int), sC 26 (cF 3 x0.Rows Vrow.row), sB 4 false, sA 2 2 2 0, sI 1 x1], [(6, (Vrow.row v8)), (2, (CV.frzRow (Vtab.row x0)))]⟩ (fun cx => ?_) ?_
                    · refine AT.runU tOk [(0, []), (1, [2, 24, 25])] 34 [⟨[2, 24, 25], 3, 33, 34⟩] [1, 0] rfl kr (fun cx => ?_)
                      refine AT.big1 tOk 2 kr kr ?_
                      refine LAt.callU tOk [.rd, .rd, .rd] (f := 70) (av := #[.tmp 34, .const (.int .i64 1), .const (.int .i64 99)]) (ats := #[3, 3, 3]) (d := (some 35)) (ty := 4) (g := none) kr kr kr [] (impl_in n v8.Id 1 99 r9 er9) kr (.inl rfl) ?_
                      refine LAt.fin kr (And.intro (And.intro kr kr) ?_)
                      refine AT.runU tOk [(3, []), (4, [])] 31 [⟨[2, 24, 25], 3, 33, 34⟩] [4, 3, 2, 1, 0] rfl kr (fun cx => ?_)
                      refine AT.to ⟨82, 0, [sB 37 (!r9), sB 36 (!r9), sB 35 r9, sI 34 v8.Id, sA 33 6 3 0, sI 5 y2, sA 6 6 3 0, sV 32 (Vrow.row v8), (31, .fad ((Vrow.row v8))), sI 30 y2, sB 29 true, sI 28 y2, sI 27 (x0.Rows.length : Int), sC 26 (cF 3 x0.Rows Vrow.row), sB 4 false, sA 2 2 2 0, sI 1 x1], [(6, (Vrow.row v8)), (2, (CV.frzRow (Vtab.row x0)))]⟩ kr ?_
                      rw [h7]
                      refine AT.runU tOk [(5, []), (6, []), (7, [])] 28 [⟨[2, 24, 25], 3, 33, 34⟩] [7, 6, 5, 4, 3, 2, 1, 0] rfl kr (fun cx => ?_)
                      refine AT.to ⟨82, 0, [sB 40 (decide (y2 > 0)), sB 39 (decide (y2 > 0)), sI 38 y2, sB 37 false, sB 36 false, sB 35 r9, sI 34 v8.Id, sA 33 6 3 0, sI 5 y2, sA 6 6 3 0, sV 32 (Vrow.row v8), (31, .fad ((Vrow.row v8))), sI 30 y2, sB 29 true, sI 28 y2, sI 27 (x0.Rows.length : Int), sC 26 (cF 3 x0.Rows Vrow.row), sB 4 false, sA 2 2 2 0, sI 1 x1], [(6, (Vrow.row v8)), (2, (CV.frzRow (Vtab.row x0)))]⟩ kr ?_
                      rw [h8]
                      refine AT.runU tOk [(8, []), (9, []), (10, []), (11, []), (12, []), (13, []), (14, []), (15, []), (16, []), (17, []), (18, []), (19, []), (20, []), (21, []), (22, [25]), (23, [])] 12 [⟨[25], 3, 54, 55⟩, ⟨[2, 24, 25], 3, 33, 34⟩] [23, 22, 21, 20, 19, 18, 17, 16, 15, 14, 13, 12, 11, 10, 9, 8, 7, 6, 5, 4, 3, 2, 1, 0] rfl kr (fun cx => ?_)
                      refine AT.big1 tOk 24 kr kr ?_
                      refine LAt.callU tOk [.rd] (f := 178) (av := #[.tmp 56]) (ats := #[3]) (d := (some 57)) (ty := 3) (g := (some (20, false))) kr kr kr [] (impl_allPorts n x1 r10 er10) kr (.inl rfl) ?_
                      refine LAt.fin kr (And.intro (And.intro kr kr) ?_)
                      refine AT.big1 tOk 25 kr kr ?_
                      refine LAt.callU tOk [.rd, .rd, .rd] (f := 70) (av := #[.tmp 55, .const (.int .i64 0), .tmp 57]) (ats := #[3, 3, 3]) (d := (some 58)) (ty := 4) (g := (some (20, false))) kr kr kr [] (impl_in n v8.Members 0 r10 r11 er11) kr (.inl rfl) ?_
                      refine LAt.fin kr (And.intro (And.intro kr kr) ?_)
                      refine AT.runU tOk [(26, []), (27, []), (28, [])] 7 [⟨[25], 3, 54, 55⟩, ⟨[2, 24, 25], 3, 33, 34⟩] [28, 27, 26, 25, 24, 23, 22, 21, 20, 19, 18, 17, 16, 15, 14, 13, 12, 11, 10, 9, 8, 7, 6, 5, 4, 3, 2, 1, 0] rfl kr (fun cx => ?_)
                      refine AT.to ⟨82, 0, [sB 61 (!r11), sB 60 (!r11), sB 59 (!r11), sB 58 r11, sI 57 r10, sI 56 x1, sI 55 v8.Members, sA 54 6 3 1, sB 53 false, sB 52 false, sB 51 false, (50, .tup []), (49, .tup []), (48, .tup []), (47, .tup []), (46, .tup []), (45, .tup []), (44, .tup []), (43, .tup []), (42, .tup []), (41, .tup []), sB 40 false, sB 39 false, sI 38 y2, sB 37 false, sB 36 false, sB 35 r9, sI 34 v8.Id, sA 33 6 3 0, sI 5 y2, sA 6 6 3 0, sV 32 (Vrow.row v8), (31, .fad ((Vrow.row v8))), sI 30 y2, sB 29 true, sI 28 y2, sI 27 (x0.Rows.length : Int), sC 26 (cF 3 x0.Rows Vrow.row), sB 4 false, sA 2 2 2 0, sI 1 x1], [(6, (Vrow.row v8)), (2, (CV.frzRow (Vtab.row x0)))]⟩ kr ?_
                      rw [h9]
                      refine AT.runU tOk [(29, []), (30, []), (31, []), (32, []), (33, []), (34, []), (35, [])] 0 [⟨[25], 3, 54, 55⟩, ⟨[2, 24, 25], 3, 33, 34⟩] [35, 34, 33, 32, 31, 30, 29, 28, 27, 26, 25, 24, 23, 22, 21, 20, 19, 18, 17, 16, 15, 14, 13, 12, 11, 10, 9, 8, 7, 6, 5, 4, 3, 2, 1, 0] rfl kr (fun cx => ?_)
                      exact AT.done [68, 67, 66, 65, 64, 63, 62, 61, 60, 59, 58, 57, 56, 55, 54, 53, 52, 51, 50, 49, 48, 47, 46, 45, 44, 43, 42, 41, 40, 39, 38, 37, 36, 35, 34, 33, 5, 6, 32, 31, 30, 29, 28, 27, 26, 4, 2, 1] [6, 2] _ kr kr rfl
                    · refine Tr.cond (b := true) kr (fun _ => ?_) (fun h => nomatch h)
                      refine Tr.rs ?_
                      refine LAt.runU tOk 1 kr ?_
                      refine LAt.doneM 590295810358638542966 68 kr ?_
                      refine Tr.ret ?_
                      have H := Option.some.inj H
                      subst H
                      have H := Ho7
                      dsimp only at H
                      have H := Option.some.inj H
                      subst H
                      exact Fin.of _ [(false, [cB false])] kr rfl rfl
                · have H := bifT h8 H
                  obtain ⟨v12, ev12, H⟩ := bind_some H
                  refine Tr.to ⟨82, 0, [sI 5 y2, sA 6 6 3 0, sV 32 (Vrow.row v8), (31, .fad ((Vrow.row v8))), sI 30 y2, sB 29 true, sI 28 y2, sI 27 (x0.Rows.length : Int), sC 26 (cF 3 x0.Rows Vrow.row), sB 4 false, sA 2 2 2 0, sI 1 x1], [(6, (Vrow.row v8)), (2, (CV.frzRow (Vtab.row x0)))]⟩ kr ?_
                  cases h11 : (decide (v12.Id ≥ v8.Id))
                  · have H := bifF h11 H
                    obtain ⟨r13, er13, H⟩ := bind_some H
                    obtain ⟨r14, er14, H⟩ := bind_some H
                    refine Tr.to ⟨82, 0, [sI 5 y2, sA 6 6 3 0, sV 32 (Vrow.row v8), (31, .fad ((Vrow.row v8))), sI 30 y2, sB 29 true, sI 28 y2, sI 27 (x0.Rows.length : Int), sC 26 (cF 3 x0.Rows Vrow.row), sB 4 false, sA 2 2 2 0, sI 1 x1], [(6, (Vrow.row v8)), (2, (CV.frzRow (Vtab.row x0)))]⟩ kr ?_
                    cases h12 : (!r14)
                    · have H := bifF h12 H
                      refine Tr.draws mixed 36 kr ⟨82, 0, [sB 68 ((IntKind.wrap .i64 (BitVec.ofInt (IntKind.bits .i64) v8.Bare &&& ~~~BitVec.ofInt (IntKind.bits .i64) v8.Members).toNat) != 0), sB 67 ((IntKind.wrap .i64 (BitVec.ofInt (IntKind.bits .i64) v8.Bare &&& ~~~BitVec.ofInt (IntKind.bits .i64) v8.Members).toNat) != 0), sI 66 (IntKind.wrap .i64 (BitVec.ofInt (IntKind.bits .i64) v8.Bare &&& ~~~BitVec.ofInt (IntKind.bits .i64) v8.Members).toNat), sI 65 v8.Members, sA 64 6 3 1, sI 63 v8.Bare, sA 62 6 3 2, sB 61 false, sB 60 false, sB 59 false, sB 58 r14, sI 57 r13, sI 56 x1, sI 55 v8.Members, sA 54 6 3 1, sB 53 false, sB 52 false, sB 51 false, sB 50 false, sI 49 v8.Id, sA 48 6 3 0, sI 47 v12.Id, (46, .fad ((Vrow.row v12))), (45, .fad ((Vrow.row v12))), sI 44 (IntKind.wrap .i64 (y2 - 1)), sI 43 y2, sR 42 2 2 0 1 false, sA 41 2 2 0, sB 40 true, sB 39 true, sI 38 y2, sB 37 false, sB 36 false, sB 35 r9, sI 34 v8.Id, sA 33 6 3 0, sI 5 y2, sA 6 6 3 0, sV 32 (Vrow.row v8), (31, .fad ((Vrow.row v8))), sI 30 y2, sB 29 true, sI 28 y2, sI 27 (x0.Rows.length : Int), sC 26 (cF 3 x0.Rows Vrow.row), sB 4 false, sA 2 2 2 0, sI 1 x1], [(6, (Vrow.row v8)), (2, (CV.frzRow (Vtab.row x0)))]⟩ (fun cx => ?_) ?_
                      · refine AT.runU tOk [(0, []), (1, [2, 24, 25])] 34 [⟨[2, 24, 25], 3, 33, 34⟩] [1, 0] rfl kr (fun cx => ?_)
                        refine AT.big1 tOk 2 kr kr ?_
                        refine LAt.callU tOk [.rd, .rd, .rd] (f := 70) (av := #[.tmp 34, .const (.int .i64 1), .const (.int .i64 99)]) (ats := #[3, 3, 3]) (d := (some 35)) (ty := 4) (g := none) kr kr kr [] (impl_in n v8.Id 1 99 r9 er9) kr (.inl rfl) ?_
                        refine LAt.fin kr (And.intro (And.intro kr kr) ?_)
                        refine AT.runU tOk [(3, []), (4, [])] 31 [⟨[2, 24, 25], 3, 33, 34⟩] [4, 3, 2, 1, 0] rfl kr (fun cx => ?_)
                        refine AT.to ⟨82, 0, [sB 37 (!r9), sB 36 (!r9), sB 35 r9, sI 34 v8.Id, sA 33 6 3 0, sI 5 y2, sA 6 6 3 0, sV 32 (Vrow.row v8), (31, .fad ((Vrow.row v8))), sI 30 y2, sB 29 true, sI 28 y2, sI 27 (x0.Rows.length : Int), sC 26 (cF 3 x0.Rows Vrow.row), sB 4 false, sA 2 2 2 0, sI 1 x1], [(6, (Vrow.row v8)), (2, (CV.frzRow (Vtab.row x0)))]⟩ kr ?_
                        rw [h7]
                        refine AT.runU tOk [(5, []), (6, []), (7, [])] 28 [⟨[2, 24, 25], 3, 33, 34⟩] [7, 6, 5, 4, 3, 2, 1, 0] rfl kr (fun cx => ?_)
                        refine AT.to ⟨82, 0, [sB 40 (decide (y2 > 0)), sB 39 (decide (y2 > 0)), sI 38 y2, sB 37 false, sB 36 false, sB 35 r9, sI 34 v8.Id, sA 33 6 3 0, sI 5 y2, sA 6 6 3 0, sV 32 (Vrow.row v8), (31, .fad ((Vrow.row v8))), sI 30 y2, sB 29 true, sI 28 y2, sI 27 (x0.Rows.length : Int), sC 26 (cF 3 x0.Rows Vrow.row), sB 4 false, sA 2 2 2 0, sI 1 x1], [(6, (Vrow.row v8)), (2, (CV.frzRow (Vtab.row x0)))]⟩ kr ?_
                        rw [h8]
                        refine AT.runU tOk [(8, []), (9, [24, 25]), (10, []), (11, [])] 24 [⟨[24, 25], 57, 41, 42⟩, ⟨[2, 24, 25], 3, 33, 34⟩] [11, 10, 9, 8, 7, 6, 5, 4, 3, 2, 1, 0] rfl kr (fun cx => ?_)
                        refine AT.indexF tOk 12 (t := 57) (ty := 0) (x := (.tmp 42)) (y := (.tmp 44)) (d := 45) (g := (some (7, true))) ⟨(.box 2), [(0, 0)], 0, false, 3, (CV.frzEs (x0.Rows.map Vrow.row))⟩ (IntKind.wrap .i64 (y2 - 1)) (Vrow.row v12) _ kr kr kr kr kr kr rfl (idx_isF ev12) rfl (fun cx => ?_)
                        refine AT.runU tOk [(13, []), (14, []), (15, []), (16, [24, 25]), (17, []), (18, []), (19, []), (20, [])] 15 [⟨[24, 25], 3, 48, 49⟩, ⟨[24, 25], 57, 41, 42⟩, ⟨[2, 24, 25], 3, 33, 34⟩] [20, 19, 18, 17, 16, 15, 14, 13, 12, 11, 10, 9, 8, 7, 6, 5, 4, 3, 2, 1, 0] rfl kr (fun cx => ?_)
                        refine AT.to ⟨82, 0, [sB 53 (decide (v12.Id ≥ v8.Id)), sB 52 (decide (v12.Id ≥ v8.Id)), sB 51 (decide (v12.Id ≥ v8.Id)), sB 50 (decide (v12.Id ≥ v8.Id)), sI 49 v8.Id, sA 48 6 3 0, sI 47 v12.Id, (46, .fad ((Vrow.row v12))), (45, .fad ((Vrow.row v12))), sI 44 (IntKind.wrap .i64 (y2 - 1)), sI 43 y2, sR 42 2 2 0 1 false, sA 41 2 2 0, sB 40 true, sB 39 true, sI 38 y2, sB 37 false, sB 36 false, sB 35 r9, sI 34 v8.Id, sA 33 6 3 0, sI 5 y2, sA 6 6 3 0, sV 32 (Vrow.row v8), (31, .fad ((Vrow.row v8))), sI 30 y2, sB 29 true, sI 28 y2, sI 27 (x0.Rows.length : Int), sC 26 (cF 3 x0.Rows Vrow.row), sB 4 false, sA 2 2 2 0, sI 1 x1], [(6, (Vrow.row v8)), (2, (CV.frzRow (Vtab.row x0)))]⟩ kr ?_
                        rw [h11]
                        refine AT.runU tOk [(21, []), (22, [25]), (23, [])] 12 [⟨[25], 3, 54, 55⟩, ⟨[24, 25], 3, 48, 49⟩, ⟨[24, 25], 57, 41, 42⟩, ⟨[2, 24, 25], 3, 33, 34⟩] [23, 22, 21, 20, 19, 18, 17, 16, 15, 14, 13, 12, 11, 10, 9, 8, 7, 6, 5, 4, 3, 2, 1, 0] rfl kr (fun cx => ?_)
                        refine AT.big1 tOk 24 kr kr ?_
                        refine LAt.callU tOk [.rd] (f := 178) (av := #[.tmp 56]) (ats := #[3]) (d := (some 57)) (ty := 3) (g := (some (20, false))) kr kr kr [] (impl_allPorts n x1 r13 er13) kr (.inl rfl) ?_
                        refine LAt.fin kr (And.intro (And.intro kr kr) ?_)
                        refine AT.big1 tOk 25 kr kr ?_
                        refine LAt.callU tOk [.rd, .rd, .rd] (f := 70) (av := #[.tmp 55, .const (.int .i64 0), .tmp 57]) (ats := #[3, 3, 3]) (d := (some 58)) (ty := 4) (g := (some (20, false))) kr kr kr [] (impl_in n v8.Members 0 r13 r14 er14) kr (.inl rfl) ?_
                        refine LAt.fin kr (And.intro (And.intro kr kr) ?_)
                        refine AT.runU tOk [(26, []), (27, []), (28, [])] 7 [⟨[25], 3, 54, 55⟩, ⟨[24, 25], 3, 48, 49⟩, ⟨[24, 25], 57, 41, 42⟩, ⟨[2, 24, 25], 3, 33, 34⟩] [28, 27, 26, 25, 24, 23, 22, 21, 20, 19, 18, 17, 16, 15, 14, 13, 12, 11, 10, 9, 8, 7, 6, 5, 4, 3, 2, 1, 0] rfl kr (fun cx => ?_)
                        refine AT.to ⟨82, 0, [sB 61 (!r14), sB 60 (!r14), sB 59 (!r14), sB 58 r14, sI 57 r13, sI 56 x1, sI 55 v8.Members, sA 54 6 3 1, sB 53 false, sB 52 false, sB 51 false, sB 50 false, sI 49 v8.Id, sA 48 6 3 0, sI 47 v12.Id, (46, .fad ((Vrow.row v12))), (45, .fad ((Vrow.row v12))), sI 44 (IntKind.wrap .i64 (y2 - 1)), sI 43 y2, sR 42 2 2 0 1 false, sA 41 2 2 0, sB 40 true, sB 39 true, sI 38 y2, sB 37 false, sB 36 false, sB 35 r9, sI 34 v8.Id, sA 33 6 3 0, sI 5 y2, sA 6 6 3 0, sV 32 (Vrow.row v8), (31, .fad ((Vrow.row v8))), sI 30 y2, sB 29 true, sI 28 y2, sI 27 (x0.Rows.length : Int), sC 26 (cF 3 x0.Rows Vrow.row), sB 4 false, sA 2 2 2 0, sI 1 x1], [(6, (Vrow.row v8)), (2, (CV.frzRow (Vtab.row x0)))]⟩ kr ?_
                        rw [h12]
                        refine AT.runU tOk [(29, []), (30, []), (31, []), (32, []), (33, []), (34, []), (35, [])] 0 [⟨[], 3, 64, 65⟩, ⟨[], 3, 62, 63⟩, ⟨[25], 3, 54, 55⟩, ⟨[24, 25], 3, 48, 49⟩, ⟨[24, 25], 57, 41, 42⟩, ⟨[2, 24, 25], 3, 33, 34⟩] [35, 34, 33, 32, 31, 30, 29, 28, 27, 26, 25, 24, 23, 22, 21, 20, 19, 18, 17, 16, 15, 14, 13, 12, 11, 10, 9, 8, 7, 6, 5, 4, 3, 2, 1, 0] rfl kr (fun cx => ?_)
                        exact AT.done [68, 67, 66, 65, 64, 63, 62, 61, 60, 59, 58, 57, 56, 55, 54, 53, 52, 51, 50, 49, 48, 47, 46, 45, 44, 43, 42, 41, 40, 39, 38, 37, 36, 35, 34, 33, 5, 6, 32, 31, 30, 29, 28, 27, 26, 4, 2, 1] [6, 2] _ kr kr rfl
                      · refine Tr.to ⟨82, 0, [sB 68 ((IntKind.wrap .i64 (BitVec.ofInt (IntKind.bits .i64) v8.Bare &&& ~~~BitVec.ofInt (IntKind.bits .i64) v8.Members).toNat) != 0), sB 67 ((IntKind.wrap .i64 (BitVec.ofInt (IntKind.bits .i64) v8.Bare &&& ~~~BitVec.ofInt (IntKind.bits .i64) v8.Members).toNat) != 0), sI 66 (IntKind.wrap .i64 (BitVec.ofInt (IntKind.bits .i64) v8.Bare &&& ~~~BitVec.ofInt (IntKind.bits .i64) v8.Members).toNat), sI 65 v8.Members, sA 64 6 3 1, sI 63 v8.Bare, sA 62 6 3 2, sB 61 false, sB 60 false, sB 59 false, sB 58 r14, sI 57 r13, sI 56 x1, sI 55 v8.Members, sA 54 6 3 1, sB 53 false, sB 52 false, sB 51 false, sB 50 false, sI 49 v8.Id, sA 48 6 3 0, sI 47 v12.Id, (46, .fad ((Vrow.row v12))), (45, .fad ((Vrow.row v12))), sI 44 (IntKind.wrap .i64 (y2 - 1)), sI 43 y2, sR 42 2 2 0 1 false, sA 41 2 2 0, sB 40 true, sB 39 true, sI 38 y2, sB 37 false, sB 36 false, sB 35 r9, sI 34 v8.Id, sA 33 6 3 0, sI 5 y2, sA 6 6 3 0, sV 32 (Vrow.row v8), (31, .fad ((Vrow.row v8))), sI 30 y2, sB 29 true, sI 28 y2, sI 27 (x0.Rows.length : Int), sC 26 (cF 3 x0.Rows Vrow.row), sB 4 false, sA 2 2 2 0, sI 1 x1], [(6, (Vrow.row v8)), (2, (CV.frzRow (Vtab.row x0)))]⟩ kr ?_
                        cases h13 : ((IntKind.wrap .i64 (BitVec.ofInt (IntKind.bits .i64) v8.Bare &&& ~~~BitVec.ofInt (IntKind.bits .i64) v8.Members).toNat) != 0)
                        · have H := bifF h13 H
                          refine Tr.cond (b := false) kr (fun h => nomatch h) (fun _ => ?_)
                          refine Tr.skip ?_
                          show Tr _ _ _ _ _
                          refine Tr.at ?_
                          refine LAt.runU tOk 2 kr ?_
                          refine LAt.doneM 1180591620717344194678 68 kr ?_
                          exact Exists.intro (mo7, (IntKind.wrap .i64 (y2 + 1))) (And.intro H (And.intro (Nat.lt_succ_self mo7) (St.sub_of [28, 27, 26, 4, 2, 1] [2] kr)))
                        · have H := bifT h13 H
                          refine Tr.cond (b := true) kr (fun _ => ?_) (fun h => nomatch h)
                          refine Tr.rs ?_
                          refine LAt.runU tOk 1 kr ?_
                          refine LAt.doneM 590295810358638542966 68 kr ?_
                          refine Tr.ret ?_
                          have H := Option.some.inj H
                          subst H
                          have H := Ho7
                          dsimp only at H
                          have H := Option.some.inj H
                          subst H
                          exact Fin.of _ [(false, [cB false])] kr rfl rfl
                    · have H := bifT h12 H
                      refine Tr.draws mixed 36 kr ⟨82, 0, [sB 68 true, (67, .tup []), (66, .tup []), (65, .tup []), (64, .tup []), (63, .tup []), (62, .tup []), sB 61 true, sB 60 true, sB 59 true, sB 58 r14, sI 57 r13, sI 56 x1, sI 55 v8.Members, sA 54 6 3 1, sB 53 false, sB 52 false, sB 51 false, sB 50 false, sI 49 v8.Id, sA 48 6 3 0, sI 47 v12.Id, (46, .fad ((Vrow.row v12))), (45, .fad ((Vrow.row v12))), sI 44 (IntKind.wrap .i64 (y2 - 1)), sI 43 y2, sR 42 2 2 0 1 false, sA 41 2 2 0, sB 40 true, sB 39 true, sI 38 y2, sB 37 false, sB 36 false, sB 35 r9, sI 34 v8.Id, sA 33 6 3 0, sI 5 y2, sA 6 6 3 0, sV 32 (Vrow.row v8), (31, .fad ((Vrow.row v8))), sI 30 y2, sB 29 true, sI 28 y2, sI 27 (x0.Rows.length : Int), sC 26 (cF 3 x0.Rows Vrow.row), sB 4 false, sA 2 2 2 0, sI 1 x1], [(6, (Vrow.row v8)), (2, (CV.frzRow (Vtab.row x0)))]⟩ (fun cx => ?_) ?_
                      · refine AT.runU tOk [(0, []), (1, [2, 24, 25])] 34 [⟨[2, 24, 25], 3, 33, 34⟩] [1, 0] rfl kr (fun cx => ?_)
                        refine AT.big1 tOk 2 kr kr ?_
                        refine LAt.callU tOk [.rd, .rd, .rd] (f := 70) (av := #[.tmp 34, .const (.int .i64 1), .const (.int .i64 99)]) (ats := #[3, 3, 3]) (d := (some 35)) (ty := 4) (g := none) kr kr kr [] (impl_in n v8.Id 1 99 r9 er9) kr (.inl rfl) ?_
                        refine LAt.fin kr (And.intro (And.intro kr kr) ?_)
                        refine AT.runU tOk [(3, []), (4, [])] 31 [⟨[2, 24, 25], 3, 33, 34⟩] [4, 3, 2, 1, 0] rfl kr (fun cx => ?_)
                        refine AT.to ⟨82, 0, [sB 37 (!r9), sB 36 (!r9), sB 35 r9, sI 34 v8.Id, sA 33 6 3 0, sI 5 y2, sA 6 6 3 0, sV 32 (Vrow.row v8), (31, .fad ((Vrow.row v8))), sI 30 y2, sB 29 true, sI 28 y2, sI 27 (x0.Rows.length : Int), sC 26 (cF 3 x0.Rows Vrow.row), sB 4 false, sA 2 2 2 0, sI 1 x1], [(6, (Vrow.row v8)), (2, (CV.frzRow (Vtab.row x0)))]⟩ kr ?_
                        rw [h7]
                        refine AT.runU tOk [(5, []), (6, []), (7, [])] 28 [⟨[2, 24, 25], 3, 33, 34⟩] [7, 6, 5, 4, 3, 2, 1, 0] rfl kr (fun cx => ?_)
                        refine AT.to ⟨82, 0, [sB 40 (decide (y2 > 0)), sB 39 (decide (y2 > 0)), sI 38 y2, sB 37 false, sB 36 false, sB 35 r9, sI 34 v8.Id, sA 33 6 3 0, sI 5 y2, sA 6 6 3 0, sV 32 (Vrow.row v8), (31, .fad ((Vrow.row v8))), sI 30 y2, sB 29 true, sI 28 y2, sI 27 (x0.Rows.length : Int), sC 26 (cF 3 x0.Rows Vrow.row), sB 4 false, sA 2 2 2 0, sI 1 x1], [(6, (Vrow.row v8)), (2, (CV.frzRow (Vtab.row x0)))]⟩ kr ?_
                        rw [h8]
                        refine AT.runU tOk [(8, []), (9, [24, 25]), (10, []), (11, [])] 24 [⟨[24, 25], 57, 41, 42⟩, ⟨[2, 24, 25], 3, 33, 34⟩] [11, 10, 9, 8, 7, 6, 5, 4, 3, 2, 1, 0] rfl kr (fun cx => ?_)
                        refine AT.indexF tOk 12 (t := 57) (ty := 0) (x := (.tmp 42)) (y := (.tmp 44)) (d := 45) (g := (some (7, true))) ⟨(.box 2), [(0, 0)], 0, false, 3, (CV.frzEs (x0.Rows.map Vrow.row))⟩ (IntKind.wrap .i64 (y2 - 1)) (Vrow.row v12) _ kr kr kr kr kr kr rfl (idx_isF ev12) rfl (fun cx => ?_)
                        refine AT.runU tOk [(13, []), (14, []), (15, []), (16, [24, 25]), (17, []), (18, []), (19, []), (20, [])] 15 [⟨[24, 25], 3, 48, 49⟩, ⟨[24, 25], 57, 41, 42⟩, ⟨[2, 24, 25], 3, 33, 34⟩] [20, 19, 18, 17, 16, 15, 14, 13, 12, 11, 10, 9, 8, 7, 6, 5, 4, 3, 2, 1, 0] rfl kr (fun cx => ?_)
                        refine AT.to ⟨82, 0, [sB 53 (decide (v12.Id ≥ v8.Id)), sB 52 (decide (v12.Id ≥ v8.Id)), sB 51 (decide (v12.Id ≥ v8.Id)), sB 50 (decide (v12.Id ≥ v8.Id)), sI 49 v8.Id, sA 48 6 3 0, sI 47 v12.Id, (46, .fad ((Vrow.row v12))), (45, .fad ((Vrow.row v12))), sI 44 (IntKind.wrap .i64 (y2 - 1)), sI 43 y2, sR 42 2 2 0 1 false, sA 41 2 2 0, sB 40 true, sB 39 true, sI 38 y2, sB 37 false, sB 36 false, sB 35 r9, sI 34 v8.Id, sA 33 6 3 0, sI 5 y2, sA 6 6 3 0, sV 32 (Vrow.row v8), (31, .fad ((Vrow.row v8))), sI 30 y2, sB 29 true, sI 28 y2, sI 27 (x0.Rows.length : Int), sC 26 (cF 3 x0.Rows Vrow.row), sB 4 false, sA 2 2 2 0, sI 1 x1], [(6, (Vrow.row v8)), (2, (CV.frzRow (Vtab.row x0)))]⟩ kr ?_
                        rw [h11]
                        refine AT.runU tOk [(21, []), (22, [25]), (23, [])] 12 [⟨[25], 3, 54, 55⟩, ⟨[24, 25], 3, 48, 49⟩, ⟨[24, 25], 57, 41, 42⟩, ⟨[2, 24, 25], 3, 33, 34⟩] [23, 22, 21, 20, 19, 18, 17, 16, 15, 14, 13, 12, 11, 10, 9, 8, 7, 6, 5, 4, 3, 2, 1, 0] rfl kr (fun cx => ?_)
                        refine AT.big1 tOk 24 kr kr ?_
                        refine LAt.callU tOk [.rd] (f := 178) (av := #[.tmp 56]) (ats := #[3]) (d := (some 57)) (ty := 3) (g := (some (20, false))) kr kr kr [] (impl_allPorts n x1 r13 er13) kr (.inl rfl) ?_
                        refine LAt.fin kr (And.intro (And.intro kr kr) ?_)
                        refine AT.big1 tOk 25 kr kr ?_
                        refine LAt.callU tOk [.rd, .rd, .rd] (f := 70) (av := #[.tmp 55, .const (.int .i64 0), .tmp 57]) (ats := #[3, 3, 3]) (d := (some 58)) (ty := 4) (g := (some (20, false))) kr kr kr [] (impl_in n v8.Members 0 r13 r14 er14) kr (.inl rfl) ?_
                        refine LAt.fin kr (And.intro (And.intro kr kr) ?_)
                        refine AT.runU tOk [(26, []), (27, []), (28, [])] 7 [⟨[25], 3, 54, 55⟩, ⟨[24, 25], 3, 48, 49⟩, ⟨[24, 25], 57, 41, 42⟩, ⟨[2, 24, 25], 3, 33, 34⟩] [28, 27, 26, 25, 24, 23, 22, 21, 20, 19, 18, 17, 16, 15, 14, 13, 12, 11, 10, 9, 8, 7, 6, 5, 4, 3, 2, 1, 0] rfl kr (fun cx => ?_)
                        refine AT.to ⟨82, 0, [sB 61 (!r14), sB 60 (!r14), sB 59 (!r14), sB 58 r14, sI 57 r13, sI 56 x1, sI 55 v8.Members, sA 54 6 3 1, sB 53 false, sB 52 false, sB 51 false, sB 50 false, sI 49 v8.Id, sA 48 6 3 0, sI 47 v12.Id, (46, .fad ((Vrow.row v12))), (45, .fad ((Vrow.row v12))), sI 44 (IntKind.wrap .i64 (y2 - 1)), sI 43 y2, sR 42 2 2 0 1 false, sA 41 2 2 0, sB 40 true, sB 39 true, sI 38 y2, sB 37 false, sB 36 false, sB 35 r9, sI 34 v8.Id, sA 33 6 3 0, sI 5 y2, sA 6 6 3 0, sV 32 (Vrow.row v8), (31, .fad ((Vrow.row v8))), sI 30 y2, sB 29 true, sI 28 y2, sI 27 (x0.Rows.length : Int), sC 26 (cF 3 x0.Rows Vrow.row), sB 4 false, sA 2 2 2 0, sI 1 x1], [(6, (Vrow.row v8)), (2, (CV.frzRow (Vtab.row x0)))]⟩ kr ?_
                        rw [h12]
                        refine AT.runU tOk [(29, []), (30, []), (31, []), (32, []), (33, []), (34, []), (35, [])] 0 [⟨[25], 3, 54, 55⟩, ⟨[24, 25], 3, 48, 49⟩, ⟨[24, 25], 57, 41, 42⟩, ⟨[2, 24, 25], 3, 33, 34⟩] [35, 34, 33, 32, 31, 30, 29, 28, 27, 26, 25, 24, 23, 22, 21, 20, 19, 18, 17, 16, 15, 14, 13, 12, 11, 10, 9, 8, 7, 6, 5, 4, 3, 2, 1, 0] rfl kr (fun cx => ?_)
                        exact AT.done [68, 67, 66, 65, 64, 63, 62, 61, 60, 59, 58, 57, 56, 55, 54, 53, 52, 51, 50, 49, 48, 47, 46, 45, 44, 43, 42, 41, 40, 39, 38, 37, 36, 35, 34, 33, 5, 6, 32, 31, 30, 29, 28, 27, 26, 4, 2, 1] [6, 2] _ kr kr rfl
                      · refine Tr.cond (b := true) kr (fun _ => ?_) (fun h => nomatch h)
                        refine Tr.rs ?_
                        refine LAt.runU tOk 1 kr ?_
                        refine LAt.doneM 590295810358638542966 68 kr ?_
                        refine Tr.ret ?_
                        have H := Option.some.inj H
                        subst H
                        have H := Ho7
                        dsimp only at H
                        have H := Option.some.inj H
                        subst H
                        exact Fin.of _ [(false, [cB false])] kr rfl rfl
                  · have H := bifT h11 H
                    refine Tr.draws mixed 36 kr ⟨82, 0, [sB 68 true, (67, .tup []), (66, .tup []), (65, .tup []), (64, .tup []), (63, .tup []), (62, .tup []), sB 61 true, sB 60 true, (59, .tup []), (58, .tup []), (57, .tup []), (56, .tup []), (55, .tup []), (54, .tup []), sB 53 true, sB 52 true, sB 51 true, sB 50 true, sI 49 v8.Id, sA 48 6 3 0, sI 47 v12.Id, (46, .fad ((Vrow.row v12))), (45, .fad ((Vrow.row v12))), sI 44 (IntKind.wrap .i64 (y2 - 1)), sI 43 y2, sR 42 2 2 0 1 false, sA 41 2 2 0, sB 40 true, sB 39 true, sI 38 y2, sB 37 false, sB 36 false, sB 35 r9, sI 34 v8.Id, sA 33 6 3 0, sI 5 y2, sA 6 6 3 0, sV 32 (Vrow.row v8), (31, .fad ((Vrow.row v8))), sI 30 y2, sB 29 true, sI 28 y2, sI 27 (x0.Rows.length : Int), sC 26 (cF 3 x0.Rows Vrow.row), sB 4 false, sA 2 2 2 0, sI 1 x1], [(6, (Vrow.row v8)), (2, (CV.frzRow (Vtab.row x0)))]⟩ (fun cx => ?_) ?_
                    · refine AT.runU tOk [(0, []), (1, [2])] 34 [⟨[2], 3, 33, 34⟩] [1, 0] rfl kr (fun cx => ?_)
                      refine AT.big1 tOk 2 kr kr ?_
                      refine LAt.callU tOk [.rd, .rd, .rd] (f := 70) (av := #[.tmp 34, .const (.int .i64 1), .const (.int .i64 99)]) (ats := #[3, 3, 3]) (d := (some 35)) (ty := 4) (g := none) kr kr kr [] (impl_in n v8.Id 1 99 r9 er9) kr (.inl rfl) ?_
                      refine LAt.fin kr (And.intro (And.intro kr kr) ?_)
                      refine AT.runU tOk [(3, []), (4, [])] 31 [⟨[2], 3, 33, 34⟩] [4, 3, 2, 1, 0] rfl kr (fun cx => ?_)
                      refine AT.to ⟨82, 0, [sB 37 (!r9), sB 36 (!r9), sB 35 r9, sI 34 v8.Id, sA 33 6 3 0, sI 5 y2, sA 6 6 3 0, sV 32 (Vrow.row v8), (31, .fad ((Vrow.row v8))), sI 30 y2, sB 29 true, sI 28 y2, sI 27 (x0.Rows.length : Int), sC 26 (cF 3 x0.Rows Vrow.row), sB 4 false, sA 2 2 2 0, sI 1 x1], [(6, (Vrow.row v8)), (2, (CV.frzRow (Vtab.row x0)))]⟩ kr ?_
                      rw [h7]
                      refine AT.runU tOk [(5, []), (6, []), (7, [])] 28 [⟨[2], 3, 33, 34⟩] [7, 6, 5, 4, 3, 2, 1, 0] rfl kr (fun cx => ?_)
                      refine AT.to ⟨82, 0, [sB 40 (decide (y2 > 0)), sB 39 (decide (y2 > 0)), sI 38 y2, sB 37 false, sB 36 false, sB 35 r9, sI 34 v8.Id, sA 33 6 3 0, sI 5 y2, sA 6 6 3 0, sV 32 (Vrow.row v8), (31, .fad ((Vrow.row v8))), sI 30 y2, sB 29 true, sI 28 y2, sI 27 (x0.Rows.length : Int), sC 26 (cF 3 x0.Rows Vrow.row), sB 4 false, sA 2 2 2 0, sI 1 x1], [(6, (Vrow.row v8)), (2, (CV.frzRow (Vtab.row x0)))]⟩ kr ?_
                      rw [h8]
                      refine AT.runU tOk [(8, []), (9, []), (10, []), (11, [])] 24 [⟨[], 57, 41, 42⟩, ⟨[2], 3, 33, 34⟩] [11, 10, 9, 8, 7, 6, 5, 4, 3, 2, 1, 0] rfl kr (fun cx => ?_)
                      refine AT.indexF tOk 12 (t := 57) (ty := 0) (x := (.tmp 42)) (y := (.tmp 44)) (d := 45) (g := (some (7, true))) ⟨(.box 2), [(0, 0)], 0, false, 3, (CV.frzEs (x0.Rows.map Vrow.row))⟩ (IntKind.wrap .i64 (y2 - 1)) (Vrow.row v12) _ kr kr kr kr kr kr rfl (idx_isF ev12) rfl (fun cx => ?_)
                      refine AT.runU tOk [(13, []), (14, []), (15, []), (16, []), (17, []), (18, []), (19, []), (20, [])] 15 [⟨[], 3, 48, 49⟩, ⟨[], 57, 41, 42⟩, ⟨[2], 3, 33, 34⟩] [20, 19, 18, 17, 16, 15, 14, 13, 12, 11, 10, 9, 8, 7, 6, 5, 4, 3, 2, 1, 0] rfl kr (fun cx => ?_)
                      refine AT.to ⟨82, 0, [sB 53 (decide (v12.Id ≥ v8.Id)), sB 52 (decide (v12.Id ≥ v8.Id)), sB 51 (decide (v12.Id ≥ v8.Id)), sB 50 (decide (v12.Id ≥ v8.Id)), sI 49 v8.Id, sA 48 6 3 0, sI 47 v12.Id, (46, .fad ((Vrow.row v12))), (45, .fad ((Vrow.row v12))), sI 44 (IntKind.wrap .i64 (y2 - 1)), sI 43 y2, sR 42 2 2 0 1 false, sA 41 2 2 0, sB 40 true, sB 39 true, sI 38 y2, sB 37 false, sB 36 false, sB 35 r9, sI 34 v8.Id, sA 33 6 3 0, sI 5 y2, sA 6 6 3 0, sV 32 (Vrow.row v8), (31, .fad ((Vrow.row v8))), sI 30 y2, sB 29 true, sI 28 y2, sI 27 (x0.Rows.length : Int), sC 26 (cF 3 x0.Rows Vrow.row), sB 4 false, sA 2 2 2 0, sI 1 x1], [(6, (Vrow.row v8)), (2, (CV.frzRow (Vtab.row x0)))]⟩ kr ?_
                      rw [h11]
                      refine AT.runU tOk [(21, []), (22, []), (23, []), (24, []), (25, []), (26, []), (27, []), (28, []), (29, []), (30, []), (31, []), (32, []), (33, []), (34, []), (35, [])] 0 [⟨[], 3, 48, 49⟩, ⟨[], 57, 41, 42⟩, ⟨[2], 3, 33, 34⟩] [35, 34, 33, 32, 31, 30, 29, 28, 27, 26, 25, 24, 23, 22, 21, 20, 19, 18, 17, 16, 15, 14, 13, 12, 11, 10, 9, 8, 7, 6, 5, 4, 3, 2, 1, 0] rfl kr (fun cx => ?_)
                      exact AT.done [68, 67, 66, 65, 64, 63, 62, 61, 60, 59, 58, 57, 56, 55, 54, 53, 52, 51, 50, 49, 48, 47, 46, 45, 44, 43, 42, 41, 40, 39, 38, 37, 36, 35, 34, 33, 5, 6, 32, 31, 30, 29, 28, 27, 26, 4, 2, 1] [6, 2] _ kr kr rfl
                    · refine Tr.cond (b := true) kr (fun _ => ?_) (fun h => nomatch h)
                      refine Tr.rs ?_
                      refine LAt.runU tOk 1 kr ?_
                      refine LAt.doneM 590295810358638542966 68 kr ?_
                      refine Tr.ret ?_
                      have H := Option.some.inj H
                      subst H
                      have H := Ho7
                      dsimp only at H
                      have H := Option.some.inj H
                      subst H
                      exact Fin.of _ [(false, [cB false])] kr rfl rfl
              · have H := bifT h7 H
                refine Tr.draws mixed 36 kr ⟨82, 0, [sB 68 true, (67, .tup []), (66, .tup []), (65, .tup []), (64, .tup []), (63, .tup []), (62, .tup []), sB 61 true, sB 60 true, (59, .tup []), (58, .tup []), (57, .tup []), (56, .tup []), (55, .tup []), (54, .tup []), sB 53 true, sB 52 true, (51, .tup []), (50, .tup []), (49, .tup []), (48, .tup []), (47, .tup []), (46, .tup []), (45, .tup []), (44, .tup []), (43, .tup []), (42, .tup []), (41, .tup []), (40, .tup []), (39, .tup []), (38, .tup []), sB 37 true, sB 36 true, sB 35 r9, sI 34 v8.Id, sA 33 6 3 0, sI 5 y2, sA 6 6 3 0, sV 32 (Vrow.row v8), (31, .fad ((Vrow.row v8))), sI 30 y2, sB 29 true, sI 28 y2, sI 27 (x0.Rows.length : Int), sC 26 (cF 3 x0.Rows Vrow.row), sB 4 false, sA 2 2 2 0, sI 1 x1], [(6, (Vrow.row v8)), (2, (CV.frzRow (Vtab.row x0)))]⟩ (fun cx => ?_) ?_
                · refine AT.runU tOk [(0, []), (1, [2])] 34 [⟨[2], 3, 33, 34⟩] [1, 0] rfl kr (fun cx => ?_)
                  refine AT.big1 tOk 2 kr kr ?_
                  refine LAt.callU tOk [.rd, .rd, .rd] (f := 70) (av := #[.tmp 34, .const (.int .i64 1), .const (.int .i64 99)]) (ats := #[3, 3, 3]) (d := (some 35)) (ty := 4) (g := none) kr kr kr [] (impl_in n v8.Id 1 99 r9 er9) kr (.inl rfl) ?_
                  refine LAt.fin kr (And.intro (And.intro kr kr) ?_)
                  refine AT.runU tOk [(3, []), (4, [])] 31 [⟨[2], 3, 33, 34⟩] [4, 3, 2, 1, 0] rfl kr (fun cx => ?_)
                  refine AT.to ⟨82, 0, [sB 37 (!r9), sB 36 (!r9), sB 35 r9, sI 34 v8.Id, sA 33 6 3 0, sI 5 y2, sA 6 6 3 0, sV 32 (Vrow.row v8), (31, .fad ((Vrow.row v8))), sI 30 y2, sB 29 true, sI 28 y2, sI 27 (x0.Rows.length : Int), sC 26 (cF 3 x0.Rows Vrow.row), sB 4 false, sA 2 2 2 0, sI 1 x1], [(6, (Vrow.row v8)), (2, (CV.frzRow (Vtab.row x0)))]⟩ kr ?_
                  rw [h7]
                  refine AT.runU tOk [(5, []), (6, []), (7, []), (8, []), (9, []), (10, []), (11, []), (12, []), (13, []), (14, []), (15, []), (16, []), (17, []), (18, []), (19, []), (20, []), (21, []), (22, []), (23, []), (24, []), (25, []), (26, []), (27, []), (28, []), (29, []), (30, []), (31, []), (32, []), (33, []), (34, []), (35, [])] 0 [⟨[2], 3, 33, 34⟩] [35, 34, 33, 32, 31, 30, 29, 28, 27, 26, 25, 24, 23, 22, 21, 20, 19, 18, 17, 16, 15, 14, 13, 12, 11, 10, 9, 8, 7, 6, 5, 4, 3, 2, 1, 0] rfl kr (fun cx => ?_)
                  exact AT.done [68, 67, 66, 65, 64, 63, 62, 61, 60, 59, 58, 57, 56, 55, 54, 53, 52, 51, 50, 49, 48, 47, 46, 45, 44, 43, 42, 41, 40, 39, 38, 37, 36, 35, 34, 33, 5, 6, 32, 31, 30, 29, 28, 27, 26, 4, 2, 1] [6, 2] _ kr kr rfl
                · refine Tr.cond (b := true) kr (fun _ => ?_) (fun h => nomatch h)
                  refine Tr.rs ?_
                  refine LAt.runU tOk 1 kr ?_
                  refine LAt.doneM 590295810358638542966 68 kr ?_
                  refine Tr.ret ?_
                  have H := Option.some.inj H
                  subst H
                  have H := Ho7
                  dsimp only at H
                  have H := Option.some.inj H
                  subst H
                  exact Fin.of _ [(false, [cB false])] kr rfl rfl
        · rintro _ H
          have H : (impl_VtabOk_J1 n x0) = some r := H
          unfold impl_VtabOk_J1 at H
          show Tr _ _ _ _ _
          refine Tr.seq ?_
          refine Tr.rs ?_
          refine LAt.runU tOk 2 kr ?_
          refine LAt.lenE tOk (t := 27) (ty := 3) (e := 3) (x := (.tmp 71)) (d := 72) (g := none) ⟨(.slot 71), [], 0, false, 1, (CV.frzEs (x0.Pvid.map intRow))⟩ (x0.Pvid).length _ kr kr kr kr kr (frz_len _ _) rfl ?_
          refine LAt.runU tOk 1 kr ?_
          refine LAt.doneM 16528282690043758247956 4 kr ?_
          obtain ⟨o4, eo4, Ho4⟩ := bind_some H
          clear H
          refine Tr.mid (ι := Unit) (fun v => ⟨82, 0, [sB 4 false], []⟩) (fun v => impl_VtabOk_J2 n = some r) ?_ ?_
          · refine Tr.block ?_
            refine Tr.loop (ι := Nat × (Int)) (fun v => ⟨82, 0, [sI 73 v.2, sI 72 (x0.Pvid.length : Int), sC 71 (cF 1 x0.Pvid intRow), sB 4 false, sA 2 2 2 0], [(2, (CV.frzRow (Vtab.row x0)))]⟩) (fun v => impl_VtabOk_L3 n v.1 x0 v.2 = some o4) (fun v => v.1) (n, 0) eo4 (St.sub_of [73, 72, 71, 4, 2] [2] kr) ?_
            rintro ⟨mo4, y3⟩ H
            have H : impl_VtabOk_L3 n mo4 x0 y3 = some o4 := H
            obtain _ | mo4 := mo4
            · cases (show (none : Option _) = some o4 from H)
            · rw [impl_VtabOk_L3] at H
              refine Tr.rs ?_
              refine LAt.runU tOk 1 kr ?_
              refine LAt.doneM 35417748621522339102740 4 kr ?_
              refine Tr.seq ?_
              refine Tr.to ⟨82, 0, [sB 74 (decide (y3 < (x0.Pvid.length : Int))), sI 73 y3, sI 72 (x0.Pvid.length : Int), sC 71 (cF 1 x0.Pvid intRow), sB 4 false, sA 2 2 2 0], [(2, (CV.frzRow (Vtab.row x0)))]⟩ kr ?_
              cases h4 : (decide (y3 < (x0.Pvid.length : Int)))
              · have H := bifF h4 H
                refine Tr.cond (b := false) kr (fun h => nomatch h) (fun _ => ?_)
                refine Tr.exit ?_
                refine And.intro (fun _ => ?_) (fun h => absurd rfl h)
                have H := Option.some.inj H
                subst H
                have H := Ho4
                dsimp only at H
                exact Exists.intro () (And.intro H (St.sub_of [4] [] kr))
              · have H := bifT h4 H
                refine Tr.cond (b := true) kr (fun _ => ?_) (fun h => nomatch h)
                refine Tr.skip ?_
                show Tr _ _ _ _ _
                refine Tr.seq ?_
                refine Tr.block ?_
                refine Tr.rs ?_
                obtain ⟨v5, ev5, H⟩ := bind_some H
                refine LAt.indexF tOk (t := 27) (ty := 0) (x := (.tmp 71)) (y := (.tmp 73)) (d := 75) (g := none) ⟨(.slot 71), [], 0, false, 1, (CV.frzEs (x0.Pvid.map intRow))⟩ y3 [cI v5] _ kr kr kr kr rfl (idx_isF ev5) rfl ?_
                refine LAt.runU tOk 2 kr ?_
                refine LAt.doneM 148754544210393824231700 4 kr ?_
                refine Tr.rs ?_
                refine LAt.runU tOk 2 kr ?_
                obtain ⟨r6, er6, H⟩ := bind_some H
                refine LAt.callU tOk [.rd, .rd] (f := 179) (av := #[.tmp 77, .tmp 78]) (ats := #[59, 3]) (d := (some 79)) (ty := 3) (g := none) kr kr kr [] (impl_RowAt n x0 v5 r6 er6) kr (.inl rfl) ?_
                refine LAt.runU tOk 1 kr ?_
                refine LAt.doneM 2415490455987823526805780 4 kr ?_
                refine Tr.to ⟨82, 0, [sB 80 (decide (r6 < 0)), sI 79 r6, sI 78 v5, sV 77 (CV.frzRow (Vtab.row x0)), sI 8 v5, sI 76 v5, (75, .fad ([cI v5])), sB 74 true, sI 73 y3, sI 72 (x0.Pvid.length : Int), sC 71 (cF 1 x0.Pvid intRow), sB 4 false, sA 2 2 2 0], [(2, (CV.frzRow (Vtab.row x0)))]⟩ kr ?_
                cases h5 : (decide (r6 < 0))
                · have H := bifF h5 H
                  refine Tr.cond (b := false) kr (fun h => nomatch h) (fun _ => ?_)
                  refine Tr.skip ?_
                  show Tr _ _ _ _ _
                  refine Tr.at ?_
                  refine LAt.runU tOk 2 kr ?_
                  refine LAt.doneM 4833342095217081876218132 4 kr ?_
                  exact Exists.intro (mo4, (IntKind.wrap .i64 (y3 + 1))) (And.intro H (And.intro (Nat.lt_succ_self mo4) (St.sub_of [73, 72, 71, 4, 2] [2] kr)))
                · have H := bifT h5 H
                  refine Tr.cond (b := true) kr (fun _ => ?_) (fun h => nomatch h)
                  refine Tr.rs ?_
                  refine LAt.runU tOk 1 kr ?_
                  refine LAt.doneM 2415490455987823526805780 4 kr ?_
                  refine Tr.ret ?_
                  have H := Option.some.inj H
                  subst H
                  have H := Ho4
                  dsimp only at H
                  have H := Option.some.inj H
                  subst H
                  exact Fin.of _ [(false, [cB false])] kr rfl rfl
          · rintro _ H
            have H : (impl_VtabOk_J2 n) = some r := H
            unfold impl_VtabOk_J2 at H
            show Tr _ _ _ _ _
            refine Tr.rs ?_
            refine LAt.runU tOk 1 kr ?_
            refine LAt.doneM 16 0 kr ?_
            refine Tr.ret ?_
            have H := Option.some.inj H
            subst H
            exact Fin.of _ [(false, [cB true])] kr rfl rfl
      · have H := bifT h3 H
        refine Tr.cond (b := true) kr (fun _ => ?_) (fun h => nomatch h)
        refine Tr.rs ?_
        refine LAt.runU tOk 1 kr ?_
        refine LAt.doneM 22 4 kr ?_
        refine Tr.ret ?_
        have H := Option.some.inj H
        subst H
        exact Fin.of _ [(false, [cB false])] kr rfl rfl
    · have H := bifT h2 H
      refine LAt.runU tOk 5 kr ?_
      refine LAt.doneM 16777238 4 kr ?_
      refine Tr.cond (b := true) kr (fun _ => ?_) (fun h => nomatch h)
      refine Tr.rs ?_
      refine LAt.runU tOk 1 kr ?_
      refine LAt.doneM 22 4 kr ?_
      refine Tr.ret ?_
      have H := Option.some.inj H
      subst H
      exact Fin.of _ [(false, [cB false])] kr rfl rfl
  · have H := bifT h1 H
    refine LAt.runU tOk 12 kr ?_
    refine LAt.doneM 16777238 4 kr ?_
    refine Tr.cond (b := true) kr (fun _ => ?_) (fun h => nomatch h)
    refine Tr.rs ?_
    refine LAt.runU tOk 1 kr ?_
    refine LAt.doneM 22 4 kr ?_
    refine Tr.ret ?_
    have H := Option.some.inj H
    subst H
    exact Fin.of _ [(false, [cB false])] kr rfl rfl

def impl_isCountF (n : Nat) (x0 : Int) : Option (Bool) :=
  ((impl_inF n x0 0 1000000).bind fun r1 => (some r1))
/-- loop.example/g00326/impl.isCount -/
theorem impl_isCount (n : Nat) (x0 : Int) (r : Bool) (H : impl_isCountF n x0 = some r) : LCall Try.prog 145 [.val false [.lit (.int .i64 x0)]] [.val false [.lit (.bool r)]] [] := by
  refine LCall.of_body tOk Try.func145 rfl (c := (.seq (.region 0 (rg Try.f145 0) false) (.seq (.region 1 (rg Try.f145 1) false) .ret))) kr (Nat.le_of_ble_eq_true kr) 0 (rs := [.tmp 2]) rfl [] .nil [(false, [.lit (.bool r)])] [] [] fun cx => ?_
  show Tr _ _ _ ⟨5, 0, [sI 0 x0], []⟩ _
  unfold impl_isCountF at H
  refine Tr.rs ?_
  refine LAt.runU tOk 1 kr ?_
  refine LAt.doneM 5 0 kr ?_
  refine Tr.rs ?_
  refine LAt.runU tOk 1 kr ?_
  obtain ⟨r1, er1, H⟩ := bind_some H
  refine LAt.callU tOk [.rd, .rd, .rd] (f := 70) (av := #[.tmp 3, .const (.int .i64 0), .const (.int .i64 1000000)]) (ats := #[3, 3, 3]) (d := (some 4)) (ty := 4) (g := none) kr kr kr [] (impl_in n x0 0 1000000 r1 er1) kr (.inl rfl) ?_
  refine LAt.runU tOk 1 kr ?_
  refine LAt.doneM 4 0 kr ?_
  refine Tr.ret ?_
  have H := Option.some.inj H
  subst H
  exact Fin.of _ [(false, [cB r1])] kr rfl rfl

def impl_BridgeOk_J1 (n : Nat) (x0 : Bridge) : Option (Bool) :=
  ((impl_inF n x0.Id 1 99).bind fun r2 => (bif (!r2) then (some false) else (bif (decide ((x0.Name.size : Int) > 10)) then (some false) else ((impl_inF n (x0.Ports.length : Int) 1 6).bind fun r3 => (bif (!r3) then (some false) else ((impl_FdbOkF n x0.F).bind fun r4 => (bif (!r4) then (some false) else ((impl_VtabOkF n x0.V (x0.Ports.length : Int)).bind fun r5 => (bif (!r5) then (some false) else ((impl_isCountF n x0.Ticks).bind fun r6 => (bif r6 then ((impl_isCountF n x0.Parse).bind fun r7 => (bif r7 then ((impl_isCountF n x0.Word).bind fun r8 => (bif r8 then ((impl_isCountF n x0.Drops).bind fun r9 => (bif r9 then ((impl_isCountF n x0.Vers).bind fun r10 => (some r10)) else (some false))) else (some false))) else (some false))) else (some false))))))))))))
def impl_BridgeOk_L2 (n : Nat) : Nat → Bridge → Int → Option ((Unit) ⊕ (Bool))
  | 0, _, _ => none
  | mo11 + 1, x0, y1 => (bif (decide (y1 < (x0.Ports.length : Int))) then ((idx x0.Ports y1).bind fun v12 => ((impl_PtOkF n v12).bind fun r13 => (bif (!r13) then (some (Sum.inr false)) else (impl_BridgeOk_L2 n mo11 x0 (IntKind.wrap .i64 (y1 + 1)))))) else (some (Sum.inl ())))
def impl_BridgeOkF (n : Nat) (x0 : Bridge) : Option (Bool) :=
  ((impl_BridgeOk_L2 n n x0 0).bind fun o => match o with | .inl _ => (impl_BridgeOk_J1 n x0) | .inr r => some r)
/-- loop.example/g00326/impl.BridgeOk -/
theorem impl_BridgeOk (n : Nat) (x0 : Bridge) (r : Bool) (H : impl_BridgeOkF n x0 = some r) : LCall Try.prog 88 [.val true (CV.frzRow (Bridge.row x0))] [.val false [.lit (.bool r)]] [] := by
  refine LCall.of_body tOk Try.func88 rfl (c := (.seq (.region 0 (rg Try.f88 0) false) (.seq (.seq (.region 1 (rg Try.f88 1) false) (.block 0 (.loop (.seq (.region 2 (rg Try.f88 2) false) (.seq (.cond (.tmp 9) .skip (.exit 0)) (.seq (.block 1 (.seq (.region 3 (rg Try.f88 3) false) (.seq (.region 4 (rg Try.f88 4) false) (.cond (.tmp 14) (.seq (.region 5 (rg Try.f88 5) false) .ret) .skip)))) (.region 6 (rg Try.f88 6) false))))))) (.seq (.seq (.region 7 (rg Try.f88 7) false) (.cond (.tmp 47) (.seq (.region 8 (rg Try.f88 8) false) .ret) .skip)) (.seq (.region 9 (rg Try.f88 9) false) .ret))))) kr (Nat.le_of_ble_eq_true kr) 0 (rs := [.tmp 2]) rfl [] .nil [(false, [.lit (.bool r)])] [] [] fun cx => ?_
  show Tr _ _ _ ⟨71, 0, [sV 0 (CV.frzRow (Bridge.row x0))], []⟩ _
  unfold impl_BridgeOkF at H
  refine Tr.rs ?_
  refine LAt.runU tOk 2 kr ?_
  refine LAt.doneM 6 2 kr ?_
  refine Tr.seq ?_
  refine Tr.rs ?_
  refine LAt.runU tOk 2 kr ?_
  refine LAt.lenE tOk (t := 55) (ty := 3) (e := 114) (x := (.tmp 6)) (d := 7) (g := none) ⟨(.slot 6), [], 0, false, 8, (CV.frzEs (x0.Ports.map Pt.row))⟩ (x0.Ports).length _ kr kr kr kr kr (frz_len _ _) rfl ?_
  refine LAt.runU tOk 1 kr ?_
  refine LAt.doneM 454 2 kr ?_
  obtain ⟨o11, eo11, Ho11⟩ := bind_some H
  clear H
  refine Tr.mid (ι := Unit) (fun v => ⟨71, 0, [sB 2 false, sA 1 1 11 0], [(1, (CV.frzRow (Bridge.row x0)))]⟩) (fun v => impl_BridgeOk_J1 n x0 = some r) ?_ ?_
  · refine Tr.block ?_
    refine Tr.loop (ι := Nat × (Int)) (fun v => ⟨71, 0, [sI 8 v.2, sI 7 (x0.Ports.length : Int), sC 6 (cF 8 x0.Ports Pt.row), sB 2 false, sA 1 1 11 0], [(1, (CV.frzRow (Bridge.row x0)))]⟩) (fun v => impl_BridgeOk_L2 n v.1 x0 v.2 = some o11) (fun v => v.1) (n, 0) eo11 (St.sub_of [8, 7, 6, 2, 1] [1] kr) ?_
    rintro ⟨mo11, y1⟩ H
    have H : impl_BridgeOk_L2 n mo11 x0 y1 = some o11 := H
    obtain _ | mo11 := mo11
    · cases (show (none : Option _) = some o11 from H)
    · rw [impl_BridgeOk_L2] at H
      refine Tr.rs ?_
      refine LAt.runU tOk 1 kr ?_
      refine LAt.doneM 966 2 kr ?_
      refine Tr.seq ?_
      refine Tr.to ⟨71, 0, [sB 9 (decide (y1 < (x0.Ports.length : Int))), sI 8 y1, sI 7 (x0.Ports.length : Int), sC 6 (cF 8 x0.Ports Pt.row), sB 2 false, sA 1 1 11 0], [(1, (CV.frzRow (Bridge.row x0)))]⟩ kr ?_
      cases h10 : (decide (y1 < (x0.Ports.length : Int)))
      · have H := bifF h10 H
        refine Tr.cond (b := false) kr (fun h => nomatch h) (fun _ => ?_)
        refine Tr.exit ?_
        refine And.intro (fun _ => ?_) (fun h => absurd rfl h)
        have H := Option.some.inj H
        subst H
        have H := Ho11
        dsimp only at H
        exact Exists.intro () (And.intro H (St.sub_of [2, 1] [1] kr))
      · have H := bifT h10 H
        refine Tr.cond (b := true) kr (fun _ => ?_) (fun h => nomatch h)
        refine Tr.skip ?_
        show Tr _ _ _ _ _
        refine Tr.seq ?_
        refine Tr.block ?_
        refine Tr.rs ?_
        obtain ⟨v12, ev12, H⟩ := bind_some H
        refine LAt.indexF tOk (t := 55) (ty := 0) (x := (.tmp 6)) (y := (.tmp 8)) (d := 10) (g := none) ⟨(.slot 6), [], 0, false, 8, (CV.frzEs (x0.Ports.map Pt.row))⟩ y1 (Pt.row v12) _ kr kr kr kr rfl (idx_isF ev12) rfl ?_
        refine LAt.runU tOk 3 kr ?_
        refine LAt.doneM 4054 18 kr ?_
        refine Tr.rs ?_
        refine LAt.runU tOk 1 kr ?_
        obtain ⟨r13, er13, H⟩ := bind_some H
        refine LAt.callU tOk [.rd] (f := 142) (av := #[.tmp 12]) (ats := #[114]) (d := (some 13)) (ty := 4) (g := none) kr kr kr [] (impl_PtOk n v12 r13 er13) kr (.inl rfl) ?_
        refine LAt.runU tOk 1 kr ?_
        refine LAt.doneM 32726 18 kr ?_
        refine Tr.to ⟨71, 0, [sB 14 (!r13), sB 13 r13, sV 12 (Pt.row v12), sA 4 4 8 0, sV 11 (Pt.row v12), (10, .fad ((Pt.row v12))), sB 9 true, sI 8 y1, sI 7 (x0.Ports.length : Int), sC 6 (cF 8 x0.Ports Pt.row), sB 2 false, sA 1 1 11 0], [(4, (Pt.row v12)), (1, (CV.frzRow (Bridge.row x0)))]⟩ kr ?_
        cases h11 : (!r13)
        · have H := bifF h11 H
          refine Tr.cond (b := false) kr (fun h => nomatch h) (fun _ => ?_)
          refine Tr.skip ?_
          show Tr _ _ _ _ _
          refine Tr.at ?_
          refine LAt.runU tOk 2 kr ?_
          refine LAt.doneM 65494 18 kr ?_
          exact Exists.intro (mo11, (IntKind.wrap .i64 (y1 + 1))) (And.intro H (And.intro (Nat.lt_succ_self mo11) (St.sub_of [8, 7, 6, 2, 1] [1] kr)))
        · have H := bifT h11 H
          refine Tr.cond (b := true) kr (fun _ => ?_) (fun h => nomatch h)
          refine Tr.rs ?_
          refine LAt.runU tOk 1 kr ?_
          refine LAt.doneM 32726 18 kr ?_
          refine Tr.ret ?_
          have H := Option.some.inj H
          subst H
          have H := Ho11
          dsimp only at H
          have H := Option.some.inj H
          subst H
          exact Fin.of _ [(false, [cB false])] kr rfl rfl
  · rintro _ H
    have H : (impl_BridgeOk_J1 n x0) = some r := H
    unfold impl_BridgeOk_J1 at H
    show Tr _ _ _ _ _
    refine Tr.seq ?_
    refine Tr.rs ?_
    refine LAt.runU tOk 2 kr ?_
    obtain ⟨r2, er2, H⟩ := bind_some H
    refine LAt.callU tOk [.rd, .rd, .rd] (f := 70) (av := #[.tmp 17, .const (.int .i64 1), .const (.int .i64 99)]) (ats := #[3, 3, 3]) (d := (some 18)) (ty := 4) (g := none) kr kr kr [] (impl_in n x0.Id 1 99 r2 er2) kr (.inl rfl) ?_
    refine LAt.runU tOk 2 kr ?_
    refine LAt.to ⟨71, 0, [sB 20 (!r2), sB 19 (!r2), sB 18 r2, sI 17 x0.Id, sA 16 1 11 0, sB 2 false, sA 1 1 11 0], [(1, (CV.frzRow (Bridge.row x0)))]⟩ kr ?_
    cases h1 : (!r2)
    · have H := bifF h1 H
      refine LAt.runU tOk 6 kr ?_
      refine LAt.to ⟨71, 0, [sB 26 (decide ((x0.Name.size : Int) > 10)), sB 25 (decide ((x0.Name.size : Int) > 10)), sB 24 (decide ((x0.Name.size : Int) > 10)), sI 23 (x0.Name.size : Int), sC 22 (cS x0.Name), sA 21 1 11 1, sB 20 false, sB 19 false, sB 18 r2, sI 17 x0.Id, sA 16 1 11 0, sB 2 false, sA 1 1 11 0], [(1, (CV.frzRow (Bridge.row x0)))]⟩ kr ?_
      cases h2 : (decide ((x0.Name.size : Int) > 10))
      · have H := bifF h2 H
        refine LAt.runU tOk 2 kr ?_
        refine LAt.lenE tOk (t := 55) (ty := 3) (e := 114) (x := (.tmp 28)) (d := 29) (g := (some (10, false))) ⟨(.slot 28), [], 0, false, 8, (CV.frzEs (x0.Ports.map Pt.row))⟩ (x0.Ports).length _ kr kr kr kr kr (frz_len _ _) rfl ?_
        obtain ⟨r3, er3, H⟩ := bind_some H
        refine LAt.callU tOk [.rd, .rd, .rd] (f := 70) (av := #[.tmp 29, .const (.int .i64 1), .const (.int .i64 6)]) (ats := #[3, 3, 3]) (d := (some 30)) (ty := 4) (g := (some (10, false))) kr kr kr [] (impl_in n (x0.Ports.length : Int) 1 6 r3 er3) kr (.inl rfl) ?_
        refine LAt.runU tOk 3 kr ?_
        refine LAt.to ⟨71, 0, [sB 33 (!r3), sB 32 (!r3), sB 31 (!r3), sB 30 r3, sI 29 (x0.Ports.length : Int), sC 28 (cF 8 x0.Ports Pt.row), sA 27 1 11 2, sB 26 false, sB 25 false, sB 24 false, sI 23 (x0.Name.size : Int), sC 22 (cS x0.Name), sA 21 1 11 1, sB 20 false, sB 19 false, sB 18 r2, sI 17 x0.Id, sA 16 1 11 0, sB 2 false, sA 1 1 11 0], [(1, (CV.frzRow (Bridge.row x0)))]⟩ kr ?_
        cases h3 : (!r3)
        · have H := bifF h3 H
          refine LAt.runU tOk 2 kr ?_
          obtain ⟨r4, er4, H⟩ := bind_some H
          refine LAt.callU tOk [.rd] (f := 143) (av := #[.tmp 35]) (ats := #[56]) (d := (some 36)) (ty := 4) (g := (some (17, false))) kr kr kr [] (impl_FdbOk n x0.F r4 er4) kr (.inl rfl) ?_
          refine LAt.runU tOk 3 kr ?_
          refine LAt.to ⟨71, 0, [sB 39 (!r4), sB 38 (!r4), sB 37 (!r4), sB 36 r4, sC 35 (cF 5 x0.F Fent.row), sA 34 1 11 3, sB 33 false, sB 32 false, sB 31 false, sB 30 r3, sI 29 (x0.Ports.length : Int), sC 28 (cF 8 x0.Ports Pt.row), sA 27 1 11 2, sB 26 false, sB 25 false, sB 24 false, sI 23 (x0.Name.size : Int), sC 22 (cS x0.Name), sA 21 1 11 1, sB 20 false, sB 19 false, sB 18 r2, sI 17 x0.Id, sA 16 1 11 0, sB 2 false, sA 1 1 11 0], [(1, (CV.frzRow (Bridge.row x0)))]⟩ kr ?_
          cases h4 : (!r4)
          · have H := bifF h4 H
            refine LAt.runU tOk 4 kr ?_
            refine LAt.lenE tOk (t := 55) (ty := 3) (e := 114) (x := (.tmp 43)) (d := 44) (g := (some (23, false))) ⟨(.slot 43), [], 0, false, 8, (CV.frzEs (x0.Ports.map Pt.row))⟩ (x0.Ports).length _ kr kr kr kr kr (frz_len _ _) rfl ?_
            obtain ⟨r5, er5, H⟩ := bind_some H
            refine LAt.callU tOk [.rd, .rd] (f := 144) (av := #[.tmp 41, .tmp 44]) (ats := #[59, 3]) (d := (some 45)) (ty := 4) (g := (some (23, false))) kr kr kr [] (impl_VtabOk n x0.V (x0.Ports.length : Int) r5 er5) kr (.inl rfl) ?_
            refine LAt.runU tOk 2 kr ?_
            refine LAt.doneM 140737488355334 2 kr ?_
            refine Tr.to ⟨71, 0, [sB 47 (!r5), sB 2 false, sA 1 1 11 0], [(1, (CV.frzRow (Bridge.row x0)))]⟩ kr ?_
            cases h5 : (!r5)
            · have H := bifF h5 H
              refine Tr.cond (b := false) kr (fun h => nomatch h) (fun _ => ?_)
              refine Tr.skip ?_
              show Tr _ _ _ _ _
              refine Tr.rs ?_
              refine LAt.runU tOk 2 kr ?_
              obtain ⟨r6, er6, H⟩ := bind_some H
              refine LAt.callU tOk [.rd] (f := 145) (av := #[.tmp 49]) (ats := #[3]) (d := (some 50)) (ty := 4) (g := none) kr kr kr [] (impl_isCount n x0.Ticks r6 er6) kr (.inl rfl) ?_
              refine LAt.runU tOk 1 kr ?_
              refine LAt.to ⟨71, 0, [sB 51 r6, sB 50 r6, sI 49 x0.Ticks, sA 48 1 11 6, sB 47 false, sB 2 false, sA 1 1 11 0], [(1, (CV.frzRow (Bridge.row x0)))]⟩ kr ?_
              cases h6 : r6
              · have H := bifF h6 H
                refine LAt.runU tOk 20 kr ?_
                refine LAt.doneM 4 0 kr ?_
                refine Tr.ret ?_
                have H := Option.some.inj H
                subst H
                exact Fin.of _ [(false, [cB false])] kr rfl rfl
              · have H := bifT h6 H
                refine LAt.runU tOk 2 kr ?_
                obtain ⟨r7, er7, H⟩ := bind_some H
                refine LAt.callU tOk [.rd] (f := 145) (av := #[.tmp 53]) (ats := #[3]) (d := (some 54)) (ty := 4) (g := (some (3, true))) kr kr kr [] (impl_isCount n x0.Parse r7 er7) kr (.inl rfl) ?_
                refine LAt.runU tOk 2 kr ?_
                refine LAt.to ⟨71, 0, [sB 56 r7, sB 55 r7, sB 54 r7, sI 53 x0.Parse, sA 52 1 11 7, sB 51 true, sB 50 true, sI 49 x0.Ticks, sA 48 1 11 6, sB 47 false, sB 2 false, sA 1 1 11 0], [(1, (CV.frzRow (Bridge.row x0)))]⟩ kr ?_
                cases h7 : r7
                · have H := bifF h7 H
                  refine LAt.runU tOk 15 kr ?_
                  refine LAt.doneM 4 0 kr ?_
                  refine Tr.ret ?_
                  have H := Option.some.inj H
                  subst H
                  exact Fin.of _ [(false, [cB false])] kr rfl rfl
                · have H := bifT h7 H
                  refine LAt.runU tOk 2 kr ?_
                  obtain ⟨r8, er8, H⟩ := bind_some H
                  refine LAt.callU tOk [.rd] (f := 145) (av := #[.tmp 58]) (ats := #[3]) (d := (some 59)) (ty := 4) (g := (some (8, true))) kr kr kr [] (impl_isCount n x0.Word r8 er8) kr (.inl rfl) ?_
                  refine LAt.runU tOk 2 kr ?_
                  refine LAt.to ⟨71, 0, [sB 61 r8, sB 60 r8, sB 59 r8, sI 58 x0.Word, sA 57 1 11 8, sB 56 true, sB 55 true, sB 54 true, sI 53 x0.Parse, sA 52 1 11 7, sB 51 true, sB 50 true, sI 49 x0.Ticks, sA 48 1 11 6, sB 47 false, sB 2 false, sA 1 1 11 0], [(1, (CV.frzRow (Bridge.row x0)))]⟩ kr ?_
                  cases h8 : r8
                  · have H := bifF h8 H
                    refine LAt.runU tOk 10 kr ?_
                    refine LAt.doneM 4 0 kr ?_
                    refine Tr.ret ?_
                    have H := Option.some.inj H
                    subst H
                    exact Fin.of _ [(false, [cB false])] kr rfl rfl
                  · have H := bifT h8 H
                    refine LAt.runU tOk 2 kr ?_
                    obtain ⟨r9, er9, H⟩ := bind_some H
                    refine LAt.callU tOk [.rd] (f := 145) (av := #[.tmp 63]) (ats := #[3]) (d := (some 64)) (ty := 4) (g := (some (13, true))) kr kr kr [] (impl_isCount n x0.Drops r9 er9) kr (.inl rfl) ?_
                    refine LAt.runU tOk 2 kr ?_
                    refine LAt.to ⟨71, 0, [sB 66 r9, sB 65 r9, sB 64 r9, sI 63 x0.Drops, sA 62 1 11 9, sB 61 true, sB 60 true, sB 59 true, sI 58 x0.Word, sA 57 1 11 8, sB 56 true, sB 55 true, sB 54 true, sI 53 x0.Parse, sA 52 1 11 7, sB 51 true, sB 50 true, sI 49 x0.Ticks, sA 48 1 11 6, sB 47 false, sB 2 false, sA 1 1 11 0], [(1, (CV.frzRow (Bridge.row x0)))]⟩ kr ?_
                    cases h9 : r9
                    · have H := bifF h9 H
                      refine LAt.runU tOk 5 kr ?_
                      refine LAt.doneM 4 0 kr ?_
                      refine Tr.ret ?_
                      have H := Option.some.inj H
                      subst H
                      exact Fin.of _ [(false, [cB false])] kr rfl rfl
                    · have H := bifT h9 H
                      refine LAt.runU tOk 2 kr ?_
                      obtain ⟨r10, er10, H⟩ := bind_some H
                      refine LAt.callU tOk [.rd] (f := 145) (av := #[.tmp 68]) (ats := #[3]) (d := (some 69)) (ty := 4) (g := (some (18, true))) kr kr kr [] (impl_isCount n x0.Vers r10 er10) kr (.inl rfl) ?_
                      refine LAt.runU tOk 2 kr ?_
                      refine LAt.doneM 4 0 kr ?_
                      refine Tr.ret ?_
                      have H := Option.some.inj H
                      subst H
                      exact Fin.of _ [(false, [cB r10])] kr rfl rfl
            · have H := bifT h5 H
              refine Tr.cond (b := true) kr (fun _ => ?_) (fun h => nomatch h)
              refine Tr.rs ?_
              refine LAt.runU tOk 1 kr ?_
              refine LAt.doneM 6 2 kr ?_
              refine Tr.ret ?_
              have H := Option.some.inj H
              subst H
              exact Fin.of _ [(false, [cB false])] kr rfl rfl
          · have H := bifT h4 H
            refine LAt.runU tOk 8 kr ?_
            refine LAt.doneM 140737488355334 2 kr ?_
            refine Tr.cond (b := true) kr (fun _ => ?_) (fun h => nomatch h)
            refine Tr.rs ?_
            refine LAt.runU tOk 1 kr ?_
            refine LAt.doneM 6 2 kr ?_
            refine Tr.ret ?_
            have H := Option.some.inj H
            subst H
            exact Fin.of _ [(false, [cB false])] kr rfl rfl
        · have H := bifT h3 H
          refine LAt.runU tOk 14 kr ?_
          refine LAt.doneM 140737488355334 2 kr ?_
          refine Tr.cond (b := true) kr (fun _ => ?_) (fun h => nomatch h)
          refine Tr.rs ?_
          refine LAt.runU tOk 1 kr ?_
          refine LAt.doneM 6 2 kr ?_
          refine Tr.ret ?_
          have H := Option.some.inj H
          subst H
          exact Fin.of _ [(false, [cB false])] kr rfl rfl
      · have H := bifT h2 H
        refine LAt.runU tOk 21 kr ?_
        refine LAt.doneM 140737488355334 2 kr ?_
        refine Tr.cond (b := true) kr (fun _ => ?_) (fun h => nomatch h)
        refine Tr.rs ?_
        refine LAt.runU tOk 1 kr ?_
        refine LAt.doneM 6 2 kr ?_
        refine Tr.ret ?_
        have H := Option.some.inj H
        subst H
        exact Fin.of _ [(false, [cB false])] kr rfl rfl
    · have H := bifT h1 H
      refine LAt.runU tOk 27 kr ?_
      refine LAt.doneM 140737488355334 2 kr ?_
      refine Tr.cond (b := true) kr (fun _ => ?_) (fun h => nomatch h)
      refine Tr.rs ?_
      refine LAt.runU tOk 1 kr ?_
      refine LAt.doneM 6 2 kr ?_
      refine Tr.ret ?_
      have H := Option.some.inj H
      subst H
      exact Fin.of _ [(false, [cB false])] kr rfl rfl

def impl_ends_J1 (n : Nat) : Option (Bool) :=
  (some false)
def impl_ends_L2 (n : Nat) : Nat → (List Link) → Int → Int → Int → Option ((Unit) ⊕ (Bool))
  | 0, _, _, _, _ => none
  | mo2 + 1, x0, x1, x2, y1 => (bif (decide (y1 < (x0.length : Int))) then ((idx x0 y1).bind fun v3 => (bif (v3.A == x1) then (bif (v3.P == x2) then (some (Sum.inr true)) else (bif (v3.B == x1) then (bif (v3.Q == x2) then (some (Sum.inr true)) else (impl_ends_L2 n mo2 x0 x1 x2 (IntKind.wrap .i64 (y1 + 1)))) else (impl_ends_L2 n mo2 x0 x1 x2 (IntKind.wrap .i64 (y1 + 1))))) else (bif (v3.B == x1) then (bif (v3.Q == x2) then (some (Sum.inr true)) else (impl_ends_L2 n mo2 x0 x1 x2 (IntKind.wrap .i64 (y1 + 1)))) else (impl_ends_L2 n mo2 x0 x1 x2 (IntKind.wrap .i64 (y1 + 1)))))) else (some (Sum.inl ())))
def impl_endsF (n : Nat) (x0 : (List Link)) (x1 : Int) (x2 : Int) : Option (Bool) :=
  ((impl_ends_L2 n n x0 x1 x2 0).bind fun o => match o with | .inl _ => (impl_ends_J1 n) | .inr r => some r)
/-- loop.example/g00326/impl.ends -/
theorem impl_ends (n : Nat) (x0 : (List Link)) (x1 : Int) (x2 : Int) (r : Bool) (H : impl_endsF n x0 x1 x2 = some r) : LCall Try.prog 89 [.val false [.sl false 4 (CV.frzEs (x0.map Link.row))], .val false [.lit (.int .i64 x1)], .val false [.lit (.int .i64 x2)]] [.val false [.lit (.bool r)]] [] := by
  refine LCall.of_body tOk Try.func89 rfl (c := (.seq (.region 0 (rg Try.f89 0) false) (.seq (.seq (.region 1 (rg Try.f89 1) false) (.block 0 (.loop (.seq (.region 2 (rg Try.f89 2) false) (.seq (.cond (.tmp 12) .skip (.exit 0)) (.seq (.block 1 (.seq (.region 3 (rg Try.f89 3) false) (.seq (.region 4 (rg Try.f89 4) false) (.cond (.tmp 36) (.seq (.region 5 (rg Try.f89 5) false) .ret) .skip)))) (.region 6 (rg Try.f89 6) false))))))) (.seq (.region 7 (rg Try.f89 7) false) .ret)))) kr (Nat.le_of_ble_eq_true kr) 0 (rs := [.tmp 6]) rfl [] .nil [(false, [.lit (.bool r)])] [] [] fun cx => ?_
  show Tr _ _ _ ⟨38, 0, [sC 0 (cF 4 x0 Link.row), sI 1 x1, sI 2 x2], []⟩ _
  unfold impl_endsF at H
  refine Tr.rs ?_
  refine LAt.runU tOk 1 kr ?_
  refine LAt.doneM 71 0 kr ?_
  refine Tr.seq ?_
  refine Tr.rs ?_
  refine LAt.runU tOk 1 kr ?_
  refine LAt.lenE tOk (t := 31) (ty := 3) (e := 96) (x := (.tmp 9)) (d := 10) (g := none) ⟨(.slot 9), [], 0, false, 4, (CV.frzEs (x0.map Link.row))⟩ (x0).length _ kr kr kr kr kr (frz_len _ _) rfl ?_
  refine LAt.runU tOk 1 kr ?_
  refine LAt.doneM 3654 0 kr ?_
  obtain ⟨o2, eo2, Ho2⟩ := bind_some H
  clear H
  refine Tr.mid (ι := Unit) (fun v => ⟨38, 0, [sB 6 false], []⟩) (fun v => impl_ends_J1 n = some r) ?_ ?_
  · refine Tr.block ?_
    refine Tr.loop (ι := Nat × (Int)) (fun v => ⟨38, 0, [sI 11 v.2, sI 10 (x0.length : Int), sC 9 (cF 4 x0 Link.row), sB 6 false, sI 1 x1, sI 2 x2], []⟩) (fun v => impl_ends_L2 n v.1 x0 x1 x2 v.2 = some o2) (fun v => v.1) (n, 0) eo2 (St.sub_of [11, 10, 9, 6, 1, 2] [] kr) ?_
    rintro ⟨mo2, y1⟩ H
    have H : impl_ends_L2 n mo2 x0 x1 x2 y1 = some o2 := H
    obtain _ | mo2 := mo2
    · cases (show (none : Option _) = some o2 from H)
    · rw [impl_ends_L2] at H
      refine Tr.rs ?_
      refine LAt.runU tOk 1 kr ?_
      refine LAt.doneM 7750 0 kr ?_
      refine Tr.seq ?_
      refine Tr.to ⟨38, 0, [sB 12 (decide (y1 < (x0.length : Int))), sI 11 y1, sI 10 (x0.length : Int), sC 9 (cF 4 x0 Link.row), sB 6 false, sI 1 x1, sI 2 x2], []⟩ kr ?_
      cases h1 : (decide (y1 < (x0.length : Int)))
      · have H := bifF h1 H
        refine Tr.cond (b := false) kr (fun h => nomatch h) (fun _ => ?_)
        refine Tr.exit ?_
        refine And.intro (fun _ => ?_) (fun h => absurd rfl h)
        have H := Option.some.inj H
        subst H
        have H := Ho2
        dsimp only at H
        exact Exists.intro () (And.intro H (St.sub_of [6] [] kr))
      · have H := bifT h1 H
        refine Tr.cond (b := true) kr (fun _ => ?_) (fun h => nomatch h)
        refine Tr.skip ?_
        show Tr _ _ _ _ _
        refine Tr.seq ?_
        refine Tr.block ?_
        refine Tr.rs ?_
        obtain ⟨v3, ev3, H⟩ := bind_some H
        refine LAt.indexF tOk (t := 31) (ty := 0) (x := (.tmp 9)) (y := (.tmp 11)) (d := 13) (g := none) ⟨(.slot 9), [], 0, false, 4, (CV.frzEs (x0.map Link.row))⟩ y1 (Link.row v3) _ kr kr kr kr rfl (idx_isF ev3) rfl ?_
        refine LAt.runU tOk 3 kr ?_
        refine LAt.doneM 32582 256 kr ?_
        refine Tr.rs ?_
        refine LAt.runU tOk 5 kr ?_
        refine LAt.to ⟨38, 0, [sB 19 (v3.A == x1), sB 18 (v3.A == x1), sI 17 x1, sI 16 v3.A, sA 15 8 4 0, sA 8 8 4 0, sV 14 (Link.row v3), (13, .fad ((Link.row v3))), sB 12 true, sI 11 y1, sI 10 (x0.length : Int), sC 9 (cF 4 x0 Link.row), sB 6 false, sI 1 x1, sI 2 x2], [(8, (Link.row v3))]⟩ kr ?_
        cases h2 : (v3.A == x1)
        · have H := bifF h2 H
          refine LAt.runU tOk 11 kr ?_
          refine LAt.to ⟨38, 0, [sB 30 (v3.B == x1), sB 29 (v3.B == x1), sI 28 x1, sI 27 v3.B, sA 26 8 4 2, sB 25 false, sB 24 false, (23, .tup []), (22, .tup []), (21, .tup []), (20, .tup []), sB 19 false, sB 18 false, sI 17 x1, sI 16 v3.A, sA 15 8 4 0, sA 8 8 4 0, sV 14 (Link.row v3), (13, .fad ((Link.row v3))), sB 12 true, sI 11 y1, sI 10 (x0.length : Int), sC 9 (cF 4 x0 Link.row), sB 6 false, sI 1 x1, sI 2 x2], [(8, (Link.row v3))]⟩ kr ?_
          cases h3 : (v3.B == x1)
          · have H := bifF h3 H
            refine LAt.runU tOk 6 kr ?_
            refine LAt.doneM 137438953286 256 kr ?_
            refine Tr.cond (b := false) kr (fun h => nomatch h) (fun _ => ?_)
            refine Tr.skip ?_
            show Tr _ _ _ _ _
            refine Tr.at ?_
            refine LAt.runU tOk 2 kr ?_
            refine LAt.doneM 274877906758 256 kr ?_
            exact Exists.intro (mo2, (IntKind.wrap .i64 (y1 + 1))) (And.intro H (And.intro (Nat.lt_succ_self mo2) (St.sub_of [11, 10, 9, 6, 1, 2] [] kr)))
          · have H := bifT h3 H
            refine LAt.runU tOk 6 kr ?_
            refine LAt.doneM 137438953286 256 kr ?_
            refine Tr.to ⟨38, 0, [sB 36 (v3.Q == x2), sB 35 (v3.Q == x2), sB 34 (v3.Q == x2), sI 33 x2, sI 32 v3.Q, sA 31 8 4 3, sB 30 true, sB 29 true, sI 28 x1, sI 27 v3.B, sA 26 8 4 2, sB 25 false, sB 24 false, (23, .tup []), (22, .tup []), (21, .tup []), (20, .tup []), sB 19 false, sB 18 false, sI 17 x1, sI 16 v3.A, sA 15 8 4 0, sA 8 8 4 0, sV 14 (Link.row v3), (13, .fad ((Link.row v3))), sB 12 true, sI 11 y1, sI 10 (x0.length : Int), sC 9 (cF 4 x0 Link.row), sB 6 false, sI 1 x1, sI 2 x2], [(8, (Link.row v3))]⟩ kr ?_
            cases h4 : (v3.Q == x2)
            · have H := bifF h4 H
              refine Tr.cond (b := false) kr (fun h => nomatch h) (fun _ => ?_)
              refine Tr.skip ?_
              show Tr _ _ _ _ _
              refine Tr.at ?_
              refine LAt.runU tOk 2 kr ?_
              refine LAt.doneM 274877906758 256 kr ?_
              exact Exists.intro (mo2, (IntKind.wrap .i64 (y1 + 1))) (And.intro H (And.intro (Nat.lt_succ_self mo2) (St.sub_of [11, 10, 9, 6, 1, 2] [] kr)))
            · have H := bifT h4 H
              refine Tr.cond (b := true) kr (fun _ => ?_) (fun h => nomatch h)
              refine Tr.rs ?_
              refine LAt.runU tOk 1 kr ?_
              refine LAt.doneM 137438953286 256 kr ?_
              refine Tr.ret ?_
              have H := Option.some.inj H
              subst H
              have H := Ho2
              dsimp only at H
              have H := Option.some.inj H
              subst H
              exact Fin.of _ [(false, [cB true])] kr rfl rfl
        · have H := bifT h2 H
          refine LAt.runU tOk 6 kr ?_
          refine LAt.to ⟨38, 0, [sB 25 (v3.P == x2), sB 24 (v3.P == x2), sB 23 (v3.P == x2), sI 22 x2, sI 21 v3.P, sA 20 8 4 1, sB 19 true, sB 18 true, sI 17 x1, sI 16 v3.A, sA 15 8 4 0, sA 8 8 4 0, sV 14 (Link.row v3), (13, .fad ((Link.row v3))), sB 12 true, sI 11 y1, sI 10 (x0.length : Int), sC 9 (cF 4 x0 Link.row), sB 6 false, sI 1 x1, sI 2 x2], [(8, (Link.row v3))]⟩ kr ?_
          cases h5 : (v3.P == x2)
          · have H := bifF h5 H
            refine LAt.runU tOk 5 kr ?_
            refine LAt.to ⟨38, 0, [sB 30 (v3.B == x1), sB 29 (v3.B == x1), sI 28 x1, sI 27 v3.B, sA 26 8 4 2, sB 25 false, sB 24 false, sB 23 false, sI 22 x2, sI 21 v3.P, sA 20 8 4 1, sB 19 true, sB 18 true, sI 17 x1, sI 16 v3.A, sA 15 8 4 0, sA 8 8 4 0, sV 14 (Link.row v3), (13, .fad ((Link.row v3))), sB 12 true, sI 11 y1, sI 10 (x0.length : Int), sC 9 (cF 4 x0 Link.row), sB 6 false, sI 1 x1, sI 2 x2], [(8, (Link.row v3))]⟩ kr ?_
            cases h6 : (v3.B == x1)
            · have H := bifF h6 H
              refine LAt.runU tOk 6 kr ?_
              refine LAt.doneM 137438953286 256 kr ?_
              refine Tr.cond (b := false) kr (fun h => nomatch h) (fun _ => ?_)
              refine Tr.skip ?_
              show Tr _ _ _ _ _
              refine Tr.at ?_
              refine LAt.runU tOk 2 kr ?_
              refine LAt.doneM 274877906758 256 kr ?_
              exact Exists.intro (mo2, (IntKind.wrap .i64 (y1 + 1))) (And.intro H (And.intro (Nat.lt_succ_self mo2) (St.sub_of [11, 10, 9, 6, 1, 2] [] kr)))
            · have H := bifT h6 H
              refine LAt.runU tOk 6 kr ?_
              refine LAt.doneM 137438953286 256 kr ?_
              refine Tr.to ⟨38, 0, [sB 36 (v3.Q == x2), sB 35 (v3.Q == x2), sB 34 (v3.Q == x2), sI 33 x2, sI 32 v3.Q, sA 31 8 4 3, sB 30 true, sB 29 true, sI 28 x1, sI 27 v3.B, sA 26 8 4 2, sB 25 false, sB 24 false, sB 23 false, sI 22 x2, sI 21 v3.P, sA 20 8 4 1, sB 19 true, sB 18 true, sI 17 x1, sI 16 v3.A, sA 15 8 4 0, sA 8 8 4 0, sV 14 (Link.row v3), (13, .fad ((Link.row v3))), sB 12 true, sI 11 y1, sI 10 (x0.length : Int), sC 9 (cF 4 x0 Link.row), sB 6 false, sI 1 x1, sI 2 x2], [(8, (Link.row v3))]⟩ kr ?_
              cases h7 : (v3.Q == x2)
              · have H := bifF h7 H
                refine Tr.cond (b := false) kr (fun h => nomatch h) (fun _ => ?_)
                refine Tr.skip ?_
                show Tr _ _ _ _ _
                refine Tr.at ?_
                refine LAt.runU tOk 2 kr ?_
                refine LAt.doneM 274877906758 256 kr ?_
                exact Exists.intro (mo2, (IntKind.wrap .i64 (y1 + 1))) (And.intro H (And.intro (Nat.lt_succ_self mo2) (St.sub_of [11, 10, 9, 6, 1, 2] [] kr)))
              · have H := bifT h7 H
                refine Tr.cond (b := true) kr (fun _ => ?_) (fun h => nomatch h)
                refine Tr.rs ?_
                refine LAt.runU tOk 1 kr ?_
                refine LAt.doneM 137438953286 256 kr ?_
                refine Tr.ret ?_
                have H := Option.some.inj H
                subst H
                have H := Ho2
                dsimp only at H
                have H := Option.some.inj H
                subst H
                exact Fin.of _ [(false, [cB true])] kr rfl rfl
          · have H := bifT h5 H
            refine LAt.runU tOk 11 kr ?_
            refine LAt.doneM 137438953286 256 kr ?_
            refine Tr.cond (b := true) kr (fun _ => ?_) (fun h => nomatch h)
            refine Tr.rs ?_
            refine LAt.runU tOk 1 kr ?_
            refine LAt.doneM 137438953286 256 kr ?_
            refine Tr.ret ?_
            have H := Option.some.inj H
            subst H
            have H := Ho2
            dsimp only at H
            have H := Option.some.inj H
            subst H
            exact Fin.of _ [(false, [cB true])] kr rfl rfl
  · rintro _ H
    have H : (impl_ends_J1 n) = some r := H
    unfold impl_ends_J1 at H
    show Tr _ _ _ _ _
    refine Tr.rs ?_
    refine LAt.runU tOk 1 kr ?_
    refine LAt.doneM 64 0 kr ?_
    refine Tr.ret ?_
    have H := Option.some.inj H
    subst H
    exact Fin.of _ [(false, [cB false])] kr rfl rfl

def impl_portAtF (n : Nat) (x0 : Net) (x1 : Int) (x2 : Int) : Option (Pt × Bool) :=
  ((impl_inF n x1 0 (IntKind.wrap .i64 ((x0.Bridges.length : Int) - 1))).bind fun r1 => (bif (!r1) then (some ((⟨false, 0, false, (⟨0, 0, 0, 0, 0⟩ : Vec)⟩ : Pt), false)) else ((idx x0.Bridges x1).bind fun v2 => ((impl_inF n x2 0 (IntKind.wrap .i64 ((v2.Ports.length : Int) - 1))).bind fun r3 => (bif (!r3) then (some ((⟨false, 0, false, (⟨0, 0, 0, 0, 0⟩ : Vec)⟩ : Pt), false)) else ((idx x0.Bridges x1).bind fun v4 => ((idx v4.Ports x2).bind fun v5 => (some (v5, true)))))))))
/-- loop.example/g00326/impl.portAt -/
theorem impl_portAt (n : Nat) (x0 : Net) (x1 : Int) (x2 : Int) (r : Pt × Bool) (H : impl_portAtF n x0 x1 x2 = some r) : LCall Try.prog 138 [.val true (CV.frzRow (Net.row x0)), .val false [.lit (.int .i64 x1)], .val false [.lit (.int .i64 x2)]] [.val true (Pt.row r.1), .val false [.lit (.bool r.2)]] [] := by
  refine LCall.of_body tOk Try.func138 rfl (c := (.seq (.region 0 (rg Try.f138 0) false) (.seq (.seq (.region 1 (rg Try.f138 1) false) (.cond (.tmp 27) (.seq (.region 2 (rg Try.f138 2) false) .ret) .skip)) (.seq (.region 3 (rg Try.f138 3) false) .ret)))) kr (Nat.le_of_ble_eq_true kr) 0 (rs := [.cell 6 114, .tmp 7]) rfl [] .nil [(true, (Pt.row r.1)), (false, [.lit (.bool r.2)])] [] [] fun cx => ?_
  show Tr _ _ _ ⟨38, 0, [sV 0 (CV.frzRow (Net.row x0)), sI 1 x1, sI 2 x2], []⟩ _
  unfold impl_portAtF at H
  refine Tr.rs ?_
  refine LAt.runU tOk 3 kr ?_
  refine LAt.doneM 206 72 kr ?_
  refine Tr.seq ?_
  refine Tr.rs ?_
  refine LAt.runU tOk 3 kr ?_
  refine LAt.lenE tOk (t := 30) (ty := 3) (e := 61) (x := (.tmp 10)) (d := 11) (g := none) ⟨(.slot 10), [], 0, false, 11, (CV.frzEs (x0.Bridges.map Bridge.row))⟩ (x0.Bridges).length _ kr kr kr kr kr (frz_len _ _) rfl ?_
  refine LAt.runU tOk 1 kr ?_
  obtain ⟨r1, er1, H⟩ := bind_some H
  refine LAt.callU tOk [.rd, .rd, .rd] (f := 70) (av := #[.tmp 8, .const (.int .i64 0), .tmp 12]) (ats := #[3, 3, 3]) (d := (some 13)) (ty := 4) (g := none) kr kr kr [] (impl_in n x1 0 (IntKind.wrap .i64 ((x0.Bridges.length : Int) - 1)) r1 er1) kr (.inl rfl) ?_
  refine LAt.runU tOk 2 kr ?_
  refine LAt.to ⟨38, 0, [sB 15 (!r1), sB 14 (!r1), sB 13 r1, sI 12 (IntKind.wrap .i64 ((x0.Bridges.length : Int) - 1)), sI 11 (x0.Bridges.length : Int), sC 10 (cF 11 x0.Bridges Bridge.row), sA 9 3 3 0, sI 8 x1, sB 7 false, sA 6 6 8 0, sA 3 3 3 0, sI 1 x1, sI 2 x2], [(6, [cB false, cI 0, cB false, cI 0, cI 0, cI 0, cI 0, cI 0]), (3, (CV.frzRow (Net.row x0)))]⟩ kr ?_
  cases h1 : (!r1)
  · have H := bifF h1 H
    refine LAt.runU tOk 4 kr ?_
    obtain ⟨v2, ev2, H⟩ := bind_some H
    refine LAt.indexF tOk (t := 30) (ty := 0) (x := (.tmp 18)) (y := (.tmp 19)) (d := 20) (g := (some (7, false))) ⟨(.slot 18), [], 0, false, 11, (CV.frzEs (x0.Bridges.map Bridge.row))⟩ x1 (CV.frzRow (Bridge.row v2)) _ kr kr kr kr rfl (idx_isF ev2) rfl ?_
    refine LAt.runU tOk 2 kr ?_
    refine LAt.lenE tOk (t := 55) (ty := 3) (e := 114) (x := (.tmp 22)) (d := 23) (g := (some (7, false))) ⟨(.slot 22), [], 0, false, 8, (CV.frzEs (v2.Ports.map Pt.row))⟩ (v2.Ports).length _ kr kr kr kr kr (frz_len _ _) rfl ?_
    refine LAt.runU tOk 1 kr ?_
    obtain ⟨r3, er3, H⟩ := bind_some H
    refine LAt.callU tOk [.rd, .rd, .rd] (f := 70) (av := #[.tmp 16, .const (.int .i64 0), .tmp 24]) (ats := #[3, 3, 3]) (d := (some 25)) (ty := 4) (g := (some (7, false))) kr kr kr [] (impl_in n x2 0 (IntKind.wrap .i64 ((v2.Ports.length : Int) - 1)) r3 er3) kr (.inl rfl) ?_
    refine LAt.runU tOk 2 kr ?_
    refine LAt.doneM 134217934 72 kr ?_
    refine Tr.to ⟨38, 0, [sB 27 (!r3), sB 7 false, sA 6 6 8 0, sA 3 3 3 0, sI 1 x1, sI 2 x2], [(6, [cB false, cI 0, cB false, cI 0, cI 0, cI 0, cI 0, cI 0]), (3, (CV.frzRow (Net.row x0)))]⟩ kr ?_
    cases h2 : (!r3)
    · have H := bifF h2 H
      refine Tr.cond (b := false) kr (fun h => nomatch h) (fun _ => ?_)
      refine Tr.skip ?_
      show Tr _ _ _ _ _
      refine Tr.rs ?_
      refine LAt.runU tOk 3 kr ?_
      obtain ⟨v4, ev4, H⟩ := bind_some H
      refine LAt.indexF tOk (t := 30) (ty := 0) (x := (.tmp 30)) (y := (.tmp 31)) (d := 32) (g := none) ⟨(.slot 30), [], 0, false, 11, (CV.frzEs (x0.Bridges.map Bridge.row))⟩ x1 (CV.frzRow (Bridge.row v4)) _ kr kr kr kr rfl (idx_isF ev4) rfl ?_
      refine LAt.runU tOk 3 kr ?_
      obtain ⟨v5, ev5, H⟩ := bind_some H
      refine LAt.indexF tOk (t := 55) (ty := 0) (x := (.tmp 34)) (y := (.tmp 35)) (d := 36) (g := none) ⟨(.slot 34), [], 0, false, 8, (CV.frzEs (v4.Ports.map Pt.row))⟩ x2 (Pt.row v5) _ kr kr kr kr rfl (idx_isF ev5) rfl ?_
      refine LAt.runU tOk 3 kr ?_
      refine LAt.doneM 192 64 kr ?_
      refine Tr.ret ?_
      have H := Option.some.inj H
      subst H
      exact Fin.of _ [(true, (Pt.row v5)), (false, [cB true])] kr rfl rfl
    · have H := bifT h2 H
      refine Tr.cond (b := true) kr (fun _ => ?_) (fun h => nomatch h)
      refine Tr.rs ?_
      refine LAt.runU tOk 3 kr ?_
      refine LAt.doneM 206 72 kr ?_
      refine Tr.ret ?_
      have H := Option.some.inj H
      subst H
      exact Fin.of _ [(true, [cB false, cI 0, cB false, cI 0, cI 0, cI 0, cI 0, cI 0]), (false, [cB false])] kr rfl rfl
  · have H := bifT h1 H
    refine LAt.runU tOk 12 kr ?_
    refine LAt.doneM 134217934 72 kr ?_
    refine Tr.cond (b := true) kr (fun _ => ?_) (fun h => nomatch h)
    refine Tr.rs ?_
    refine LAt.runU tOk 3 kr ?_
    refine LAt.doneM 206 72 kr ?_
    refine Tr.ret ?_
    have H := Option.some.inj H
    subst H
    exact Fin.of _ [(true, [cB false, cI 0, cB false, cI 0, cI 0, cI 0, cI 0, cI 0]), (false, [cB false])] kr rfl rfl

def impl_linksOk_J1 (n : Nat) : Option (Bool) :=
  (some true)
def impl_linksOk_L2 (n : Nat) : Nat → Net → Int → Option ((Unit) ⊕ (Bool))
  | 0, _, _ => none
  | mo2 + 1, x0, y1 => (bif (decide (y1 < (x0.Links.length : Int))) then ((idx x0.Links y1).bind fun v3 => ((impl_portAtF n x0 v3.A v3.P).bind fun r4 => ((impl_portAtF n x0 v3.B v3.Q).bind fun r5 => (bif (decide (y1 ≥ 9)) then (some (Sum.inr false)) else (bif (!r4.2) then (some (Sum.inr false)) else (bif (!r5.2) then (some (Sum.inr false)) else (bif (v3.A == v3.B) then (some (Sum.inr false)) else (bif (!(r4.1.Up == r5.1.Up)) then (some (Sum.inr false)) else (bif (decide ((0 : Int) ≤ 0) && (decide ((0 : Int) ≤ y1) && decide ((y1 : Int) ≤ (x0.Links.length : Int)))) then ((impl_endsF n ((x0.Links.drop ((0 : Int)).toNat).take (((y1 : Int)).toNat - ((0 : Int)).toNat)) v3.A v3.P).bind fun r7 => (bif r7 then (some (Sum.inr false)) else (bif (decide ((0 : Int) ≤ 0) && (decide ((0 : Int) ≤ y1) && decide ((y1 : Int) ≤ (x0.Links.length : Int)))) then ((impl_endsF n ((x0.Links.drop ((0 : Int)).toNat).take (((y1 : Int)).toNat - ((0 : Int)).toNat)) v3.B v3.Q).bind fun r9 => (bif r9 then (some (Sum.inr false)) else (impl_linksOk_L2 n mo2 x0 (IntKind.wrap .i64 (y1 + 1))))) else none))) else none))))))))) else (some (Sum.inl ())))
def impl_linksOkF (n : Nat) (x0 : Net) : Option (Bool) :=
  ((impl_linksOk_L2 n n x0 0).bind fun o => match o with | .inl _ => (impl_linksOk_J1 n) | .inr r => some r)
/-- loop.example/g00326/impl.linksOk -/
theorem impl_linksOk (n : Nat) (x0 : Net) (r : Bool) (H : impl_linksOkF n x0 = some r) : LCall Try.prog 91 [.val true (CV.frzRow (Net.row x0))] [.val false [.lit (.bool r)]] [] := by
  refine LCall.of_body tOk Try.func91 rfl (c := (.seq (.region 0 (rg Try.f91 0) false) (.seq (.seq (.region 1 (rg Try.f91 1) false) (.block 0 (.loop (.seq (.region 2 (rg Try.f91 2) false) (.seq (.cond (.tmp 13) .skip (.exit 0)) (.seq (.block 1 (.seq (.region 3 (rg Try.f91 3) false) (.seq (.region 4 (rg Try.f91 4) false) (.seq (.region 5 (rg Try.f91 5) false) (.seq (.seq (.region 6 (rg Try.f91 6) false) (.cond (.tmp 58) (.seq (.region 7 (rg Try.f91 7) false) .ret) .skip)) (.seq (.region 8 (rg Try.f91 8) true) (.cond (.tmp 78) (.seq (.region 9 (rg Try.f91 9) false) .ret) .skip))))))) (.region 10 (rg Try.f91 10) false))))))) (.seq (.region 11 (rg Try.f91 11) false) .ret)))) kr (Nat.le_of_ble_eq_true kr) 0 (rs := [.tmp 2]) rfl [] .nil [(false, [.lit (.bool r)])] [] [] fun cx => ?_
  show Tr _ _ _ ⟨80, 0, [sV 0 (CV.frzRow (Net.row x0))], []⟩ _
  unfold impl_linksOkF at H
  refine Tr.rs ?_
  refine LAt.runU tOk 2 kr ?_
  refine LAt.doneM 6 2 kr ?_
  refine Tr.seq ?_
  refine Tr.rs ?_
  refine LAt.runU tOk 2 kr ?_
  refine LAt.lenE tOk (t := 31) (ty := 3) (e := 96) (x := (.tmp 10)) (d := 11) (g := none) ⟨(.slot 10), [], 0, false, 4, (CV.frzEs (x0.Links.map Link.row))⟩ (x0.Links).length _ kr kr kr kr kr (frz_len _ _) rfl ?_
  refine LAt.runU tOk 1 kr ?_
  refine LAt.doneM 7174 2 kr ?_
  obtain ⟨o2, eo2, Ho2⟩ := bind_some H
  clear H
  refine Tr.mid (ι := Unit) (fun v => ⟨80, 0, [sB 2 false], []⟩) (fun v => impl_linksOk_J1 n = some r) ?_ ?_
  · refine Tr.block ?_
    refine Tr.loop (ι := Nat × (Int)) (fun v => ⟨80, 0, [sI 12 v.2, sI 11 (x0.Links.length : Int), sC 10 (cF 4 x0.Links Link.row), sB 2 false, sA 1 1 3 0], [(1, (CV.frzRow (Net.row x0)))]⟩) (fun v => impl_linksOk_L2 n v.1 x0 v.2 = some o2) (fun v => v.1) (n, 0) eo2 (St.sub_of [12, 11, 10, 2, 1] [1] kr) ?_
    rintro ⟨mo2, y1⟩ H
    have H : impl_linksOk_L2 n mo2 x0 y1 = some o2 := H
    obtain _ | mo2 := mo2
    · cases (show (none : Option _) = some o2 from H)
    · rw [impl_linksOk_L2] at H
      refine Tr.rs ?_
      refine LAt.runU tOk 1 kr ?_
      refine LAt.doneM 15366 2 kr ?_
      refine Tr.seq ?_
      refine Tr.to ⟨80, 0, [sB 13 (decide (y1 < (x0.Links.length : Int))), sI 12 y1, sI 11 (x0.Links.length : Int), sC 10 (cF 4 x0.Links Link.row), sB 2 false, sA 1 1 3 0], [(1, (CV.frzRow (Net.row x0)))]⟩ kr ?_
      cases h1 : (decide (y1 < (x0.Links.length : Int)))
      · have H := bifF h1 H
        refine Tr.cond (b := false) kr (fun h => nomatch h) (fun _ => ?_)
        refine Tr.exit ?_
        refine And.intro (fun _ => ?_) (fun h => absurd rfl h)
        have H := Option.some.inj H
        subst H
        have H := Ho2
        dsimp only at H
        exact Exists.intro () (And.intro H (St.sub_of [2] [] kr))
      · have H := bifT h1 H
        refine Tr.cond (b := true) kr (fun _ => ?_) (fun h => nomatch h)
        refine Tr.skip ?_
        show Tr _ _ _ _ _
        refine Tr.seq ?_
        refine Tr.block ?_
        refine Tr.rs ?_
        refine LAt.runU tOk 1 kr ?_
        obtain ⟨v3, ev3, H⟩ := bind_some H
        refine LAt.indexF tOk (t := 31) (ty := 0) (x := (.tmp 10)) (y := (.tmp 12)) (d := 15) (g := none) ⟨(.slot 10), [], 0, false, 4, (CV.frzEs (x0.Links.map Link.row))⟩ y1 (Link.row v3) _ kr kr kr kr rfl (idx_isF ev3) rfl ?_
        refine LAt.runU tOk 4 kr ?_
        refine LAt.doneM 130078 18 kr ?_
        refine Tr.rs ?_
        refine LAt.runU tOk 5 kr ?_
        obtain ⟨r4, er4, H⟩ := bind_some H
        refine LAt.callU tOk [.rd, .rd, .rd] (f := 138) (av := #[.tmp 18, .tmp 20, .tmp 22]) (ats := #[34, 3, 3]) (d := (some 23)) (ty := 153) (g := none) kr kr kr [] (impl_portAt n x0 v3.A v3.P r4 er4) kr (.inl rfl) ?_
        refine LAt.movT tOk (ty := 153) (t := 23) (d := 17) (g := none) [(true, (Pt.row r4.1)), (false, [cB r4.2])] _ kr (.inl rfl) kr kr kr kr rfl ?_
        refine LAt.runU tOk 5 kr ?_
        refine LAt.doneM 58719358 50 kr ?_
        refine Tr.rs ?_
        refine LAt.runU tOk 5 kr ?_
        obtain ⟨r5, er5, H⟩ := bind_some H
        refine LAt.callU tOk [.rd, .rd, .rd] (f := 138) (av := #[.tmp 27, .tmp 29, .tmp 31]) (ats := #[34, 3, 3]) (d := (some 32)) (ty := 153) (g := none) kr kr kr [] (impl_portAt n x0 v3.B v3.Q r5 er5) kr (.inl rfl) ?_
        refine LAt.movT tOk (ty := 153) (t := 32) (d := 26) (g := none) [(true, (Pt.row r5.1)), (false, [cB r5.2])] _ kr (.inl rfl) kr kr kr kr rfl ?_
        refine LAt.runU tOk 5 kr ?_
        refine LAt.doneM 30056381950 178 kr ?_
        refine Tr.seq ?_
        refine Tr.rs ?_
        refine LAt.runU tOk 3 kr ?_
        refine LAt.to ⟨80, 0, [sB 37 (decide (y1 ≥ 9)), sB 36 (decide (y1 ≥ 9)), sI 35 y1, sB 8 r5.2, sA 7 7 8 0, sB 34 r5.2, (26, .tup [(true, [.dead, .dead, .dead, .dead, .dead, .dead, .dead, .dead]), (false, [.dead])]), sV 33 (Pt.row r5.1), sI 31 v3.Q, sA 30 4 4 3, sI 29 v3.B, sA 28 4 4 2, sV 27 (CV.frzRow (Net.row x0)), sB 6 r4.2, sA 5 5 8 0, sB 25 r4.2, (17, .tup [(true, [.dead, .dead, .dead, .dead, .dead, .dead, .dead, .dead]), (false, [.dead])]), sV 24 (Pt.row r4.1), sI 22 v3.P, sA 21 4 4 1, sI 20 v3.A, sA 19 4 4 0, sV 18 (CV.frzRow (Net.row x0)), sI 3 y1, sA 4 4 4 0, sV 16 (Link.row v3), (15, .fad ((Link.row v3))), sI 14 y1, sB 13 true, sI 12 y1, sI 11 (x0.Links.length : Int), sC 10 (cF 4 x0.Links Link.row), sB 2 false, sA 1 1 3 0], [(7, (Pt.row r5.1)), (5, (Pt.row r4.1)), (4, (Link.row v3)), (1, (CV.frzRow (Net.row x0)))]⟩ kr ?_
        cases h2 : (decide (y1 ≥ 9))
        · have H := bifF h2 H
          refine LAt.runU tOk 4 kr ?_
          refine LAt.to ⟨80, 0, [sB 41 (!r4.2), sB 40 (!r4.2), sB 39 (!r4.2), sB 38 r4.2, sB 37 false, sB 36 false, sI 35 y1, sB 8 r5.2, sA 7 7 8 0, sB 34 r5.2, (26, .tup [(true, [.dead, .dead, .dead, .dead, .dead, .dead, .dead, .dead]), (false, [.dead])]), sV 33 (Pt.row r5.1), sI 31 v3.Q, sA 30 4 4 3, sI 29 v3.B, sA 28 4 4 2, sV 27 (CV.frzRow (Net.row x0)), sB 6 r4.2, sA 5 5 8 0, sB 25 r4.2, (17, .tup [(true, [.dead, .dead, .dead, .dead, .dead, .dead, .dead, .dead]), (false, [.dead])]), sV 24 (Pt.row r4.1), sI 22 v3.P, sA 21 4 4 1, sI 20 v3.A, sA 19 4 4 0, sV 18 (CV.frzRow (Net.row x0)), sI 3 y1, sA 4 4 4 0, sV 16 (Link.row v3), (15, .fad ((Link.row v3))), sI 14 y1, sB 13 true, sI 12 y1, sI 11 (x0.Links.length : Int), sC 10 (cF 4 x0.Links Link.row), sB 2 false, sA 1 1 3 0], [(7, (Pt.row r5.1)), (5, (Pt.row r4.1)), (4, (Link.row v3)), (1, (CV.frzRow (Net.row x0)))]⟩ kr ?_
          cases h3 : (!r4.2)
          · have H := bifF h3 H
            refine LAt.runU tOk 4 kr ?_
            refine LAt.to ⟨80, 0, [sB 45 (!r5.2), sB 44 (!r5.2), sB 43 (!r5.2), sB 42 r5.2, sB 41 false, sB 40 false, sB 39 false, sB 38 r4.2, sB 37 false, sB 36 false, sI 35 y1, sB 8 r5.2, sA 7 7 8 0, sB 34 r5.2, (26, .tup [(true, [.dead, .dead, .dead, .dead, .dead, .dead, .dead, .dead]), (false, [.dead])]), sV 33 (Pt.row r5.1), sI 31 v3.Q, sA 30 4 4 3, sI 29 v3.B, sA 28 4 4 2, sV 27 (CV.frzRow (Net.row x0)), sB 6 r4.2, sA 5 5 8 0, sB 25 r4.2, (17, .tup [(true, [.dead, .dead, .dead, .dead, .dead, .dead, .dead, .dead]), (false, [.dead])]), sV 24 (Pt.row r4.1), sI 22 v3.P, sA 21 4 4 1, sI 20 v3.A, sA 19 4 4 0, sV 18 (CV.frzRow (Net.row x0)), sI 3 y1, sA 4 4 4 0, sV 16 (Link.row v3), (15, .fad ((Link.row v3))), sI 14 y1, sB 13 true, sI 12 y1, sI 11 (x0.Links.length : Int), sC 10 (cF 4 x0.Links Link.row), sB 2 false, sA 1 1 3 0], [(7, (Pt.row r5.1)), (5, (Pt.row r4.1)), (4, (Link.row v3)), (1, (CV.frzRow (Net.row x0)))]⟩ kr ?_
            cases h4 : (!r5.2)
            · have H := bifF h4 H
              refine LAt.runU tOk 7 kr ?_
              refine LAt.to ⟨80, 0, [sB 52 (v3.A == v3.B), sB 51 (v3.A == v3.B), sB 50 (v3.A == v3.B), sI 49 v3.B, sA 48 4 4 2, sI 47 v3.A, sA 46 4 4 0, sB 45 false, sB 44 false, sB 43 false, sB 42 r5.2, sB 41 false, sB 40 false, sB 39 false, sB 38 r4.2, sB 37 false, sB 36 false, sI 35 y1, sB 8 r5.2, sA 7 7 8 0, sB 34 r5.2, (26, .tup [(true, [.dead, .dead, .dead, .dead, .dead, .dead, .dead, .dead]), (false, [.dead])]), sV 33 (Pt.row r5.1), sI 31 v3.Q, sA 30 4 4 3, sI 29 v3.B, sA 28 4 4 2, sV 27 (CV.frzRow (Net.row x0)), sB 6 r4.2, sA 5 5 8 0, sB 25 r4.2, (17, .tup [(true, [.dead, .dead, .dead, .dead, .dead, .dead, .dead, .dead]), (false, [.dead])]), sV 24 (Pt.row r4.1), sI 22 v3.P, sA 21 4 4 1, sI 20 v3.A, sA 19 4 4 0, sV 18 (CV.frzRow (Net.row x0)), sI 3 y1, sA 4 4 4 0, sV 16 (Link.row v3), (15, .fad ((Link.row v3))), sI 14 y1, sB 13 true, sI 12 y1, sI 11 (x0.Links.length : Int), sC 10 (cF 4 x0.Links Link.row), sB 2 false, sA 1 1 3 0], [(7, (Pt.row r5.1)), (5, (Pt.row r4.1)), (4, (Link.row v3)), (1, (CV.frzRow (Net.row x0)))]⟩ kr ?_
              cases h5 : (v3.A == v3.B)
              · have H := bifF h5 H
                refine LAt.runU tOk 6 kr ?_
                refine LAt.doneM 576460748000067070 178 kr ?_
                refine Tr.to ⟨80, 0, [sB 58 (!(r4.1.Up == r5.1.Up)), sB 57 (!(r4.1.Up == r5.1.Up)), sB 56 r5.1.Up, sA 55 7 8 0, sB 54 r4.1.Up, sA 53 5 8 0, sB 52 false, sB 51 false, sB 50 false, sI 49 v3.B, sA 48 4 4 2, sI 47 v3.A, sA 46 4 4 0, sB 45 false, sB 44 false, sB 43 false, sB 42 r5.2, sB 41 false, sB 40 false, sB 39 false, sB 38 r4.2, sB 37 false, sB 36 false, sI 35 y1, sB 8 r5.2, sA 7 7 8 0, sB 34 r5.2, (26, .tup [(true, [.dead, .dead, .dead, .dead, .dead, .dead, .dead, .dead]), (false, [.dead])]), sV 33 (Pt.row r5.1), sI 31 v3.Q, sA 30 4 4 3, sI 29 v3.B, sA 28 4 4 2, sV 27 (CV.frzRow (Net.row x0)), sB 6 r4.2, sA 5 5 8 0, sB 25 r4.2, (17, .tup [(true, [.dead, .dead, .dead, .dead, .dead, .dead, .dead, .dead]), (false, [.dead])]), sV 24 (Pt.row r4.1), sI 22 v3.P, sA 21 4 4 1, sI 20 v3.A, sA 19 4 4 0, sV 18 (CV.frzRow (Net.row x0)), sI 3 y1, sA 4 4 4 0, sV 16 (Link.row v3), (15, .fad ((Link.row v3))), sI 14 y1, sB 13 true, sI 12 y1, sI 11 (x0.Links.length : Int), sC 10 (cF 4 x0.Links Link.row), sB 2 false, sA 1 1 3 0], [(7, (Pt.row r5.1)), (5, (Pt.row r4.1)), (4, (Link.row v3)), (1, (CV.frzRow (Net.row x0)))]⟩ kr ?_
                cases h6 : (!(r4.1.Up == r5.1.Up))
                · have H := bifF h6 H
                  refine Tr.cond (b := false) kr (fun h => nomatch h) (fun _ => ?_)
                  refine Tr.skip ?_
                  show Tr _ _ _ _ _
                  obtain ⟨hg6, H⟩ := guard_some H
                  obtain ⟨r7, er7, H⟩ := bind_some H
                  refine Tr.to ⟨80, 0, [sB 58 false, sB 57 false, sB 56 r5.1.Up, sA 55 7 8 0, sB 54 r4.1.Up, sA 53 5 8 0, sB 52 false, sB 51 false, sB 50 false, sI 49 v3.B, sA 48 4 4 2, sI 47 v3.A, sA 46 4 4 0, sB 45 false, sB 44 false, sB 43 false, sB 42 r5.2, sB 41 false, sB 40 false, sB 39 false, sB 38 r4.2, sB 37 false, sB 36 false, sI 35 y1, sB 8 r5.2, sA 7 7 8 0, sB 34 r5.2, (26, .tup [(true, [.dead, .dead, .dead, .dead, .dead, .dead, .dead, .dead]), (false, [.dead])]), sV 33 (Pt.row r5.1), sI 31 v3.Q, sA 30 4 4 3, sI 29 v3.B, sA 28 4 4 2, sV 27 (CV.frzRow (Net.row x0)), sB 6 r4.2, sA 5 5 8 0, sB 25 r4.2, (17, .tup [(true, [.dead, .dead, .dead, .dead, .dead, .dead, .dead, .dead]), (false, [.dead])]), sV 24 (Pt.row r4.1), sI 22 v3.P, sA 21 4 4 1, sI 20 v3.A, sA 19 4 4 0, sV 18 (CV.frzRow (Net.row x0)), sI 3 y1, sA 4 4 4 0, sV 16 (Link.row v3), (15, .fad ((Link.row v3))), sI 14 y1, sB 13 true, sI 12 y1, sI 11 (x0.Links.length : Int), sC 10 (cF 4 x0.Links Link.row), sB 2 false, sA 1 1 3 0], [(7, (Pt.row r5.1)), (5, (Pt.row r4.1)), (4, (Link.row v3)), (1, (CV.frzRow (Net.row x0)))]⟩ kr ?_
                  cases h7 : r7
                  · have H := bifF h7 H
                    obtain ⟨hg8, H⟩ := guard_some H
                    obtain ⟨r9, er9, H⟩ := bind_some H
                    refine Tr.draws mixed 20 kr ⟨80, 0, [sB 78 r9, sB 77 r9, sI 76 v3.Q, sA 75 4 4 3, sI 74 v3.B, sA 73 4 4 2, sC 72 (cF 4 ((x0.Links.drop ((0 : Int)).toNat).take (((y1 : Int)).toNat - ((0 : Int)).toNat)) Link.row), sI 71 y1, sR 70 1 3 1 1 false, sA 69 1 3 1, sB 68 false, sB 67 false, sI 66 v3.P, sA 65 4 4 1, sI 64 v3.A, sA 63 4 4 0, sC 62 (cF 4 ((x0.Links.drop ((0 : Int)).toNat).take (((y1 : Int)).toNat - ((0 : Int)).toNat)) Link.row), sI 61 y1, sR 60 1 3 1 1 false, sA 59 1 3 1, sB 58 false, sB 57 false, sB 56 r5.1.Up, sA 55 7 8 0, sB 54 r4.1.Up, sA 53 5 8 0, sB 52 false, sB 51 false, sB 50 false, sI 49 v3.B, sA 48 4 4 2, sI 47 v3.A, sA 46 4 4 0, sB 45 false, sB 44 false, sB 43 false, sB 42 r5.2, sB 41 false, sB 40 false, sB 39 false, sB 38 r4.2, sB 37 false, sB 36 false, sI 35 y1, sB 8 r5.2, sA 7 7 8 0, sB 34 r5.2, (26, .tup [(true, [.dead, .dead, .dead, .dead, .dead, .dead, .dead, .dead]), (false, [.dead])]), sV 33 (Pt.row r5.1), sI 31 v3.Q, sA 30 4 4 3, sI 29 v3.B, sA 28 4 4 2, sV 27 (CV.frzRow (Net.row x0)), sB 6 r4.2, sA 5 5 8 0, sB 25 r4.2, (17, .tup [(true, [.dead, .dead, .dead, .dead, .dead, .dead, .dead, .dead]), (false, [.dead])]), sV 24 (Pt.row r4.1), sI 22 v3.P, sA 21 4 4 1, sI 20 v3.A, sA 19 4 4 0, sV 18 (CV.frzRow (Net.row x0)), sI 3 y1, sA 4 4 4 0, sV 16 (Link.row v3), (15, .fad ((Link.row v3))), sI 14 y1, sB 13 true, sI 12 y1, sI 11 (x0.Links.length : Int), sC 10 (cF 4 x0.Links Link.row), sB 2 false, sA 1 1 3 0], [(7, (Pt.row r5.1)), (5, (Pt.row r4.1)), (4, (Link.row v3)), (1, (CV.frzRow (Net.row x0)))]⟩ (fun cx => ?_) ?_
                    · refine AT.runU tOk [(0, []), (1, [3, 8, 13, 18]), (2, []), (4, []), (5, [8, 13, 18]), (6, []), (7, [8, 13, 18])] 13 [⟨[8, 13, 18], 3, 65, 66⟩, ⟨[8, 13, 18], 3, 63, 64⟩, ⟨[3, 8, 13, 18], 31, 59, 60⟩] [7, 6, 5, 4, 2, 1, 0] rfl kr (fun cx => ?_)
                      refine AT.big1 tOk 3 kr kr ?_
                      refine LAt.cutG tOk (t := 31) (ty := 31) (e := 96) (x := (.tmp 60)) (lo := none) (hi := (some (.tmp 61))) (d := 62) (g := none) ⟨.st [(0, 1, 3), (1, 1, 3), (2, 1, 3), (3, 1, 3)], 4, 32, [.lit (.int .i64 0), .lit (.int .i64 0), .lit (.int .i64 0), .lit (.int .i64 0)]⟩ Link.row x0.Links ⟨(.box 1), [(0, 0)], 1, false, 4, (CV.frzEs (x0.Links.map Link.row))⟩ 0 y1 kr kr kr kr kr kr rfl kr rfl kr kr hg6 ?_
                      refine LAt.fin kr (And.intro (And.intro kr kr) ?_)
                      refine AT.big1 tOk 8 kr kr ?_
                      refine LAt.callU tOk [.rd, .rd, .rd] (f := 89) (av := #[.tmp 62, .tmp 64, .tmp 66]) (ats := #[31, 3, 3]) (d := (some 67)) (ty := 4) (g := none) kr kr kr [] (impl_ends n ((x0.Links.drop ((0 : Int)).toNat).take (((y1 : Int)).toNat - ((0 : Int)).toNat)) v3.A v3.P r7 er7) kr (.inl rfl) ?_
                      refine LAt.fin kr (And.intro (And.intro kr kr) ?_)
                      refine AT.runU tOk [(9, [])] 10 [⟨[8, 13, 18], 3, 65, 66⟩, ⟨[8, 13, 18], 3, 63, 64⟩, ⟨[3, 8, 13, 18], 31, 59, 60⟩] [9, 8, 3, 7, 6, 5, 4, 2, 1, 0] rfl kr (fun cx => ?_)
                      refine AT.to ⟨80, 0, [sB 68 r7, sB 67 r7, sC 62 (cF 4 ((x0.Links.drop ((0 : Int)).toNat).take (((y1 : Int)).toNat - ((0 : Int)).toNat)) Link.row), sI 66 v3.P, sA 65 4 4 1, sI 64 v3.A, sA 63 4 4 0, sI 61 y1, sR 60 1 3 1 1 false, sA 59 1 3 1, sB 58 false, sB 57 false, sB 56 r5.1.Up, sA 55 7 8 0, sB 54 r4.1.Up, sA 53 5 8 0, sB 52 false, sB 51 false, sB 50 false, sI 49 v3.B, sA 48 4 4 2, sI 47 v3.A, sA 46 4 4 0, sB 45 false, sB 44 false, sB 43 false, sB 42 r5.2, sB 41 false, sB 40 false, sB 39 false, sB 38 r4.2, sB 37 false, sB 36 false, sI 35 y1, sB 8 r5.2, sA 7 7 8 0, sB 34 r5.2, (26, .tup [(true, [.dead, .dead, .dead, .dead, .dead, .dead, .dead, .dead]), (false, [.dead])]), sV 33 (Pt.row r5.1), sI 31 v3.Q, sA 30 4 4 3, sI 29 v3.B, sA 28 4 4 2, sV 27 (CV.frzRow (Net.row x0)), sB 6 r4.2, sA 5 5 8 0, sB 25 r4.2, (17, .tup [(true, [.dead, .dead, .dead, .dead, .dead, .dead, .dead, .dead]), (false, [.dead])]), sV 24 (Pt.row r4.1), sI 22 v3.P, sA 21 4 4 1, sI 20 v3.A, sA 19 4 4 0, sV 18 (CV.frzRow (Net.row x0)), sI 3 y1, sA 4 4 4 0, sV 16 (Link.row v3), (15, .fad ((Link.row v3))), sI 14 y1, sB 13 true, sI 12 y1, sI 11 (x0.Links.length : Int), sC 10 (cF 4 x0.Links Link.row), sB 2 false, sA 1 1 3 0], [(7, (Pt.row r5.1)), (5, (Pt.row r4.1)), (4, (Link.row v3)), (1, (CV.frzRow (Net.row x0)))]⟩ kr ?_
                      rw [h7]
                      refine AT.runU tOk [(10, []), (11, [13, 18]), (12, []), (14, []), (15, [18]), (16, []), (17, [18])] 3 [⟨[18], 3, 75, 76⟩, ⟨[18], 3, 73, 74⟩, ⟨[13, 18], 31, 69, 70⟩, ⟨[8, 13, 18], 3, 65, 66⟩, ⟨[8, 13, 18], 3, 63, 64⟩, ⟨[3, 8, 13, 18], 31, 59, 60⟩] [17, 16, 15, 14, 12, 11, 10, 9, 8, 3, 7, 6, 5, 4, 2, 1, 0] rfl kr (fun cx => ?_)
                      refine AT.big1 tOk 13 kr kr ?_
                      refine LAt.cutG tOk (t := 31) (ty := 31) (e := 96) (x := (.tmp 70)) (lo := none) (hi := (some (.tmp 71))) (d := 72) (g := (some (9, false))) ⟨.st [(0, 1, 3), (1, 1, 3), (2, 1, 3), (3, 1, 3)], 4, 32, [.lit (.int .i64 0), .lit (.int .i64 0), .lit (.int .i64 0), .lit (.int .i64 0)]⟩ Link.row x0.Links ⟨(.box 1), [(0, 0)], 1, false, 4, (CV.frzEs (x0.Links.map Link.row))⟩ 0 y1 kr kr kr kr kr kr rfl kr rfl kr kr hg8 ?_
                      refine LAt.fin kr (And.intro (And.intro kr kr) ?_)
                      refine AT.big1 tOk 18 kr kr ?_
                      refine LAt.callU tOk [.rd, .rd, .rd] (f := 89) (av := #[.tmp 72, .tmp 74, .tmp 76]) (ats := #[31, 3, 3]) (d := (some 77)) (ty := 4) (g := (some (9, false))) kr kr kr [] (impl_ends n ((x0.Links.drop ((0 : Int)).toNat).take (((y1 : Int)).toNat - ((0 : Int)).toNat)) v3.B v3.Q r9 er9) kr (.inl rfl) ?_
                      refine LAt.fin kr (And.intro (And.intro kr kr) ?_)
                      refine AT.runU tOk [(19, [])] 0 [⟨[18], 3, 75, 76⟩, ⟨[18], 3, 73, 74⟩, ⟨[13, 18], 31, 69, 70⟩, ⟨[8, 13, 18], 3, 65, 66⟩, ⟨[8, 13, 18], 3, 63, 64⟩, ⟨[3, 8, 13, 18], 31, 59, 60⟩] [19, 18, 13, 17, 16, 15, 14, 12, 11, 10, 9, 8, 3, 7, 6, 5, 4, 2, 1, 0] rfl kr (fun cx => ?_)
                      exact AT.done [78, 77, 76, 75, 74, 73, 72, 71, 70, 69, 68, 67, 66, 65, 64, 63, 62, 61, 60, 59, 58, 57, 56, 55, 54, 53, 52, 51, 50, 49, 48, 47, 46, 45, 44, 43, 42, 41, 40, 39, 38, 37, 36, 35, 8, 7, 34, 26, 33, 31, 30, 29, 28, 27, 6, 5, 25, 17, 24, 22, 21, 20, 19, 18, 3, 4, 16, 15, 14, 13, 12, 11, 10, 2, 1] [7, 5, 4, 1] _ kr kr rfl
                    · refine Tr.to ⟨80, 0, [sB 78 r9, sB 77 r9, sI 76 v3.Q, sA 75 4 4 3, sI 74 v3.B, sA 73 4 4 2, sC 72 (cF 4 ((x0.Links.drop ((0 : Int)).toNat).take (((y1 : Int)).toNat - ((0 : Int)).toNat)) Link.row), sI 71 y1, sR 70 1 3 1 1 false, sA 69 1 3 1, sB 68 false, sB 67 false, sI 66 v3.P, sA 65 4 4 1, sI 64 v3.A, sA 63 4 4 0, sC 62 (cF 4 ((x0.Links.drop ((0 : Int)).toNat).take (((y1 : Int)).toNat - ((0 : Int)).toNat)) Link.row), sI 61 y1, sR 60 1 3 1 1 false, sA 59 1 3 1, sB 58 false, sB 57 false, sB 56 r5.1.Up, sA 55 7 8 0, sB 54 r4.1.Up, sA 53 5 8 0, sB 52 false, sB 51 false, sB 50 false, sI 49 v3.B, sA 48 4 4 2, sI 47 v3.A, sA 46 4 4 0, sB 45 false, sB 44 false, sB 43 false, sB 42 r5.2, sB 41 false, sB 40 false, sB 39 false, sB 38 r4.2, sB 37 false, sB 36 false, sI 35 y1, sB 8 r5.2, sA 7 7 8 0, sB 34 r5.2, (26, .tup [(true, [.dead, .dead, .dead, .dead, .dead, .dead, .dead, .dead]), (false, [.dead])]), sV 33 (Pt.row r5.1), sI 31 v3.Q, sA 30 4 4 3, sI 29 v3.B, sA 28 4 4 2, sV 27 (CV.frzRow (Net.row x0)), sB 6 r4.2, sA 5 5 8 0, sB 25 r4.2, (17, .tup [(true, [.dead, .dead, .dead, .dead, .dead, .dead, .dead, .dead]), (false, [.dead])]), sV 24 (Pt.row r4.1), sI 22 v3.P, sA 21 4 4 1, sI 20 v3.A, sA 19 4 4 0, sV 18 (CV.frzRow (Net.row x0)), sI 3 y1, sA 4 4 4 0, sV 16 (Link.row v3), (15, .fad ((Link.row v3))), sI 14 y1, sB 13 true, sI 12 y1, sI 11 (x0.Links.length : Int), sC 10 (cF 4 x0.Links Link.row), sB 2 false, sA 1 1 3 0], [(7, (Pt.row r5.1)), (5, (Pt.row r4.1)), (4, (Link.row v3)), (1, (CV.frzRow (Net.row x0)))]⟩ kr ?_
                      cases h8 : r9
                      · have H := bifF h8 H
                        refine Tr.cond (b := false) kr (fun h => nomatch h) (fun _ => ?_)
                        refine Tr.skip ?_
                        show Tr _ _ _ _ _
                        refine Tr.at ?_
                        refine LAt.runU tOk 2 kr ?_
                        refine LAt.doneM 1208925819614624871349758 178 kr ?_
                        exact Exists.intro (mo2, (IntKind.wrap .i64 (y1 + 1))) (And.intro H (And.intro (Nat.lt_succ_self mo2) (St.sub_of [12, 11, 10, 2, 1] [1] kr)))
                      · have H := bifT h8 H
                        refine Tr.cond (b := true) kr (fun _ => ?_) (fun h => nomatch h)
                        refine Tr.rs ?_
                        refine LAt.runU tOk 1 kr ?_
                        refine LAt.doneM 604462909807310283996670 178 kr ?_
                        refine Tr.ret ?_
                        have H := Option.some.inj H
                        subst H
                        have H := Ho2
                        dsimp only at H
                        have H := Option.some.inj H
                        subst H
                        exact Fin.of _ [(false, [cB false])] kr rfl rfl
                  · have H := bifT h7 H
                    refine Tr.draws mixed 20 kr ⟨80, 0, [sB 78 true, (77, .tup []), (76, .tup []), (75, .tup []), (74, .tup []), (73, .tup []), (72, .tup []), (71, .tup []), (70, .tup []), (69, .tup []), sB 68 true, sB 67 true, sI 66 v3.P, sA 65 4 4 1, sI 64 v3.A, sA 63 4 4 0, sC 62 (cF 4 ((x0.Links.drop ((0 : Int)).toNat).take (((y1 : Int)).toNat - ((0 : Int)).toNat)) Link.row), sI 61 y1, sR 60 1 3 1 1 false, sA 59 1 3 1, sB 58 false, sB 57 false, sB 56 r5.1.Up, sA 55 7 8 0, sB 54 r4.1.Up, sA 53 5 8 0, sB 52 false, sB 51 false, sB 50 false, sI 49 v3.B, sA 48 4 4 2, sI 47 v3.A, sA 46 4 4 0, sB 45 false, sB 44 false, sB 43 false, sB 42 r5.2, sB 41 false, sB 40 false, sB 39 false, sB 38 r4.2, sB 37 false, sB 36 false, sI 35 y1, sB 8 r5.2, sA 7 7 8 0, sB 34 r5.2, (26, .tup [(true, [.dead, .dead, .dead, .dead, .dead, .dead, .dead, .dead]), (false, [.dead])]), sV 33 (Pt.row r5.1), sI 31 v3.Q, sA 30 4 4 3, sI 29 v3.B, sA 28 4 4 2, sV 27 (CV.frzRow (Net.row x0)), sB 6 r4.2, sA 5 5 8 0, sB 25 r4.2, (17, .tup [(true, [.dead, .dead, .dead, .dead, .dead, .dead, .dead, .dead]), (false, [.dead])]), sV 24 (Pt.row r4.1), sI 22 v3.P, sA 21 4 4 1, sI 20 v3.A, sA 19 4 4 0, sV 18 (CV.frzRow (Net.row x0)), sI 3 y1, sA 4 4 4 0, sV 16 (Link.row v3), (15, .fad ((Link.row v3))), sI 14 y1, sB 13 true, sI 12 y1, sI 11 (x0.Links.length : Int), sC 10 (cF 4 x0.Links Link.row), sB 2 false, sA 1 1 3 0], [(7, (Pt.row r5.1)), (5, (Pt.row r4.1)), (4, (Link.row v3)), (1, (CV.frzRow (Net.row x0)))]⟩ (fun cx => ?_) ?_
                    · refine AT.runU tOk [(0, []), (1, [3, 8]), (2, []), (4, []), (5, [8]), (6, []), (7, [8])] 13 [⟨[8], 3, 65, 66⟩, ⟨[8], 3, 63, 64⟩, ⟨[3, 8], 31, 59, 60⟩] [7, 6, 5, 4, 2, 1, 0] rfl kr (fun cx => ?_)
                      refine AT.big1 tOk 3 kr kr ?_
                      refine LAt.cutG tOk (t := 31) (ty := 31) (e := 96) (x := (.tmp 60)) (lo := none) (hi := (some (.tmp 61))) (d := 62) (g := none) ⟨.st [(0, 1, 3), (1, 1, 3), (2, 1, 3), (3, 1, 3)], 4, 32, [.lit (.int .i64 0), .lit (.int .i64 0), .lit (.int .i64 0), .lit (.int .i64 0)]⟩ Link.row x0.Links ⟨(.box 1), [(0, 0)], 1, false, 4, (CV.frzEs (x0.Links.map Link.row))⟩ 0 y1 kr kr kr kr kr kr rfl kr rfl kr kr hg6 ?_
                      refine LAt.fin kr (And.intro (And.intro kr kr) ?_)
                      refine AT.big1 tOk 8 kr kr ?_
                      refine LAt.callU tOk [.rd, .rd, .rd] (f := 89) (av := #[.tmp 62, .tmp 64, .tmp 66]) (ats := #[31, 3, 3]) (d := (some 67)) (ty := 4) (g := none) kr kr kr [] (impl_ends n ((x0.Links.drop ((0 : Int)).toNat).take (((y1 : Int)).toNat - ((0 : Int)).toNat)) v3.A v3.P r7 er7) kr (.inl rfl) ?_
                      refine LAt.fin kr (And.intro (And.intro kr kr) ?_)
                      refine AT.runU tOk [(9, [])] 10 [⟨[8], 3, 65, 66⟩, ⟨[8], 3, 63, 64⟩, ⟨[3, 8], 31, 59, 60⟩] [9, 8, 3, 7, 6, 5, 4, 2, 1, 0] rfl kr (fun cx => ?_)
                      refine AT.to ⟨80, 0, [sB 68 r7, sB 67 r7, sC 62 (cF 4 ((x0.Links.drop ((0 : Int)).toNat).take (((y1 : Int)).toNat - ((0 : Int)).toNat)) Link.row), sI 66 v3.P, sA 65 4 4 1, sI 64 v3.A, sA 63 4 4 0, sI 61 y1, sR 60 1 3 1 1 false, sA 59 1 3 1, sB 58 false, sB 57 false, sB 56 r5.1.Up, sA 55 7 8 0, sB 54 r4.1.Up, sA 53 5 8 0, sB 52 false, sB 51 false, sB 50 false, sI 49 v3.B, sA 48 4 4 2, sI 47 v3.A, sA 46 4 4 0, sB 45 false, sB 44 false, sB 43 false, sB 42 r5.2, sB 41 false, sB 40 false, sB 39 false, sB 38 r4.2, sB 37 false, sB 36 false, sI 35 y1, sB 8 r5.2, sA 7 7 8 0, sB 34 r5.2, (26, .tup [(true, [.dead, .dead, .dead, .dead, .dead, .dead, .dead, .dead]), (false, [.dead])]), sV 33 (Pt.row r5.1), sI 31 v3.Q, sA 30 4 4 3, sI 29 v3.B, sA 28 4 4 2, sV 27 (CV.frzRow (Net.row x0)), sB 6 r4.2, sA 5 5 8 0, sB 25 r4.2, (17, .tup [(true, [.dead, .dead, .dead, .dead, .dead, .dead, .dead, .dead]), (false, [.dead])]), sV 24 (Pt.row r4.1), sI 22 v3.P, sA 21 4 4 1, sI 20 v3.A, sA 19 4 4 0, sV 18 (CV.frzRow (Net.row x0)), sI 3 y1, sA 4 4 4 0, sV 16 (Link.row v3), (15, .fad ((Link.row v3))), sI 14 y1, sB 13 true, sI 12 y1, sI 11 (x0.Links.length : Int), sC 10 (cF 4 x0.Links Link.row), sB 2 false, sA 1 1 3 0], [(7, (Pt.row r5.1)), (5, (Pt.row r4.1)), (4, (Link.row v3)), (1, (CV.frzRow (Net.row x0)))]⟩ kr ?_
                      rw [h7]
                      refine AT.runU tOk [(10, []), (11, []), (12, []), (13, []), (14, []), (15, []), (16, []), (17, []), (18, []), (19, [])] 0 [⟨[8], 3, 65, 66⟩, ⟨[8], 3, 63, 64⟩, ⟨[3, 8], 31, 59, 60⟩] [19, 18, 17, 16, 15, 14, 13, 12, 11, 10, 9, 8, 3, 7, 6, 5, 4, 2, 1, 0] rfl kr (fun cx => ?_)
                      exact AT.done [78, 77, 76, 75, 74, 73, 72, 71, 70, 69, 68, 67, 66, 65, 64, 63, 62, 61, 60, 59, 58, 57, 56, 55, 54, 53, 52, 51, 50, 49, 48, 47, 46, 45, 44, 43, 42, 41, 40, 39, 38, 37, 36, 35, 8, 7, 34, 26, 33, 31, 30, 29, 28, 27, 6, 5, 25, 17, 24, 22, 21, 20, 19, 18, 3, 4, 16, 15, 14, 13, 12, 11, 10, 2, 1] [7, 5, 4, 1] _ kr kr rfl
                    · refine Tr.cond (b := true) kr (fun _ => ?_) (fun h => nomatch h)
                      refine Tr.rs ?_
                      refine LAt.runU tOk 1 kr ?_
                      refine LAt.doneM 604462909807310283996670 178 kr ?_
                      refine Tr.ret ?_
                      have H := Option.some.inj H
                      subst H
                      have H := Ho2
                      dsimp only at H
                      have H := Option.some.inj H
                      subst H
                      exact Fin.of _ [(false, [cB false])] kr rfl rfl
                · have H := bifT h6 H
                  refine Tr.cond (b := true) kr (fun _ => ?_) (fun h => nomatch h)
                  refine Tr.rs ?_
                  refine LAt.runU tOk 1 kr ?_
                  refine LAt.doneM 576460748000067070 178 kr ?_
                  refine Tr.ret ?_
                  have H := Option.some.inj H
                  subst H
                  have H := Ho2
                  dsimp only at H
                  have H := Option.some.inj H
                  subst H
                  exact Fin.of _ [(false, [cB false])] kr rfl rfl
              · have H := bifT h5 H
                refine LAt.runU tOk 6 kr ?_
                refine LAt.doneM 576460748000067070 178 kr ?_
                refine Tr.cond (b := true) kr (fun _ => ?_) (fun h => nomatch h)
                refine Tr.rs ?_
                refine LAt.runU tOk 1 kr ?_
                refine LAt.doneM 576460748000067070 178 kr ?_
                refine Tr.ret ?_
                have H := Option.some.inj H
                subst H
                have H := Ho2
                dsimp only at H
                have H := Option.some.inj H
                subst H
                exact Fin.of _ [(false, [cB false])] kr rfl rfl
            · have H := bifT h4 H
              refine LAt.runU tOk 13 kr ?_
              refine LAt.doneM 576460748000067070 178 kr ?_
              refine Tr.cond (b := true) kr (fun _ => ?_) (fun h => nomatch h)
              refine Tr.rs ?_
              refine LAt.runU tOk 1 kr ?_
              refine LAt.doneM 576460748000067070 178 kr ?_
              refine Tr.ret ?_
              have H := Option.some.inj H
              subst H
              have H := Ho2
              dsimp only at H
              have H := Option.some.inj H
              subst H
              exact Fin.of _ [(false, [cB false])] kr rfl rfl
          · have H := bifT h3 H
            refine LAt.runU tOk 17 kr ?_
            refine LAt.doneM 576460748000067070 178 kr ?_
            refine Tr.cond (b := true) kr (fun _ => ?_) (fun h => nomatch h)
            refine Tr.rs ?_
            refine LAt.runU tOk 1 kr ?_
            refine LAt.doneM 576460748000067070 178 kr ?_
            refine Tr.ret ?_
            have H := Option.some.inj H
            subst H
            have H := Ho2
            dsimp only at H
            have H := Option.some.inj H
            subst H
            exact Fin.of _ [(false, [cB false])] kr rfl rfl
        · have H := bifT h2 H
          refine LAt.runU tOk 21 kr ?_
          refine LAt.doneM 576460748000067070 178 kr ?_
          refine Tr.cond (b := true) kr (fun _ => ?_) (fun h => nomatch h)
          refine Tr.rs ?_
          refine LAt.runU tOk 1 kr ?_
          refine LAt.doneM 576460748000067070 178 kr ?_
          refine Tr.ret ?_
          have H := Option.some.inj H
          subst H
          have H := Ho2
          dsimp only at H
          have H := Option.some.inj H
          subst H
          exact Fin.of _ [(false, [cB false])] kr rfl rfl
  · rintro _ H
    have H : (impl_linksOk_J1 n) = some r := H
    unfold impl_linksOk_J1 at H
    show Tr _ _ _ _ _
    refine Tr.rs ?_
    refine LAt.runU tOk 1 kr ?_
    refine LAt.doneM 4 0 kr ?_
    refine Tr.ret ?_
    have H := Option.some.inj H
    subst H
    exact Fin.of _ [(false, [cB true])] kr rfl rfl

def impl_NetOk_J2 (n : Nat) (x0 : Net) : Option (Bool) :=
  ((impl_linksOkF n x0).bind fun r4 => (some r4))
def impl_NetOk_L3 (n : Nat) : Nat → Net → Int → Option ((Unit) ⊕ (Bool))
  | 0, _, _ => none
  | mo5 + 1, x0, y3 => (bif (decide (y3 < (x0.Said.length : Int))) then ((idx x0.Said y3).bind fun v6 => ((impl_inF n v6.Link 0 (IntKind.wrap .i64 ((x0.Links.length : Int) - 1))).bind fun r7 => (bif (!r7) then (some (Sum.inr false)) else ((impl_VecOkF n v6.V).bind fun r8 => (bif (!r8) then (some (Sum.inr false)) else (impl_NetOk_L3 n mo5 x0 (IntKind.wrap .i64 (y3 + 1)))))))) else (some (Sum.inl ())))
def impl_NetOk_J1 (n : Nat) (x0 : Net) : Option (Bool) :=
  ((impl_NetOk_L3 n n x0 0).bind fun o => match o with | .inl _ => (impl_NetOk_J2 n x0) | .inr r => some r)
def impl_NetOk_J6 (n : Nat) (k : (Int → Option ((Unit) ⊕ (Bool)))) (y2 : Int) (y16 : Int) : Option ((Unit) ⊕ (Bool)) :=
  (k (IntKind.wrap .i64 (y2 + 1)))
def impl_NetOk_L7 (n : Nat) : Nat → Bridge → Net → Int → Int → Option ((Int) ⊕ (Bool))
  | 0, _, _, _, _ => none
  | mo17 + 1, v10, x0, y2, y15 => (bif (decide (y15 < (v10.Ports.length : Int))) then ((idx v10.Ports y15).bind fun v18 => (bif v18.Has then ((impl_endsF n x0.Links y2 y15).bind fun r19 => (bif (!r19) then (some (Sum.inr false)) else (impl_NetOk_L7 n mo17 v10 x0 y2 (IntKind.wrap .i64 (y15 + 1))))) else (impl_NetOk_L7 n mo17 v10 x0 y2 (IntKind.wrap .i64 (y15 + 1))))) else (some (Sum.inl y15)))
def impl_NetOk_J5 (n : Nat) (k : (Int → Option ((Unit) ⊕ (Bool)))) (v10 : Bridge) (x0 : Net) (y2 : Int) (y14 : Int) : Option ((Unit) ⊕ (Bool)) :=
  ((impl_NetOk_L7 n n v10 x0 y2 0).bind fun o => match o with | .inl y16 => (impl_NetOk_J6 n k y2 y16) | .inr r => some (Sum.inr r))
def impl_NetOk_L8 (n : Nat) : Nat → Bridge → Net → Int → Int → Option ((Int) ⊕ (Bool))
  | 0, _, _, _, _ => none
  | mo20 + 1, v10, x0, y2, y13 => (bif (decide (y13 < (((x0.Bridges.drop ((0 : Int)).toNat).take (((y2 : Int)).toNat - ((0 : Int)).toNat)).length : Int))) then ((idx ((x0.Bridges.drop ((0 : Int)).toNat).take (((y2 : Int)).toNat - ((0 : Int)).toNat)) y13).bind fun v21 => (bif (v21.Id == v10.Id) then (some (Sum.inr false)) else (impl_NetOk_L8 n mo20 v10 x0 y2 (IntKind.wrap .i64 (y13 + 1))))) else (some (Sum.inl y13)))
def impl_NetOk_L4 (n : Nat) : Nat → Net → Int → Option ((Unit) ⊕ (Bool))
  | 0, _, _ => none
  | mo9 + 1, x0, y2 => (bif (decide (y2 < (x0.Bridges.length : Int))) then ((idx x0.Bridges y2).bind fun v10 => ((impl_BridgeOkF n v10).bind fun r11 => (bif (!r11) then (some (Sum.inr false)) else (bif (decide ((0 : Int) ≤ 0) && (decide ((0 : Int) ≤ y2) && decide ((y2 : Int) ≤ (x0.Bridges.length : Int)))) then ((impl_NetOk_L8 n n v10 x0 y2 0).bind fun o => match o with | .inl y14 => (impl_NetOk_J5 n (fun v => impl_NetOk_L4 n mo9 x0 v) v10 x0 y2 y14) | .inr r => some (Sum.inr r)) else none)))) else (some (Sum.inl ())))
def impl_NetOkF (n : Nat) (x0 : Net) : Option (Bool) :=
  ((impl_inF n (x0.Bridges.length : Int) 1 6).bind fun r1 => (bif (!r1) then (some false) else (bif (decide ((x0.Said.length : Int) > 40)) then (some false) else ((impl_NetOk_L4 n n x0 0).bind fun o => match o with | .inl _ => (impl_NetOk_J1 n x0) | .inr r => some r))))
/-- loop.example/g00326/impl.NetOk -/
theorem impl_NetOk (n : Nat) (x0 : Net) (r : Bool) (H : impl_NetOkF n x0 = some r) : LCall Try.prog 32 [.val true (CV.frzRow (Net.row x0))] [.val false [.lit (.bool r)]] [] := by
  refine LCall.of_body tOk Try.func32 rfl (c := (.seq (.region 0 (rg Try.f32 0) false) (.seq (.seq (.region 1 (rg Try.f32 1) false) (.cond (.tmp 21) (.seq (.region 2 (rg Try.f32 2) false) .ret) .skip)) (.seq (.seq (.region 3 (rg Try.f32 3) false) (.block 0 (.loop (.seq (.region 4 (rg Try.f32 4) false) (.seq (.cond (.tmp 26) .skip (.exit 0)) (.seq (.block 1 (.seq (.region 5 (rg Try.f32 5) false) (.seq (.seq (.region 6 (rg Try.f32 6) false) (.cond (.tmp 32) (.seq (.region 7 (rg Try.f32 7) false) .ret) .skip)) (.seq (.seq (.region 8 (rg Try.f32 8) false) (.block 2 (.loop (.seq (.region 9 (rg Try.f32 9) false) (.seq (.cond (.tmp 39) .skip (.exit 2)) (.seq (.block 3 (.seq (.region 10 (rg Try.f32 10) false) (.seq (.region 11 (rg Try.f32 11) false) (.cond (.tmp 46) (.seq (.region 12 (rg Try.f32 12) false) .ret) .skip)))) (.region 13 (rg Try.f32 13) false))))))) (.seq (.region 14 (rg Try.f32 14) false) (.block 4 (.loop (.seq (.region 15 (rg Try.f32 15) false) (.seq (.cond (.tmp 52) .skip (.exit 4)) (.seq (.block 5 (.seq (.region 16 (rg Try.f32 16) false) (.seq (.region 17 (rg Try.f32 17) false) (.cond (.tmp 65) (.seq (.region 18 (rg Try.f32 18) false) .ret) .skip)))) (.region 19 (rg Try.f32 19) false))))))))))) (.region 20 (rg Try.f32 20) false))))))) (.seq (.seq (.region 21 (rg Try.f32 21) false) (.block 6 (.loop (.seq (.region 22 (rg Try.f32 22) false) (.seq (.cond (.tmp 72) .skip (.exit 6)) (.seq (.block 7 (.seq (.region 23 (rg Try.f32 23) false) (.seq (.region 24 (rg Try.f32 24) false) (.cond (.tmp 88) (.seq (.region 25 (rg Try.f32 25) false) .ret) .skip)))) (.region 26 (rg Try.f32 26) false))))))) (.seq (.region 27 (rg Try.f32 27) false) .ret)))))) kr (Nat.le_of_ble_eq_true kr) 0 (rs := [.tmp 2]) rfl [] .nil [(false, [.lit (.bool r)])] [] [] fun cx => ?_
  show Tr _ _ _ ⟨92, 0, [sV 0 (CV.frzRow (Net.row x0))], []⟩ _
  unfold impl_NetOkF at H
  refine Tr.rs ?_
  refine LAt.runU tOk 2 kr ?_
  refine LAt.doneM 6 2 kr ?_
  refine Tr.seq ?_
  refine Tr.rs ?_
  refine LAt.runU tOk 2 kr ?_
  refine LAt.lenE tOk (t := 30) (ty := 3) (e := 61) (x := (.tmp 12)) (d := 13) (g := none) ⟨(.slot 12), [], 0, false, 11, (CV.frzEs (x0.Bridges.map Bridge.row))⟩ (x0.Bridges).length _ kr kr kr kr kr (frz_len _ _) rfl ?_
  obtain ⟨r1, er1, H⟩ := bind_some H
  refine LAt.callU tOk [.rd, .rd, .rd] (f := 70) (av := #[.tmp 13, .const (.int .i64 1), .const (.int .i64 6)]) (ats := #[3, 3, 3]) (d := (some 14)) (ty := 4) (g := none) kr kr kr [] (impl_in n (x0.Bridges.length : Int) 1 6 r1 er1) kr (.inl rfl) ?_
  refine LAt.runU tOk 2 kr ?_
  refine LAt.to ⟨92, 0, [sB 16 (!r1), sB 15 (!r1), sB 14 r1, sI 13 (x0.Bridges.length : Int), sC 12 (cF 11 x0.Bridges Bridge.row), sA 11 1 3 0, sB 2 false, sA 1 1 3 0], [(1, (CV.frzRow (Net.row x0)))]⟩ kr ?_
  cases h1 : (!r1)
  · have H := bifF h1 H
    refine LAt.runU tOk 2 kr ?_
    refine LAt.lenE tOk (t := 32) (ty := 3) (e := 116) (x := (.tmp 18)) (d := 19) (g := (some (5, false))) ⟨(.slot 18), [], 0, false, 7, (CV.frzEs (x0.Said.map Say.row))⟩ (x0.Said).length _ kr kr kr kr kr (frz_len _ _) rfl ?_
    refine LAt.runU tOk 2 kr ?_
    refine LAt.doneM 2097158 2 kr ?_
    refine Tr.to ⟨92, 0, [sB 21 (decide ((x0.Said.length : Int) > 40)), sB 2 false, sA 1 1 3 0], [(1, (CV.frzRow (Net.row x0)))]⟩ kr ?_
    cases h2 : (decide ((x0.Said.length : Int) > 40))
    · have H := bifF h2 H
      refine Tr.cond (b := false) kr (fun h => nomatch h) (fun _ => ?_)
      refine Tr.skip ?_
      show Tr _ _ _ _ _
      refine Tr.seq ?_
      refine Tr.rs ?_
      refine LAt.runU tOk 2 kr ?_
      refine LAt.lenE tOk (t := 30) (ty := 3) (e := 61) (x := (.tmp 23)) (d := 24) (g := none) ⟨(.slot 23), [], 0, false, 11, (CV.frzEs (x0.Bridges.map Bridge.row))⟩ (x0.Bridges).length _ kr kr kr kr kr (frz_len _ _) rfl ?_
      refine LAt.runU tOk 1 kr ?_
      refine LAt.doneM 58720262 2 kr ?_
      obtain ⟨o9, eo9, Ho9⟩ := bind_some H
      clear H
      refine Tr.mid (ι := Unit) (fun v => ⟨92, 0, [sB 2 false, sA 1 1 3 0], [(1, (CV.frzRow (Net.row x0)))]⟩) (fun v => impl_NetOk_J1 n x0 = some r) ?_ ?_
      · refine Tr.block ?_
        refine Tr.loop (ι := Nat × (Int)) (fun v => ⟨92, 0, [sI 25 v.2, sI 24 (x0.Bridges.length : Int), sC 23 (cF 11 x0.Bridges Bridge.row), sB 2 false, sA 1 1 3 0], [(1, (CV.frzRow (Net.row x0)))]⟩) (fun v => impl_NetOk_L4 n v.1 x0 v.2 = some o9) (fun v => v.1) (n, 0) eo9 (St.sub_of [25, 24, 23, 2, 1] [1] kr) ?_
        rintro ⟨mo9, y2⟩ H
        have H : impl_NetOk_L4 n mo9 x0 y2 = some o9 := H
        obtain _ | mo9 := mo9
        · cases (show (none : Option _) = some o9 from H)
        · rw [impl_NetOk_L4] at H
          refine Tr.rs ?_
          refine LAt.runU tOk 1 kr ?_
          refine LAt.doneM 125829126 2 kr ?_
          refine Tr.seq ?_
          refine Tr.to ⟨92, 0, [sB 26 (decide (y2 < (x0.Bridges.length : Int))), sI 25 y2, sI 24 (x0.Bridges.length : Int), sC 23 (cF 11 x0.Bridges Bridge.row), sB 2 false, sA 1 1 3 0], [(1, (CV.frzRow (Net.row x0)))]⟩ kr ?_
          cases h6 : (decide (y2 < (x0.Bridges.length : Int)))
          · have H := bifF h6 H
            refine Tr.cond (b := false) kr (fun h => nomatch h) (fun _ => ?_)
            refine Tr.exit ?_
            refine And.intro (fun _ => ?_) (fun h => absurd rfl h)
            have H := Option.some.inj H
            subst H
            have H := Ho9
            dsimp only at H
            exact Exists.intro () (And.intro H (St.sub_of [2, 1] [1] kr))
          · have H := bifT h6 H
            refine Tr.cond (b := true) kr (fun _ => ?_) (fun h => nomatch h)
            refine Tr.skip ?_
            show Tr _ _ _ _ _
            refine Tr.seq ?_
            refine Tr.block ?_
            refine Tr.rs ?_
            refine LAt.runU tOk 1 kr ?_
            obtain ⟨v10, ev10, H⟩ := bind_some H
            refine LAt.indexF tOk (t := 30) (ty := 0) (x := (.tmp 23)) (y := (.tmp 25)) (d := 28) (g := none) ⟨(.slot 23), [], 0, false, 11, (CV.frzEs (x0.Bridges.map Bridge.row))⟩ y2 (CV.frzRow (Bridge.row v10)) _ kr kr kr kr rfl (idx_isF ev10) rfl ?_
            refine LAt.runU tOk 4 kr ?_
            refine LAt.doneM 1065353246 18 kr ?_
            refine Tr.seq ?_
            refine Tr.rs ?_
            refine LAt.runU tOk 1 kr ?_
            obtain ⟨r11, er11, H⟩ := bind_some H
            refine LAt.callU tOk [.rd] (f := 88) (av := #[.tmp 30]) (ats := #[61]) (d := (some 31)) (ty := 4) (g := none) kr kr kr [] (impl_BridgeOk n v10 r11 er11) kr (.inl rfl) ?_
            refine LAt.runU tOk 1 kr ?_
            refine LAt.doneM 8581546014 18 kr ?_
            refine Tr.to ⟨92, 0, [sB 32 (!r11), sB 31 r11, sV 30 (CV.frzRow (Bridge.row v10)), sI 3 y2, sA 4 4 11 0, sV 29 (CV.frzRow (Bridge.row v10)), (28, .fad ((CV.frzRow (Bridge.row v10)))), sI 27 y2, sB 26 true, sI 25 y2, sI 24 (x0.Bridges.length : Int), sC 23 (cF 11 x0.Bridges Bridge.row), sB 2 false, sA 1 1 3 0], [(4, (CV.frzRow (Bridge.row v10))), (1, (CV.frzRow (Net.row x0)))]⟩ kr ?_
            cases h7 : (!r11)
            · have H := bifF h7 H
              refine Tr.cond (b := false) kr (fun h => nomatch h) (fun _ => ?_)
              refine Tr.skip ?_
              show Tr _ _ _ _ _
              refine Tr.seq ?_
              refine Tr.rs ?_
              refine LAt.runU tOk 3 kr ?_
              obtain ⟨hg12, H⟩ := guard_some H
              refine LAt.cutG tOk (t := 30) (ty := 30) (e := 61) (x := (.tmp 34)) (lo := none) (hi := (some (.tmp 35))) (d := 36) (g := none) ⟨.st [(0, 1, 3), (1, 1, 9), (2, 1, 55), (3, 1, 56), (4, 2, 59), (6, 1, 3), (7, 1, 3), (8, 1, 3), (9, 1, 3), (10, 1, 3)], 11, 160, [.lit (.int .i64 0), .lit (.string ⟨#[]⟩), .sl true 8 [], .sl true 5 [], .sl true 3 [], .sl true 1 [], .lit (.int .i64 0), .lit (.int .i64 0), .lit (.int .i64 0), .lit (.int .i64 0), .lit (.int .i64 0)]⟩ Bridge.row x0.Bridges ⟨(.slot 34), [], 0, false, 11, (CV.frzEs (x0.Bridges.map Bridge.row))⟩ 0 y2 kr kr kr kr kr kr rfl kr rfl kr kr hg12 ?_
              refine LAt.lenE tOk (t := 30) (ty := 3) (e := 61) (x := (.tmp 36)) (d := 37) (g := none) ⟨(.slot 36), [], 0, false, 11, (CV.frzEs (((x0.Bridges.drop ((0 : Int)).toNat).take (((y2 : Int)).toNat - ((0 : Int)).toNat)).map Bridge.row))⟩ (((x0.Bridges.drop ((0 : Int)).toNat).take (((y2 : Int)).toNat - ((0 : Int)).toNat))).length _ kr kr kr kr kr (frz_len _ _) rfl ?_
              refine LAt.runU tOk 1 kr ?_
              refine LAt.doneM 549747425310 18 kr ?_
              obtain ⟨o20, eo20, Ho20⟩ := bind_some H
              clear H
              refine Tr.mid (ι := Int) (fun v => ⟨92, 0, [sB 39 false, sI 38 v, sI 37 (((x0.Bridges.drop ((0 : Int)).toNat).take (((y2 : Int)).toNat - ((0 : Int)).toNat)).length : Int), sC 36 (cF 11 ((x0.Bridges.drop ((0 : Int)).toNat).take (((y2 : Int)).toNat - ((0 : Int)).toNat)) Bridge.row), sI 35 y2, sC 34 (cF 11 x0.Bridges Bridge.row), sA 33 1 3 0, sB 32 false, sB 31 r11, sV 30 (CV.frzRow (Bridge.row v10)), sI 3 y2, sA 4 4 11 0, sV 29 (CV.frzRow (Bridge.row v10)), (28, .fad ((CV.frzRow (Bridge.row v10)))), sI 27 y2, sB 26 true, sI 25 y2, sI 24 (x0.Bridges.length : Int), sC 23 (cF 11 x0.Bridges Bridge.row), sB 2 false, sA 1 1 3 0], [(4, (CV.frzRow (Bridge.row v10))), (1, (CV.frzRow (Net.row x0)))]⟩) (fun v => impl_NetOk_J5 n (fun v => impl_NetOk_L4 n mo9 x0 v) v10 x0 y2 v = some o9) ?_ ?_
              · refine Tr.block ?_
                refine Tr.loop (ι := Nat × (Int)) (fun v => ⟨92, 0, [sI 38 v.2, sI 37 (((x0.Bridges.drop ((0 : Int)).toNat).take (((y2 : Int)).toNat - ((0 : Int)).toNat)).length : Int), sC 36 (cF 11 ((x0.Bridges.drop ((0 : Int)).toNat).take (((y2 : Int)).toNat - ((0 : Int)).toNat)) Bridge.row), sI 35 y2, sC 34 (cF 11 x0.Bridges Bridge.row), sA 33 1 3 0, sB 32 false, sB 31 r11, sV 30 (CV.frzRow (Bridge.row v10)), sI 3 y2, sA 4 4 11 0, sV 29 (CV.frzRow (Bridge.row v10)), (28, .fad ((CV.frzRow (Bridge.row v10)))), sI 27 y2, sB 26 true, sI 25 y2, sI 24 (x0.Bridges.length : Int), sC 23 (cF 11 x0.Bridges Bridge.row), sB 2 false, sA 1 1 3 0], [(4, (CV.frzRow (Bridge.row v10))), (1, (CV.frzRow (Net.row x0)))]⟩) (fun v => impl_NetOk_L8 n v.1 v10 x0 y2 v.2 = some o20) (fun v => v.1) (n, 0) eo20 (St.sub_of [38, 37, 36, 35, 34, 33, 32, 31, 30, 3, 4, 29, 28, 27, 26, 25, 24, 23, 2, 1] [4, 1] kr) ?_
                rintro ⟨mo20, y13⟩ H
                have H : impl_NetOk_L8 n mo20 v10 x0 y2 y13 = some o20 := H
                obtain _ | mo20 := mo20
                · cases (show (none : Option _) = some o20 from H)
                · rw [impl_NetOk_L8] at H
                  refine Tr.rs ?_
                  refine LAt.runU tOk 1 kr ?_
                  refine LAt.doneM 1099503239198 18 kr ?_
                  refine Tr.seq ?_
                  refine Tr.to ⟨92, 0, [sB 39 (decide (y13 < (((x0.Bridges.drop ((0 : Int)).toNat).take (((y2 : Int)).toNat - ((0 : Int)).toNat)).length : Int))), sI 38 y13, sI 37 (((x0.Bridges.drop ((0 : Int)).toNat).take (((y2 : Int)).toNat - ((0 : Int)).toNat)).length : Int), sC 36 (cF 11 ((x0.Bridges.drop ((0 : Int)).toNat).take (((y2 : Int)).toNat - ((0 : Int)).toNat)) Bridge.row), sI 35 y2, sC 34 (cF 11 x0.Bridges Bridge.row), sA 33 1 3 0, sB 32 false, sB 31 r11, sV 30 (CV.frzRow (Bridge.row v10)), sI 3 y2, sA 4 4 11 0, sV 29 (CV.frzRow (Bridge.row v10)), (28, .fad ((CV.frzRow (Bridge.row v10)))), sI 27 y2, sB 26 true, sI 25 y2, sI 24 (x0.Bridges.length : Int), sC 23 (cF 11 x0.Bridges Bridge.row), sB 2 false, sA 1 1 3 0], [(4, (CV.frzRow (Bridge.row v10))), (1, (CV.frzRow (Net.row x0)))]⟩ kr ?_
                  cases h11 : (decide (y13 < (((x0.Bridges.drop ((0 : Int)).toNat).take (((y2 : Int)).toNat - ((0 : Int)).toNat)).length : Int)))
                  · have H := bifF h11 H
                    refine Tr.cond (b := false) kr (fun h => nomatch h) (fun _ => ?_)
                    refine Tr.exit ?_
                    refine And.intro (fun _ => ?_) (fun h => absurd rfl h)
                    have H := Option.some.inj H
                    subst H
                    have H := Ho20
                    dsimp only at H
                    exact Exists.intro y13 (And.intro H (St.sub_of [39, 38, 37, 36, 35, 34, 33, 32, 31, 30, 3, 4, 29, 28, 27, 26, 25, 24, 23, 2, 1] [4, 1] kr))
                  · have H := bifT h11 H
                    refine Tr.cond (b := true) kr (fun _ => ?_) (fun h => nomatch h)
                    refine Tr.skip ?_
                    show Tr _ _ _ _ _
                    refine Tr.seq ?_
                    refine Tr.block ?_
                    refine Tr.rs ?_
                    obtain ⟨v21, ev21, H⟩ := bind_some H
                    refine LAt.indexF tOk (t := 30) (ty := 0) (x := (.tmp 36)) (y := (.tmp 38)) (d := 40) (g := none) ⟨(.slot 36), [], 0, false, 11, (CV.frzEs (((x0.Bridges.drop ((0 : Int)).toNat).take (((y2 : Int)).toNat - ((0 : Int)).toNat)).map Bridge.row))⟩ y13 (CV.frzRow (Bridge.row v21)) _ kr kr kr kr rfl (idx_isF ev21) rfl ?_
                    refine LAt.runU tOk 3 kr ?_
                    refine LAt.doneM 4398038122590 82 kr ?_
                    refine Tr.rs ?_
                    refine LAt.runU tOk 5 kr ?_
                    refine LAt.doneM 140737479966814 82 kr ?_
                    refine Tr.to ⟨92, 0, [sB 46 (v21.Id == v10.Id), sI 45 v10.Id, sA 44 4 11 0, sI 43 v21.Id, sA 42 6 11 0, sA 6 6 11 0, sV 41 (CV.frzRow (Bridge.row v21)), (40, .fad ((CV.frzRow (Bridge.row v21)))), sB 39 true, sI 38 y13, sI 37 (((x0.Bridges.drop ((0 : Int)).toNat).take (((y2 : Int)).toNat - ((0 : Int)).toNat)).length : Int), sC 36 (cF 11 ((x0.Bridges.drop ((0 : Int)).toNat).take (((y2 : Int)).toNat - ((0 : Int)).toNat)) Bridge.row), sI 35 y2, sC 34 (cF 11 x0.Bridges Bridge.row), sA 33 1 3 0, sB 32 false, sB 31 r11, sV 30 (CV.frzRow (Bridge.row v10)), sI 3 y2, sA 4 4 11 0, sV 29 (CV.frzRow (Bridge.row v10)), (28, .fad ((CV.frzRow (Bridge.row v10)))), sI 27 y2, sB 26 true, sI 25 y2, sI 24 (x0.Bridges.length : Int), sC 23 (cF 11 x0.Bridges Bridge.row), sB 2 false, sA 1 1 3 0], [(6, (CV.frzRow (Bridge.row v21))), (4, (CV.frzRow (Bridge.row v10))), (1, (CV.frzRow (Net.row x0)))]⟩ kr ?_
                    cases h12 : (v21.Id == v10.Id)
                    · have H := bifF h12 H
                      refine Tr.cond (b := false) kr (fun h => nomatch h) (fun _ => ?_)
                      refine Tr.skip ?_
                      show Tr _ _ _ _ _
                      refine Tr.at ?_
                      refine LAt.runU tOk 2 kr ?_
                      refine LAt.doneM 281474968322142 82 kr ?_
                      exact Exists.intro (mo20, (IntKind.wrap .i64 (y13 + 1))) (And.intro H (And.intro (Nat.lt_succ_self mo20) (St.sub_of [38, 37, 36, 35, 34, 33, 32, 31, 30, 3, 4, 29, 28, 27, 26, 25, 24, 23, 2, 1] [4, 1] kr)))
                    · have H := bifT h12 H
                      refine Tr.cond (b := true) kr (fun _ => ?_) (fun h => nomatch h)
                      refine Tr.rs ?_
                      refine LAt.runU tOk 1 kr ?_
                      refine LAt.doneM 140737479966814 82 kr ?_
                      refine Tr.ret ?_
                      have H := Option.some.inj H
                      subst H
                      have H := Ho20
                      dsimp only at H
                      have H := Option.some.inj H
                      subst H
                      have H := Ho9
                      dsimp only at H
                      have H := Option.some.inj H
                      subst H
                      exact Fin.of _ [(false, [cB false])] kr rfl rfl
              · rintro y14 H
                have H : (impl_NetOk_J5 n (fun v => impl_NetOk_L4 n mo9 x0 v) v10 x0 y2 y14) = some o9 := H
                unfold impl_NetOk_J5 at H
                show Tr _ _ _ _ _
                refine Tr.rs ?_
                refine LAt.runU tOk 2 kr ?_
                refine LAt.lenE tOk (t := 55) (ty := 3) (e := 114) (x := (.tmp 49)) (d := 50) (g := none) ⟨(.slot 49), [], 0, false, 8, (CV.frzEs (v10.Ports.map Pt.row))⟩ (v10.Ports).length _ kr kr kr kr kr (frz_len _ _) rfl ?_
                refine LAt.runU tOk 1 kr ?_
                refine LAt.doneM 4223224153899038 18 kr ?_
                obtain ⟨o17, eo17, Ho17⟩ := bind_some H
                clear H
                refine Tr.mid (ι := Int) (fun v => ⟨92, 0, [sB 52 false, sI 51 v, sI 50 (v10.Ports.length : Int), sC 49 (cF 8 v10.Ports Pt.row), sA 48 4 11 2, sB 39 false, sI 38 y14, sI 37 (((x0.Bridges.drop ((0 : Int)).toNat).take (((y2 : Int)).toNat - ((0 : Int)).toNat)).length : Int), sC 36 (cF 11 ((x0.Bridges.drop ((0 : Int)).toNat).take (((y2 : Int)).toNat - ((0 : Int)).toNat)) Bridge.row), sI 35 y2, sC 34 (cF 11 x0.Bridges Bridge.row), sA 33 1 3 0, sB 32 false, sB 31 r11, sV 30 (CV.frzRow (Bridge.row v10)), sI 3 y2, sA 4 4 11 0, sV 29 (CV.frzRow (Bridge.row v10)), (28, .fad ((CV.frzRow (Bridge.row v10)))), sI 27 y2, sB 26 true, sI 25 y2, sI 24 (x0.Bridges.length : Int), sC 23 (cF 11 x0.Bridges Bridge.row), sB 2 false, sA 1 1 3 0], [(4, (CV.frzRow (Bridge.row v10))), (1, (CV.frzRow (Net.row x0)))]⟩) (fun v => impl_NetOk_J6 n (fun v => impl_NetOk_L4 n mo9 x0 v) y2 v = some o9) ?_ ?_
                · refine Tr.block ?_
                  refine Tr.loop (ι := Nat × (Int)) (fun v => ⟨92, 0, [sI 51 v.2, sI 50 (v10.Ports.length : Int), sC 49 (cF 8 v10.Ports Pt.row), sA 48 4 11 2, sB 39 false, sI 38 y14, sI 37 (((x0.Bridges.drop ((0 : Int)).toNat).take (((y2 : Int)).toNat - ((0 : Int)).toNat)).length : Int), sC 36 (cF 11 ((x0.Bridges.drop ((0 : Int)).toNat).take (((y2 : Int)).toNat - ((0 : Int)).toNat)) Bridge.row), sI 35 y2, sC 34 (cF 11 x0.Bridges Bridge.row), sA 33 1 3 0, sB 32 false, sB 31 r11, sV 30 (CV.frzRow (Bridge.row v10)), sI 3 y2, sA 4 4 11 0, sV 29 (CV.frzRow (Bridge.row v10)), (28, .fad ((CV.frzRow (Bridge.row v10)))), sI 27 y2, sB 26 true, sI 25 y2, sI 24 (x0.Bridges.length : Int), sC 23 (cF 11 x0.Bridges Bridge.row), sB 2 false, sA 1 1 3 0], [(4, (CV.frzRow (Bridge.row v10))), (1, (CV.frzRow (Net.row x0)))]⟩) (fun v => impl_NetOk_L7 n v.1 v10 x0 y2 v.2 = some o17) (fun v => v.1) (n, 0) eo17 (St.sub_of [51, 50, 49, 48, 39, 38, 37, 36, 35, 34, 33, 32, 31, 30, 3, 4, 29, 28, 27, 26, 25, 24, 23, 2, 1] [4, 1] kr) ?_
                  rintro ⟨mo17, y15⟩ H
                  have H : impl_NetOk_L7 n mo17 v10 x0 y2 y15 = some o17 := H
                  obtain _ | mo17 := mo17
                  · cases (show (none : Option _) = some o17 from H)
                  · rw [impl_NetOk_L7] at H
                    refine Tr.rs ?_
                    refine LAt.runU tOk 1 kr ?_
                    refine LAt.doneM 8726823781269534 18 kr ?_
                    refine Tr.seq ?_
                    refine Tr.to ⟨92, 0, [sB 52 (decide (y15 < (v10.Ports.length : Int))), sI 51 y15, sI 50 (v10.Ports.length : Int), sC 49 (cF 8 v10.Ports Pt.row), sA 48 4 11 2, sB 39 false, sI 38 y14, sI 37 (((x0.Bridges.drop ((0 : Int)).toNat).take (((y2 : Int)).toNat - ((0 : Int)).toNat)).length : Int), sC 36 (cF 11 ((x0.Bridges.drop ((0 : Int)).toNat).take (((y2 : Int)).toNat - ((0 : Int)).toNat)) Bridge.row), sI 35 y2, sC 34 (cF 11 x0.Bridges Bridge.row), sA 33 1 3 0, sB 32 false, sB 31 r11, sV 30 (CV.frzRow (Bridge.row v10)), sI 3 y2, sA 4 4 11 0, sV 29 (CV.frzRow (Bridge.row v10)), (28, .fad ((CV.frzRow (Bridge.row v10)))), sI 27 y2, sB 26 true, sI 25 y2, sI 24 (x0.Bridges.length : Int), sC 23 (cF 11 x0.Bridges Bridge.row), sB 2 false, sA 1 1 3 0], [(4, (CV.frzRow (Bridge.row v10))), (1, (CV.frzRow (Net.row x0)))]⟩ kr ?_
                    cases h8 : (decide (y15 < (v10.Ports.length : Int)))
                    · have H := bifF h8 H
                      refine Tr.cond (b := false) kr (fun h => nomatch h) (fun _ => ?_)
                      refine Tr.exit ?_
                      refine And.intro (fun _ => ?_) (fun h => absurd rfl h)
                      have H := Option.some.inj H
                      subst H
                      have H := Ho17
                      dsimp only at H
                      exact Exists.intro y15 (And.intro H (St.sub_of [52, 51, 50, 49, 48, 39, 38, 37, 36, 35, 34, 33, 32, 31, 30, 3, 4, 29, 28, 27, 26, 25, 24, 23, 2, 1] [4, 1] kr))
                    · have H := bifT h8 H
                      refine Tr.cond (b := true) kr (fun _ => ?_) (fun h => nomatch h)
                      refine Tr.skip ?_
                      show Tr _ _ _ _ _
                      refine Tr.seq ?_
                      refine Tr.block ?_
                      refine Tr.rs ?_
                      refine LAt.runU tOk 1 kr ?_
                      obtain ⟨v18, ev18, H⟩ := bind_some H
                      refine LAt.indexF tOk (t := 55) (ty := 0) (x := (.tmp 49)) (y := (.tmp 51)) (d := 54) (g := none) ⟨(.slot 49), [], 0, false, 8, (CV.frzEs (v10.Ports.map Pt.row))⟩ y15 (Pt.row v18) _ kr kr kr kr rfl (idx_isF ev18) rfl ?_
                      refine LAt.runU tOk 4 kr ?_
                      refine LAt.doneM 71777218564456862 274 kr ?_
                      refine Tr.rs ?_
                      refine LAt.runU tOk 3 kr ?_
                      refine LAt.to ⟨92, 0, [sB 58 v18.Has, sB 57 v18.Has, sA 56 8 8 2, sI 7 y15, sA 8 8 8 0, sV 55 (Pt.row v18), (54, .fad ((Pt.row v18))), sI 53 y15, sB 52 true, sI 51 y15, sI 50 (v10.Ports.length : Int), sC 49 (cF 8 v10.Ports Pt.row), sA 48 4 11 2, sB 39 false, sI 38 y14, sI 37 (((x0.Bridges.drop ((0 : Int)).toNat).take (((y2 : Int)).toNat - ((0 : Int)).toNat)).length : Int), sC 36 (cF 11 ((x0.Bridges.drop ((0 : Int)).toNat).take (((y2 : Int)).toNat - ((0 : Int)).toNat)) Bridge.row), sI 35 y2, sC 34 (cF 11 x0.Bridges Bridge.row), sA 33 1 3 0, sB 32 false, sB 31 r11, sV 30 (CV.frzRow (Bridge.row v10)), sI 3 y2, sA 4 4 11 0, sV 29 (CV.frzRow (Bridge.row v10)), (28, .fad ((CV.frzRow (Bridge.row v10)))), sI 27 y2, sB 26 true, sI 25 y2, sI 24 (x0.Bridges.length : Int), sC 23 (cF 11 x0.Bridges Bridge.row), sB 2 false, sA 1 1 3 0], [(8, (Pt.row v18)), (4, (CV.frzRow (Bridge.row v10))), (1, (CV.frzRow (Net.row x0)))]⟩ kr ?_
                      cases h9 : v18.Has
                      · have H := bifF h9 H
                        refine LAt.runU tOk 7 kr ?_
                        refine LAt.doneM 73786695919364735390 274 kr ?_
                        refine Tr.cond (b := false) kr (fun h => nomatch h) (fun _ => ?_)
                        refine Tr.skip ?_
                        show Tr _ _ _ _ _
                        refine Tr.at ?_
                        refine LAt.runU tOk 2 kr ?_
                        refine LAt.doneM 147573672214202941854 274 kr ?_
                        exact Exists.intro (mo17, (IntKind.wrap .i64 (y15 + 1))) (And.intro H (And.intro (Nat.lt_succ_self mo17) (St.sub_of [51, 50, 49, 48, 39, 38, 37, 36, 35, 34, 33, 32, 31, 30, 3, 4, 29, 28, 27, 26, 25, 24, 23, 2, 1] [4, 1] kr)))
                      · have H := bifT h9 H
                        refine LAt.runU tOk 4 kr ?_
                        obtain ⟨r19, er19, H⟩ := bind_some H
                        refine LAt.callU tOk [.rd, .rd, .rd] (f := 89) (av := #[.tmp 60, .tmp 61, .tmp 62]) (ats := #[31, 3, 3]) (d := (some 63)) (ty := 4) (g := (some (2, true))) kr kr kr [] (impl_ends n x0.Links y2 y15 r19 er19) kr (.inl rfl) ?_
                        refine LAt.runU tOk 2 kr ?_
                        refine LAt.doneM 73786695919364735390 274 kr ?_
                        refine Tr.to ⟨92, 0, [sB 65 (!r19), sB 64 (!r19), sB 63 r19, sI 62 y15, sI 61 y2, sC 60 (cF 4 x0.Links Link.row), sA 59 1 3 1, sB 58 true, sB 57 true, sA 56 8 8 2, sI 7 y15, sA 8 8 8 0, sV 55 (Pt.row v18), (54, .fad ((Pt.row v18))), sI 53 y15, sB 52 true, sI 51 y15, sI 50 (v10.Ports.length : Int), sC 49 (cF 8 v10.Ports Pt.row), sA 48 4 11 2, sB 39 false, sI 38 y14, sI 37 (((x0.Bridges.drop ((0 : Int)).toNat).take (((y2 : Int)).toNat - ((0 : Int)).toNat)).length : Int), sC 36 (cF 11 ((x0.Bridges.drop ((0 : Int)).toNat).take (((y2 : Int)).toNat - ((0 : Int)).toNat)) Bridge.row), sI 35 y2, sC 34 (cF 11 x0.Bridges Bridge.row), sA 33 1 3 0, sB 32 false, sB 31 r11, sV 30 (CV.frzRow (Bridge.row v10)), sI 3 y2, sA 4 4 11 0, sV 29 (CV.frzRow (Bridge.row v10)), (28, .fad ((CV.frzRow (Bridge.row v10)))), sI 27 y2, sB 26 true, sI 25 y2, sI 24 (x0.Bridges.length : Int), sC 23 (cF 11 x0.Bridges Bridge.row), sB 2 false, sA 1 1 3 0], [(8, (Pt.row v18)), (4, (CV.frzRow (Bridge.row v10))), (1, (CV.frzRow (Net.row x0)))]⟩ kr ?_
                        cases h10 : (!r19)
                        · have H := bifF h10 H
                          refine Tr.cond (b := false) kr (fun h => nomatch h) (fun _ => ?_)
                          refine Tr.skip ?_
                          show Tr _ _ _ _ _
                          refine Tr.at ?_
                          refine LAt.runU tOk 2 kr ?_
                          refine LAt.doneM 147573672214202941854 274 kr ?_
                          exact Exists.intro (mo17, (IntKind.wrap .i64 (y15 + 1))) (And.intro H (And.intro (Nat.lt_succ_self mo17) (St.sub_of [51, 50, 49, 48, 39, 38, 37, 36, 35, 34, 33, 32, 31, 30, 3, 4, 29, 28, 27, 26, 25, 24, 23, 2, 1] [4, 1] kr)))
                        · have H := bifT h10 H
                          refine Tr.cond (b := true) kr (fun _ => ?_) (fun h => nomatch h)
                          refine Tr.rs ?_
                          refine LAt.runU tOk 1 kr ?_
                          refine LAt.doneM 73786695919364735390 274 kr ?_
                          refine Tr.ret ?_
                          have H := Option.some.inj H
                          subst H
                          have H := Ho17
                          dsimp only at H
                          have H := Option.some.inj H
                          subst H
                          have H := Ho9
                          dsimp only at H
                          have H := Option.some.inj H
                          subst H
                          exact Fin.of _ [(false, [cB false])] kr rfl rfl
                · rintro y16 H
                  have H : (impl_NetOk_J6 n (fun v => impl_NetOk_L4 n mo9 x0 v) y2 y16) = some o9 := H
                  unfold impl_NetOk_J6 at H
                  show Tr _ _ _ _ _
                  refine Tr.at ?_
                  refine LAt.runU tOk 2 kr ?_
                  refine LAt.doneM 147582679413457682462 18 kr ?_
                  exact Exists.intro (mo9, (IntKind.wrap .i64 (y2 + 1))) (And.intro H (And.intro (Nat.lt_succ_self mo9) (St.sub_of [25, 24, 23, 2, 1] [1] kr)))
            · have H := bifT h7 H
              refine Tr.cond (b := true) kr (fun _ => ?_) (fun h => nomatch h)
              refine Tr.rs ?_
              refine LAt.runU tOk 1 kr ?_
              refine LAt.doneM 8581546014 18 kr ?_
              refine Tr.ret ?_
              have H := Option.some.inj H
              subst H
              have H := Ho9
              dsimp only at H
              have H := Option.some.inj H
              subst H
              exact Fin.of _ [(false, [cB false])] kr rfl rfl
      · rintro _ H
        have H : (impl_NetOk_J1 n x0) = some r := H
        unfold impl_NetOk_J1 at H
        show Tr _ _ _ _ _
        refine Tr.seq ?_
        refine Tr.rs ?_
        refine LAt.runU tOk 2 kr ?_
        refine LAt.lenE tOk (t := 32) (ty := 3) (e := 116) (x := (.tmp 69)) (d := 70) (g := none) ⟨(.slot 69), [], 0, false, 7, (CV.frzEs (x0.Said.map Say.row))⟩ (x0.Said).length _ kr kr kr kr kr (frz_len _ _) rfl ?_
        refine LAt.runU tOk 1 kr ?_
        refine LAt.doneM 4132070672510939561990 2 kr ?_
        obtain ⟨o5, eo5, Ho5⟩ := bind_some H
        clear H
        refine Tr.mid (ι := Unit) (fun v => ⟨92, 0, [sB 2 false, sA 1 1 3 0], [(1, (CV.frzRow (Net.row x0)))]⟩) (fun v => impl_NetOk_J2 n x0 = some r) ?_ ?_
        · refine Tr.block ?_
          refine Tr.loop (ι := Nat × (Int)) (fun v => ⟨92, 0, [sI 71 v.2, sI 70 (x0.Said.length : Int), sC 69 (cF 7 x0.Said Say.row), sB 2 false, sA 1 1 3 0], [(1, (CV.frzRow (Net.row x0)))]⟩) (fun v => impl_NetOk_L3 n v.1 x0 v.2 = some o5) (fun v => v.1) (n, 0) eo5 (St.sub_of [71, 70, 69, 2, 1] [1] kr) ?_
          rintro ⟨mo5, y3⟩ H
          have H : impl_NetOk_L3 n mo5 x0 y3 = some o5 := H
          obtain _ | mo5 := mo5
          · cases (show (none : Option _) = some o5 from H)
          · rw [impl_NetOk_L3] at H
            refine Tr.rs ?_
            refine LAt.runU tOk 1 kr ?_
            refine LAt.doneM 8854437155380584775686 2 kr ?_
            refine Tr.seq ?_
            refine Tr.to ⟨92, 0, [sB 72 (decide (y3 < (x0.Said.length : Int))), sI 71 y3, sI 70 (x0.Said.length : Int), sC 69 (cF 7 x0.Said Say.row), sB 2 false, sA 1 1 3 0], [(1, (CV.frzRow (Net.row x0)))]⟩ kr ?_
            cases h3 : (decide (y3 < (x0.Said.length : Int)))
            · have H := bifF h3 H
              refine Tr.cond (b := false) kr (fun h => nomatch h) (fun _ => ?_)
              refine Tr.exit ?_
              refine And.intro (fun _ => ?_) (fun h => absurd rfl h)
              have H := Option.some.inj H
              subst H
              have H := Ho5
              dsimp only at H
              exact Exists.intro () (And.intro H (St.sub_of [2, 1] [1] kr))
            · have H := bifT h3 H
              refine Tr.cond (b := true) kr (fun _ => ?_) (fun h => nomatch h)
              refine Tr.skip ?_
              show Tr _ _ _ _ _
              refine Tr.seq ?_
              refine Tr.block ?_
              refine Tr.rs ?_
              obtain ⟨v6, ev6, H⟩ := bind_some H
              refine LAt.indexF tOk (t := 32) (ty := 0) (x := (.tmp 69)) (y := (.tmp 71)) (d := 73) (g := none) ⟨(.slot 69), [], 0, false, 7, (CV.frzEs (x0.Said.map Say.row))⟩ y3 (Say.row v6) _ kr kr kr kr rfl (idx_isF ev6) rfl ?_
              refine LAt.runU tOk 3 kr ?_
              refine LAt.doneM 37188636052598456058886 1026 kr ?_
              refine Tr.rs ?_
              refine LAt.runU tOk 4 kr ?_
              refine LAt.lenE tOk (t := 31) (ty := 3) (e := 96) (x := (.tmp 78)) (d := 79) (g := none) ⟨(.slot 78), [], 0, false, 4, (CV.frzEs (x0.Links.map Link.row))⟩ (x0.Links).length _ kr kr kr kr kr (frz_len _ _) rfl ?_
              refine LAt.runU tOk 1 kr ?_
              obtain ⟨r7, er7, H⟩ := bind_some H
              refine LAt.callU tOk [.rd, .rd, .rd] (f := 70) (av := #[.tmp 76, .const (.int .i64 0), .tmp 80]) (ats := #[3, 3, 3]) (d := (some 81)) (ty := 4) (g := none) kr kr kr [] (impl_in n v6.Link 0 (IntKind.wrap .i64 ((x0.Links.length : Int) - 1)) r7 er7) kr (.inl rfl) ?_
              refine LAt.runU tOk 2 kr ?_
              refine LAt.to ⟨92, 0, [sB 83 (!r7), sB 82 (!r7), sB 81 r7, sI 80 (IntKind.wrap .i64 ((x0.Links.length : Int) - 1)), sI 79 (x0.Links.length : Int), sC 78 (cF 4 x0.Links Link.row), sA 77 1 3 1, sI 76 v6.Link, sA 75 10 7 0, sA 10 10 7 0, sV 74 (Say.row v6), (73, .fad ((Say.row v6))), sB 72 true, sI 71 y3, sI 70 (x0.Said.length : Int), sC 69 (cF 7 x0.Said Say.row), sB 2 false, sA 1 1 3 0], [(10, (Say.row v6)), (1, (CV.frzRow (Net.row x0)))]⟩ kr ?_
              cases h4 : (!r7)
              · have H := bifF h4 H
                refine LAt.runU tOk 2 kr ?_
                obtain ⟨r8, er8, H⟩ := bind_some H
                refine LAt.callU tOk [.rd] (f := 90) (av := #[.tmp 85]) (ats := #[70]) (d := (some 86)) (ty := 4) (g := (some (8, false))) kr kr kr [] (impl_VecOk n v6.V r8 er8) kr (.inl rfl) ?_
                refine LAt.runU tOk 2 kr ?_
                refine LAt.doneM 618969429346879778743911430 1026 kr ?_
                refine Tr.to ⟨92, 0, [sB 88 (!r8), sB 87 (!r8), sB 86 r8, sV 85 ((Say.row v6).drop 2), sA 84 10 7 2, sB 83 false, sB 82 false, sB 81 r7, sI 80 (IntKind.wrap .i64 ((x0.Links.length : Int) - 1)), sI 79 (x0.Links.length : Int), sC 78 (cF 4 x0.Links Link.row), sA 77 1 3 1, sI 76 v6.Link, sA 75 10 7 0, sA 10 10 7 0, sV 74 (Say.row v6), (73, .fad ((Say.row v6))), sB 72 true, sI 71 y3, sI 70 (x0.Said.length : Int), sC 69 (cF 7 x0.Said Say.row), sB 2 false, sA 1 1 3 0], [(10, (Say.row v6)), (1, (CV.frzRow (Net.row x0)))]⟩ kr ?_
                cases h5 : (!r8)
                · have H := bifF h5 H
                  refine Tr.cond (b := false) kr (fun h => nomatch h) (fun _ => ?_)
                  refine Tr.skip ?_
                  show Tr _ _ _ _ _
                  refine Tr.at ?_
                  refine LAt.runU tOk 2 kr ?_
                  refine LAt.doneM 1237939448989569916193473542 1026 kr ?_
                  exact Exists.intro (mo5, (IntKind.wrap .i64 (y3 + 1))) (And.intro H (And.intro (Nat.lt_succ_self mo5) (St.sub_of [71, 70, 69, 2, 1] [1] kr)))
                · have H := bifT h5 H
                  refine Tr.cond (b := true) kr (fun _ => ?_) (fun h => nomatch h)
                  refine Tr.rs ?_
                  refine LAt.runU tOk 1 kr ?_
                  refine LAt.doneM 618969429346879778743911430 1026 kr ?_
                  refine Tr.ret ?_
                  have H := Option.some.inj H
                  subst H
                  have H := Ho5
                  dsimp only at H
                  have H := Option.some.inj H
                  subst H
                  exact Fin.of _ [(false, [cB false])] kr rfl rfl
              · have H := bifT h4 H
                refine LAt.runU tOk 5 kr ?_
                refine LAt.doneM 618969429346879778743911430 1026 kr ?_
                refine Tr.cond (b := true) kr (fun _ => ?_) (fun h => nomatch h)
                refine Tr.rs ?_
                refine LAt.runU tOk 1 kr ?_
                refine LAt.doneM 618969429346879778743911430 1026 kr ?_
                refine Tr.ret ?_
                have H := Option.some.inj H
                subst H
                have H := Ho5
                dsimp only at H
                have H := Option.some.inj H
                subst H
                exact Fin.of _ [(false, [cB false])] kr rfl rfl
        · rintro _ H
          have H : (impl_NetOk_J2 n x0) = some r := H
          unfold impl_NetOk_J2 at H
          show Tr _ _ _ _ _
          refine Tr.rs ?_
          refine LAt.runU tOk 1 kr ?_
          obtain ⟨r4, er4, H⟩ := bind_some H
          refine LAt.callU tOk [.rd] (f := 91) (av := #[.tmp 90]) (ats := #[34]) (d := (some 91)) (ty := 4) (g := none) kr kr kr [] (impl_linksOk n x0 r4 er4) kr (.inl rfl) ?_
          refine LAt.runU tOk 1 kr ?_
          refine LAt.doneM 4 0 kr ?_
          refine Tr.ret ?_
          have H := Option.some.inj H
          subst H
          exact Fin.of _ [(false, [cB r4])] kr rfl rfl
    · have H := bifT h2 H
      refine Tr.cond (b := true) kr (fun _ => ?_) (fun h => nomatch h)
      refine Tr.rs ?_
      refine LAt.runU tOk 1 kr ?_
      refine LAt.doneM 6 2 kr ?_
      refine Tr.ret ?_
      have H := Option.some.inj H
      subst H
      exact Fin.of _ [(false, [cB false])] kr rfl rfl
  · have H := bifT h1 H
    refine LAt.runU tOk 5 kr ?_
    refine LAt.doneM 2097158 2 kr ?_
    refine Tr.cond (b := true) kr (fun _ => ?_) (fun h => nomatch h)
    refine Tr.rs ?_
    refine LAt.runU tOk 1 kr ?_
    refine LAt.doneM 6 2 kr ?_
    refine Tr.ret ?_
    have H := Option.some.inj H
    subst H
    exact Fin.of _ [(false, [cB false])] kr rfl rfl

def laws_eqVecF (n : Nat) (x0 : Vec) (x1 : Vec) : Option (Bool) :=
  (bif (x0.Root != x1.Root) then (some false) else (bif (x0.Cost != x1.Cost) then (some false) else (bif (x0.Hops != x1.Hops) then (some false) else (bif (x0.Bridge != x1.Bridge) then (some false) else (bif (x0.Port != x1.Port) then (some false) else (some true))))))
/-- loop.example/g00326/laws.eqVec -/
theorem laws_eqVec (n : Nat) (x0 : Vec) (x1 : Vec) (r : Bool) (H : laws_eqVecF n x0 x1 = some r) : LCall Try.prog 173 [.val true (CV.frzRow (Vec.row x0)), .val true (CV.frzRow (Vec.row x1))] [.val false [.lit (.bool r)]] [] := by
  refine LCall.of_body tOk Try.func173 rfl (c := (.seq (.region 0 (rg Try.f173 0) false) (.seq (.seq (.region 1 (rg Try.f173 1) false) (.cond (.tmp 9) (.seq (.region 2 (rg Try.f173 2) false) .ret) .skip)) (.seq (.seq (.region 3 (rg Try.f173 3) false) (.cond (.tmp 14) (.seq (.region 4 (rg Try.f173 4) false) .ret) .skip)) (.seq (.seq (.region 5 (rg Try.f173 5) false) (.cond (.tmp 19) (.seq (.region 6 (rg Try.f173 6) false) .ret) .skip)) (.seq (.seq (.region 7 (rg Try.f173 7) false) (.cond (.tmp 24) (.seq (.region 8 (rg Try.f173 8) false) .ret) .skip)) (.seq (.seq (.region 9 (rg Try.f173 9) false) (.cond (.tmp 29) (.seq (.region 10 (rg Try.f173 10) false) .ret) .skip)) (.seq (.region 11 (rg Try.f173 11) false) .ret)))))))) kr (Nat.le_of_ble_eq_true kr) 0 (rs := [.tmp 4]) rfl [] .nil [(false, [.lit (.bool r)])] [] [] fun cx => ?_
  show Tr _ _ _ ⟨30, 0, [sV 0 (Vec.row x0), sV 1 (Vec.row x1)], []⟩ _
  unfold laws_eqVecF at H
  refine Tr.rs ?_
  refine LAt.runU tOk 3 kr ?_
  refine LAt.doneM 28 12 kr ?_
  refine Tr.seq ?_
  refine Tr.rs ?_
  refine LAt.runU tOk 5 kr ?_
  refine LAt.doneM 540 12 kr ?_
  refine Tr.to ⟨30, 0, [sB 9 (x0.Root != x1.Root), sB 4 false, sA 3 3 5 0, sA 2 2 5 0], [(3, (Vec.row x1)), (2, (Vec.row x0))]⟩ kr ?_
  cases h1 : (x0.Root != x1.Root)
  · have H := bifF h1 H
    refine Tr.cond (b := false) kr (fun h => nomatch h) (fun _ => ?_)
    refine Tr.skip ?_
    show Tr _ _ _ _ _
    refine Tr.seq ?_
    refine Tr.rs ?_
    refine LAt.runU tOk 5 kr ?_
    refine LAt.doneM 16412 12 kr ?_
    refine Tr.to ⟨30, 0, [sB 14 (x0.Cost != x1.Cost), sB 4 false, sA 3 3 5 0, sA 2 2 5 0], [(3, (Vec.row x1)), (2, (Vec.row x0))]⟩ kr ?_
    cases h2 : (x0.Cost != x1.Cost)
    · have H := bifF h2 H
      refine Tr.cond (b := false) kr (fun h => nomatch h) (fun _ => ?_)
      refine Tr.skip ?_
      show Tr _ _ _ _ _
      refine Tr.seq ?_
      refine Tr.rs ?_
      refine LAt.runU tOk 5 kr ?_
      refine LAt.doneM 524316 12 kr ?_
      refine Tr.to ⟨30, 0, [sB 19 (x0.Hops != x1.Hops), sB 4 false, sA 3 3 5 0, sA 2 2 5 0], [(3, (Vec.row x1)), (2, (Vec.row x0))]⟩ kr ?_
      cases h3 : (x0.Hops != x1.Hops)
      · have H := bifF h3 H
        refine Tr.cond (b := false) kr (fun h => nomatch h) (fun _ => ?_)
        refine Tr.skip ?_
        show Tr _ _ _ _ _
        refine Tr.seq ?_
        refine Tr.rs ?_
        refine LAt.runU tOk 5 kr ?_
        refine LAt.doneM 16777244 12 kr ?_
        refine Tr.to ⟨30, 0, [sB 24 (x0.Bridge != x1.Bridge), sB 4 false, sA 3 3 5 0, sA 2 2 5 0], [(3, (Vec.row x1)), (2, (Vec.row x0))]⟩ kr ?_
        cases h4 : (x0.Bridge != x1.Bridge)
        · have H := bifF h4 H
          refine Tr.cond (b := false) kr (fun h => nomatch h) (fun _ => ?_)
          refine Tr.skip ?_
          show Tr _ _ _ _ _
          refine Tr.seq ?_
          refine Tr.rs ?_
          refine LAt.runU tOk 5 kr ?_
          refine LAt.doneM 536870928 0 kr ?_
          refine Tr.to ⟨30, 0, [sB 29 (x0.Port != x1.Port), sB 4 false], []⟩ kr ?_
          cases h5 : (x0.Port != x1.Port)
          · have H := bifF h5 H
            refine Tr.cond (b := false) kr (fun h => nomatch h) (fun _ => ?_)
            refine Tr.skip ?_
            show Tr _ _ _ _ _
            refine Tr.rs ?_
            refine LAt.runU tOk 1 kr ?_
            refine LAt.doneM 16 0 kr ?_
            refine Tr.ret ?_
            have H := Option.some.inj H
            subst H
            exact Fin.of _ [(false, [cB true])] kr rfl rfl
          · have H := bifT h5 H
            refine Tr.cond (b := true) kr (fun _ => ?_) (fun h => nomatch h)
            refine Tr.rs ?_
            refine LAt.runU tOk 1 kr ?_
            refine LAt.doneM 16 0 kr ?_
            refine Tr.ret ?_
            have H := Option.some.inj H
            subst H
            exact Fin.of _ [(false, [cB false])] kr rfl rfl
        · have H := bifT h4 H
          refine Tr.cond (b := true) kr (fun _ => ?_) (fun h => nomatch h)
          refine Tr.rs ?_
          refine LAt.runU tOk 1 kr ?_
          refine LAt.doneM 28 12 kr ?_
          refine Tr.ret ?_
          have H := Option.some.inj H
          subst H
          exact Fin.of _ [(false, [cB false])] kr rfl rfl
      · have H := bifT h3 H
        refine Tr.cond (b := true) kr (fun _ => ?_) (fun h => nomatch h)
        refine Tr.rs ?_
        refine LAt.runU tOk 1 kr ?_
        refine LAt.doneM 28 12 kr ?_
        refine Tr.ret ?_
        have H := Option.some.inj H
        subst H
        exact Fin.of _ [(false, [cB false])] kr rfl rfl
    · have H := bifT h2 H
      refine Tr.cond (b := true) kr (fun _ => ?_) (fun h => nomatch h)
      refine Tr.rs ?_
      refine LAt.runU tOk 1 kr ?_
      refine LAt.doneM 28 12 kr ?_
      refine Tr.ret ?_
      have H := Option.some.inj H
      subst H
      exact Fin.of _ [(false, [cB false])] kr rfl rfl
  · have H := bifT h1 H
    refine Tr.cond (b := true) kr (fun _ => ?_) (fun h => nomatch h)
    refine Tr.rs ?_
    refine LAt.runU tOk 1 kr ?_
    refine LAt.doneM 28 12 kr ?_
    refine Tr.ret ?_
    have H := Option.some.inj H
    subst H
    exact Fin.of _ [(false, [cB false])] kr rfl rfl

def laws_eqPtF (n : Nat) (x0 : Pt) (x1 : Pt) : Option (Bool) :=
  (bif (!(x0.Up == x1.Up)) then (some false) else (bif (x0.Cost != x1.Cost) then (some false) else (bif (!(x0.Has == x1.Has)) then (some false) else ((laws_eqVecF n x0.Heard x1.Heard).bind fun r1 => (bif (!r1) then (some false) else (some true))))))
/-- loop.example/g00326/laws.eqPt -/
theorem laws_eqPt (n : Nat) (x0 : Pt) (x1 : Pt) (r : Bool) (H : laws_eqPtF n x0 x1 = some r) : LCall Try.prog 161 [.val true (CV.frzRow (Pt.row x0)), .val true (CV.frzRow (Pt.row x1))] [.val false [.lit (.bool r)]] [] := by
  refine LCall.of_body tOk Try.func161 rfl (c := (.seq (.region 0 (rg Try.f161 0) false) (.seq (.seq (.region 1 (rg Try.f161 1) false) (.cond (.tmp 9) (.seq (.region 2 (rg Try.f161 2) false) .ret) .skip)) (.seq (.seq (.region 3 (rg Try.f161 3) false) (.cond (.tmp 14) (.seq (.region 4 (rg Try.f161 4) false) .ret) .skip)) (.seq (.seq (.region 5 (rg Try.f161 5) false) (.cond (.tmp 19) (.seq (.region 6 (rg Try.f161 6) false) .ret) .skip)) (.seq (.seq (.region 7 (rg Try.f161 7) false) (.cond (.tmp 25) (.seq (.region 8 (rg Try.f161 8) false) .ret) .skip)) (.seq (.region 9 (rg Try.f161 9) false) .ret))))))) kr (Nat.le_of_ble_eq_true kr) 0 (rs := [.tmp 4]) rfl [] .nil [(false, [.lit (.bool r)])] [] [] fun cx => ?_
  show Tr _ _ _ ⟨26, 0, [sV 0 (Pt.row x0), sV 1 (Pt.row x1)], []⟩ _
  unfold laws_eqPtF at H
  refine Tr.rs ?_
  refine LAt.runU tOk 3 kr ?_
  refine LAt.doneM 28 12 kr ?_
  refine Tr.seq ?_
  refine Tr.rs ?_
  refine LAt.runU tOk 5 kr ?_
  refine LAt.doneM 540 12 kr ?_
  refine Tr.to ⟨26, 0, [sB 9 (!(x0.Up == x1.Up)), sB 4 false, sA 3 3 8 0, sA 2 2 8 0], [(3, (Pt.row x1)), (2, (Pt.row x0))]⟩ kr ?_
  cases h1 : (!(x0.Up == x1.Up))
  · have H := bifF h1 H
    refine Tr.cond (b := false) kr (fun h => nomatch h) (fun _ => ?_)
    refine Tr.skip ?_
    show Tr _ _ _ _ _
    refine Tr.seq ?_
    refine Tr.rs ?_
    refine LAt.runU tOk 5 kr ?_
    refine LAt.doneM 16412 12 kr ?_
    refine Tr.to ⟨26, 0, [sB 14 (x0.Cost != x1.Cost), sB 4 false, sA 3 3 8 0, sA 2 2 8 0], [(3, (Pt.row x1)), (2, (Pt.row x0))]⟩ kr ?_
    cases h2 : (x0.Cost != x1.Cost)
    · have H := bifF h2 H
      refine Tr.cond (b := false) kr (fun h => nomatch h) (fun _ => ?_)
      refine Tr.skip ?_
      show Tr _ _ _ _ _
      refine Tr.seq ?_
      refine Tr.rs ?_
      refine LAt.runU tOk 5 kr ?_
      refine LAt.doneM 524316 12 kr ?_
      refine Tr.to ⟨26, 0, [sB 19 (!(x0.Has == x1.Has)), sB 4 false, sA 3 3 8 0, sA 2 2 8 0], [(3, (Pt.row x1)), (2, (Pt.row x0))]⟩ kr ?_
      cases h3 : (!(x0.Has == x1.Has))
      · have H := bifF h3 H
        refine Tr.cond (b := false) kr (fun h => nomatch h) (fun _ => ?_)
        refine Tr.skip ?_
        show Tr _ _ _ _ _
        refine Tr.seq ?_
        refine Tr.rs ?_
        refine LAt.runU tOk 4 kr ?_
        obtain ⟨r1, er1, H⟩ := bind_some H
        refine LAt.callU tOk [.rd, .rd] (f := 173) (av := #[.tmp 21, .tmp 23]) (ats := #[70, 70]) (d := (some 24)) (ty := 4) (g := none) kr kr kr [] (laws_eqVec n x0.Heard x1.Heard r1 er1) kr (.inl rfl) ?_
        refine LAt.runU tOk 1 kr ?_
        refine LAt.doneM 33554448 0 kr ?_
        refine Tr.to ⟨26, 0, [sB 25 (!r1), sB 4 false], []⟩ kr ?_
        cases h4 : (!r1)
        · have H := bifF h4 H
          refine Tr.cond (b := false) kr (fun h => nomatch h) (fun _ => ?_)
          refine Tr.skip ?_
          show Tr _ _ _ _ _
          refine Tr.rs ?_
          refine LAt.runU tOk 1 kr ?_
          refine LAt.doneM 16 0 kr ?_
          refine Tr.ret ?_
          have H := Option.some.inj H
          subst H
          exact Fin.of _ [(false, [cB true])] kr rfl rfl
        · have H := bifT h4 H
          refine Tr.cond (b := true) kr (fun _ => ?_) (fun h => nomatch h)
          refine Tr.rs ?_
          refine LAt.runU tOk 1 kr ?_
          refine LAt.doneM 16 0 kr ?_
          refine Tr.ret ?_
          have H := Option.some.inj H
          subst H
          exact Fin.of _ [(false, [cB false])] kr rfl rfl
      · have H := bifT h3 H
        refine Tr.cond (b := true) kr (fun _ => ?_) (fun h => nomatch h)
        refine Tr.rs ?_
        refine LAt.runU tOk 1 kr ?_
        refine LAt.doneM 28 12 kr ?_
        refine Tr.ret ?_
        have H := Option.some.inj H
        subst H
        exact Fin.of _ [(false, [cB false])] kr rfl rfl
    · have H := bifT h2 H
      refine Tr.cond (b := true) kr (fun _ => ?_) (fun h => nomatch h)
      refine Tr.rs ?_
      refine LAt.runU tOk 1 kr ?_
      refine LAt.doneM 28 12 kr ?_
      refine Tr.ret ?_
      have H := Option.some.inj H
      subst H
      exact Fin.of _ [(false, [cB false])] kr rfl rfl
  · have H := bifT h1 H
    refine Tr.cond (b := true) kr (fun _ => ?_) (fun h => nomatch h)
    refine Tr.rs ?_
    refine LAt.runU tOk 1 kr ?_
    refine LAt.doneM 28 12 kr ?_
    refine Tr.ret ?_
    have H := Option.some.inj H
    subst H
    exact Fin.of _ [(false, [cB false])] kr rfl rfl

def laws_eqPtS_J1 (n : Nat) : Option (Bool) :=
  (some true)
def laws_eqPtS_L2 (n : Nat) : Nat → (List Pt) → (List Pt) → Int → Option ((Unit) ⊕ (Bool))
  | 0, _, _, _ => none
  | mo2 + 1, x0, x1, y1 => (bif (decide (y1 < (x0.length : Int))) then ((idx x0 y1).bind fun v3 => ((idx x1 y1).bind fun v4 => ((laws_eqPtF n v3 v4).bind fun r5 => (bif (!r5) then (some (Sum.inr false)) else (laws_eqPtS_L2 n mo2 x0 x1 (IntKind.wrap .i64 (y1 + 1))))))) else (some (Sum.inl ())))
def laws_eqPtSF (n : Nat) (x0 : (List Pt)) (x1 : (List Pt)) : Option (Bool) :=
  (bif ((x0.length : Int) != (x1.length : Int)) then (some false) else ((laws_eqPtS_L2 n n x0 x1 0).bind fun o => match o with | .inl _ => (laws_eqPtS_J1 n) | .inr r => some r))
/-- loop.example/g00326/laws.eqPtS -/
theorem laws_eqPtS (n : Nat) (x0 : (List Pt)) (x1 : (List Pt)) (r : Bool) (H : laws_eqPtSF n x0 x1 = some r) : LCall Try.prog 106 [.val false [.sl false 8 (CV.frzEs (x0.map Pt.row))], .val false [.sl false 8 (CV.frzEs (x1.map Pt.row))]] [.val false [.lit (.bool r)]] [] := by
  refine LCall.of_body tOk Try.func106 rfl (c := (.seq (.region 0 (rg Try.f106 0) false) (.seq (.seq (.region 1 (rg Try.f106 1) false) (.cond (.tmp 10) (.seq (.region 2 (rg Try.f106 2) false) .ret) .skip)) (.seq (.seq (.region 3 (rg Try.f106 3) false) (.block 0 (.loop (.seq (.seq (.region 4 (rg Try.f106 4) false) (.cond (.tmp 14) .skip (.exit 0))) (.seq (.block 1 (.seq (.region 6 (rg Try.f106 6) true) (.cond (.tmp 26) (.seq (.region 7 (rg Try.f106 7) false) .ret) .skip))) (.region 5 (rg Try.f106 5) false)))))) (.seq (.region 8 (rg Try.f106 8) false) .ret))))) kr (Nat.le_of_ble_eq_true kr) 0 (rs := [.tmp 4]) rfl [] .nil [(false, [.lit (.bool r)])] [] [] fun cx => ?_
  show Tr _ _ _ ⟨27, 0, [sC 0 (cF 8 x0 Pt.row), sC 1 (cF 8 x1 Pt.row)], []⟩ _
  unfold laws_eqPtSF at H
  refine Tr.rs ?_
  refine LAt.runU tOk 1 kr ?_
  refine LAt.doneM 19 0 kr ?_
  refine Tr.seq ?_
  refine Tr.rs ?_
  refine LAt.runU tOk 1 kr ?_
  refine LAt.lenE tOk (t := 55) (ty := 3) (e := 114) (x := (.tmp 6)) (d := 7) (g := none) ⟨(.slot 6), [], 0, false, 8, (CV.frzEs (x0.map Pt.row))⟩ (x0).length _ kr kr kr kr kr (frz_len _ _) rfl ?_
  refine LAt.runU tOk 1 kr ?_
  refine LAt.lenE tOk (t := 55) (ty := 3) (e := 114) (x := (.tmp 8)) (d := 9) (g := none) ⟨(.slot 8), [], 0, false, 8, (CV.frzEs (x1.map Pt.row))⟩ (x1).length _ kr kr kr kr kr (frz_len _ _) rfl ?_
  refine LAt.runU tOk 1 kr ?_
  refine LAt.doneM 1043 0 kr ?_
  refine Tr.to ⟨27, 0, [sB 10 ((x0.length : Int) != (x1.length : Int)), sB 4 false, sC 0 (cF 8 x0 Pt.row), sC 1 (cF 8 x1 Pt.row)], []⟩ kr ?_
  cases h1 : ((x0.length : Int) != (x1.length : Int))
  · have H := bifF h1 H
    refine Tr.cond (b := false) kr (fun h => nomatch h) (fun _ => ?_)
    refine Tr.skip ?_
    show Tr _ _ _ _ _
    refine Tr.seq ?_
    refine Tr.rs ?_
    refine LAt.runU tOk 1 kr ?_
    refine LAt.doneM 51 0 kr ?_
    obtain ⟨o2, eo2, Ho2⟩ := bind_some H
    clear H
    refine Tr.mid (ι := Unit) (fun v => ⟨27, 0, [sB 4 false], []⟩) (fun v => laws_eqPtS_J1 n = some r) ?_ ?_
    · refine Tr.block ?_
      refine Tr.loop (ι := Nat × (Int)) (fun v => ⟨27, 0, [sI 5 v.2, sB 4 false, sC 0 (cF 8 x0 Pt.row), sC 1 (cF 8 x1 Pt.row)], []⟩) (fun v => laws_eqPtS_L2 n v.1 x0 x1 v.2 = some o2) (fun v => v.1) (n, 0) eo2 (St.sub_of [5, 4, 0, 1] [] kr) ?_
      rintro ⟨mo2, y1⟩ H
      have H : laws_eqPtS_L2 n mo2 x0 x1 y1 = some o2 := H
      obtain _ | mo2 := mo2
      · cases (show (none : Option _) = some o2 from H)
      · rw [laws_eqPtS_L2] at H
        refine Tr.seq ?_
        refine Tr.rs ?_
        refine LAt.runU tOk 2 kr ?_
        refine LAt.lenE tOk (t := 55) (ty := 3) (e := 114) (x := (.tmp 12)) (d := 13) (g := none) ⟨(.slot 12), [], 0, false, 8, (CV.frzEs (x0.map Pt.row))⟩ (x0).length _ kr kr kr kr kr (frz_len _ _) rfl ?_
        refine LAt.runU tOk 1 kr ?_
        refine LAt.doneM 30771 0 kr ?_
        refine Tr.to ⟨27, 0, [sB 14 (decide (y1 < (x0.length : Int))), sI 13 (x0.length : Int), sC 12 (cF 8 x0 Pt.row), sI 11 y1, sI 5 y1, sB 4 false, sC 0 (cF 8 x0 Pt.row), sC 1 (cF 8 x1 Pt.row)], []⟩ kr ?_
        cases h2 : (decide (y1 < (x0.length : Int)))
        · have H := bifF h2 H
          refine Tr.cond (b := false) kr (fun h => nomatch h) (fun _ => ?_)
          refine Tr.exit ?_
          refine And.intro (fun _ => ?_) (fun h => absurd rfl h)
          have H := Option.some.inj H
          subst H
          have H := Ho2
          dsimp only at H
          exact Exists.intro () (And.intro H (St.sub_of [4] [] kr))
        · have H := bifT h2 H
          refine Tr.cond (b := true) kr (fun _ => ?_) (fun h => nomatch h)
          refine Tr.skip ?_
          show Tr _ _ _ _ _
          refine Tr.seq ?_
          refine Tr.block ?_
          obtain ⟨v3, ev3, H⟩ := bind_some H
          obtain ⟨v4, ev4, H⟩ := bind_some H
          obtain ⟨r5, er5, H⟩ := bind_some H
          refine Tr.draws mixed 10 kr ⟨27, 0, [sB 26 (!r5), sB 25 r5, sV 24 (Pt.row v4), (23, .fad ((Pt.row v4))), sI 22 y1, sC 21 (cF 8 x1 Pt.row), sV 20 (Pt.row v3), (19, .fad ((Pt.row v3))), sI 18 y1, sC 17 (cF 8 x0 Pt.row), sB 14 true, sI 13 (x0.length : Int), sC 12 (cF 8 x0 Pt.row), sI 11 y1, sI 5 y1, sB 4 false, sC 0 (cF 8 x0 Pt.row), sC 1 (cF 8 x1 Pt.row)], []⟩ (fun cx => ?_) ?_
          · refine AT.runU tOk [(0, []), (1, [])] 8 [] [1, 0] rfl kr (fun cx => ?_)
            refine AT.indexF tOk 2 (t := 55) (ty := 0) (x := (.tmp 17)) (y := (.tmp 18)) (d := 19) (g := none) ⟨(.slot 17), [], 0, false, 8, (CV.frzEs (x0.map Pt.row))⟩ y1 (Pt.row v3) _ kr kr kr kr kr kr rfl (idx_isF ev3) rfl (fun cx => ?_)
            refine AT.runU tOk [(3, []), (4, []), (5, [])] 4 [] [5, 4, 3, 2, 1, 0] rfl kr (fun cx => ?_)
            refine AT.indexF tOk 6 (t := 55) (ty := 0) (x := (.tmp 21)) (y := (.tmp 22)) (d := 23) (g := none) ⟨(.slot 21), [], 0, false, 8, (CV.frzEs (x1.map Pt.row))⟩ y1 (Pt.row v4) _ kr kr kr kr kr kr rfl (idx_isF ev4) rfl (fun cx => ?_)
            refine AT.runU tOk [(7, [])] 2 [] [7, 6, 5, 4, 3, 2, 1, 0] rfl kr (fun cx => ?_)
            refine AT.big1 tOk 8 kr kr ?_
            refine LAt.callU tOk [.rd, .rd] (f := 161) (av := #[.tmp 20, .tmp 24]) (ats := #[114, 114]) (d := (some 25)) (ty := 4) (g := none) kr kr kr [] (laws_eqPt n v3 v4 r5 er5) kr (.inl rfl) ?_
            refine LAt.fin kr (And.intro (And.intro kr kr) ?_)
            refine AT.runU tOk [(9, [])] 0 [] [9, 8, 7, 6, 5, 4, 3, 2, 1, 0] rfl kr (fun cx => ?_)
            exact AT.done [26, 25, 24, 23, 22, 21, 20, 19, 18, 17, 14, 13, 12, 11, 5, 4, 0, 1] [] _ kr kr rfl
          · refine Tr.to ⟨27, 0, [sB 26 (!r5), sB 25 r5, sV 24 (Pt.row v4), (23, .fad ((Pt.row v4))), sI 22 y1, sC 21 (cF 8 x1 Pt.row), sV 20 (Pt.row v3), (19, .fad ((Pt.row v3))), sI 18 y1, sC 17 (cF 8 x0 Pt.row), sB 14 true, sI 13 (x0.length : Int), sC 12 (cF 8 x0 Pt.row), sI 11 y1, sI 5 y1, sB 4 false, sC 0 (cF 8 x0 Pt.row), sC 1 (cF 8 x1 Pt.row)], []⟩ kr ?_
            cases h3 : (!r5)
            · have H := bifF h3 H
              refine Tr.cond (b := false) kr (fun h => nomatch h) (fun _ => ?_)
              refine Tr.skip ?_
              show Tr _ _ _ _ _
              refine Tr.at ?_
              refine LAt.runU tOk 3 kr ?_
              refine LAt.doneM 134215731 0 kr ?_
              exact Exists.intro (mo2, (IntKind.wrap .i64 (y1 + 1))) (And.intro H (And.intro (Nat.lt_succ_self mo2) (St.sub_of [5, 4, 0, 1] [] kr)))
            · have H := bifT h3 H
              refine Tr.cond (b := true) kr (fun _ => ?_) (fun h => nomatch h)
              refine Tr.rs ?_
              refine LAt.runU tOk 1 kr ?_
              refine LAt.doneM 134117427 0 kr ?_
              refine Tr.ret ?_
              have H := Option.some.inj H
              subst H
              have H := Ho2
              dsimp only at H
              have H := Option.some.inj H
              subst H
              exact Fin.of _ [(false, [cB false])] kr rfl rfl
    · rintro _ H
      have H : (laws_eqPtS_J1 n) = some r := H
      unfold laws_eqPtS_J1 at H
      show Tr _ _ _ _ _
      refine Tr.rs ?_
      refine LAt.runU tOk 1 kr ?_
      refine LAt.doneM 16 0 kr ?_
      refine Tr.ret ?_
      have H := Option.some.inj H
      subst H
      exact Fin.of _ [(false, [cB true])] kr rfl rfl
  · have H := bifT h1 H
    refine Tr.cond (b := true) kr (fun _ => ?_) (fun h => nomatch h)
    refine Tr.rs ?_
    refine LAt.runU tOk 1 kr ?_
    refine LAt.doneM 19 0 kr ?_
    refine Tr.ret ?_
    have H := Option.some.inj H
    subst H
    exact Fin.of _ [(false, [cB false])] kr rfl rfl

def laws_eqFentF (n : Nat) (x0 : Fent) (x1 : Fent) : Option (Bool) :=
  (bif (x0.Tag != x1.Tag) then (some false) else (bif (x0.Mac != x1.Mac) then (some false) else (bif (x0.Port != x1.Port) then (some false) else (bif (x0.Age != x1.Age) then (some false) else (bif (!(x0.Static == x1.Static)) then (some false) else (some true))))))
/-- loop.example/g00326/laws.eqFent -/
theorem laws_eqFent (n : Nat) (x0 : Fent) (x1 : Fent) (r : Bool) (H : laws_eqFentF n x0 x1 = some r) : LCall Try.prog 162 [.val true (CV.frzRow (Fent.row x0)), .val true (CV.frzRow (Fent.row x1))] [.val false [.lit (.bool r)]] [] := by
  refine LCall.of_body tOk Try.func162 rfl (c := (.seq (.region 0 (rg Try.f162 0) false) (.seq (.seq (.region 1 (rg Try.f162 1) false) (.cond (.tmp 9) (.seq (.region 2 (rg Try.f162 2) false) .ret) .skip)) (.seq (.seq (.region 3 (rg Try.f162 3) false) (.cond (.tmp 14) (.seq (.region 4 (rg Try.f162 4) false) .ret) .skip)) (.seq (.seq (.region 5 (rg Try.f162 5) false) (.cond (.tmp 19) (.seq (.region 6 (rg Try.f162 6) false) .ret) .skip)) (.seq (.seq (.region 7 (rg Try.f162 7) false) (.cond (.tmp 24) (.seq (.region 8 (rg Try.f162 8) false) .ret) .skip)) (.seq (.seq (.region 9 (rg Try.f162 9) false) (.cond (.tmp 29) (.seq (.region 10 (rg Try.f162 10) false) .ret) .skip)) (.seq (.region 11 (rg Try.f162 11) false) .ret)))))))) kr (Nat.le_of_ble_eq_true kr) 0 (rs := [.tmp 4]) rfl [] .nil [(false, [.lit (.bool r)])] [] [] fun cx => ?_
  show Tr _ _ _ ⟨30, 0, [sV 0 (Fent.row x0), sV 1 (Fent.row x1)], []⟩ _
  unfold laws_eqFentF at H
  refine Tr.rs ?_
  refine LAt.runU tOk 3 kr ?_
  refine LAt.doneM 28 12 kr ?_
  refine Tr.seq ?_
  refine Tr.rs ?_
  refine LAt.runU tOk 5 kr ?_
  refine LAt.doneM 540 12 kr ?_
  refine Tr.to ⟨30, 0, [sB 9 (x0.Tag != x1.Tag), sB 4 false, sA 3 3 5 0, sA 2 2 5 0], [(3, (Fent.row x1)), (2, (Fent.row x0))]⟩ kr ?_
  cases h1 : (x0.Tag != x1.Tag)
  · have H := bifF h1 H
    refine Tr.cond (b := false) kr (fun h => nomatch h) (fun _ => ?_)
    refine Tr.skip ?_
    show Tr _ _ _ _ _
    refine Tr.seq ?_
    refine Tr.rs ?_
    refine LAt.runU tOk 5 kr ?_
    refine LAt.doneM 16412 12 kr ?_
    refine Tr.to ⟨30, 0, [sB 14 (x0.Mac != x1.Mac), sB 4 false, sA 3 3 5 0, sA 2 2 5 0], [(3, (Fent.row x1)), (2, (Fent.row x0))]⟩ kr ?_
    cases h2 : (x0.Mac != x1.Mac)
    · have H := bifF h2 H
      refine Tr.cond (b := false) kr (fun h => nomatch h) (fun _ => ?_)
      refine Tr.skip ?_
      show Tr _ _ _ _ _
      refine Tr.seq ?_
      refine Tr.rs ?_
      refine LAt.runU tOk 5 kr ?_
      refine LAt.doneM 524316 12 kr ?_
      refine Tr.to ⟨30, 0, [sB 19 (x0.Port != x1.Port), sB 4 false, sA 3 3 5 0, sA 2 2 5 0], [(3, (Fent.row x1)), (2, (Fent.row x0))]⟩ kr ?_
      cases h3 : (x0.Port != x1.Port)
      · have H := bifF h3 H
        refine Tr.cond (b := false) kr (fun h => nomatch h) (fun _ => ?_)
        refine Tr.skip ?_
        show Tr _ _ _ _ _
        refine Tr.seq ?_
        refine Tr.rs ?_
        refine LAt.runU tOk 5 kr ?_
        refine LAt.doneM 16777244 12 kr ?_
        refine Tr.to ⟨30, 0, [sB 24 (x0.Age != x1.Age), sB 4 false, sA 3 3 5 0, sA 2 2 5 0], [(3, (Fent.row x1)), (2, (Fent.row x0))]⟩ kr ?_
        cases h4 : (x0.Age != x1.Age)
        · have H := bifF h4 H
          refine Tr.cond (b := false) kr (fun h => nomatch h) (fun _ => ?_)
          refine Tr.skip ?_
          show Tr _ _ _ _ _
          refine Tr.seq ?_
          refine Tr.rs ?_
          refine LAt.runU tOk 5 kr ?_
          refine LAt.doneM 536870928 0 kr ?_
          refine Tr.to ⟨30, 0, [sB 29 (!(x0.Static == x1.Static)), sB 4 false], []⟩ kr ?_
          cases h5 : (!(x0.Static == x1.Static))
          · have H := bifF h5 H
            refine Tr.cond (b := false) kr (fun h => nomatch h) (fun _ => ?_)
            refine Tr.skip ?_
            show Tr _ _ _ _ _
            refine Tr.rs ?_
            refine LAt.runU tOk 1 kr ?_
            refine LAt.doneM 16 0 kr ?_
            refine Tr.ret ?_
            have H := Option.some.inj H
            subst H
            exact Fin.of _ [(false, [cB true])] kr rfl rfl
          · have H := bifT h5 H
            refine Tr.cond (b := true) kr (fun _ => ?_) (fun h => nomatch h)
            refine Tr.rs ?_
            refine LAt.runU tOk 1 kr ?_
            refine LAt.doneM 16 0 kr ?_
            refine Tr.ret ?_
            have H := Option.some.inj H
            subst H
            exact Fin.of _ [(false, [cB false])] kr rfl rfl
        · have H := bifT h4 H
          refine Tr.cond (b := true) kr (fun _ => ?_) (fun h => nomatch h)
          refine Tr.rs ?_
          refine LAt.runU tOk 1 kr ?_
          refine LAt.doneM 28 12 kr ?_
          refine Tr.ret ?_
          have H := Option.some.inj H
          subst H
          exact Fin.of _ [(false, [cB false])] kr rfl rfl
      · have H := bifT h3 H
        refine Tr.cond (b := true) kr (fun _ => ?_) (fun h => nomatch h)
        refine Tr.rs ?_
        refine LAt.runU tOk 1 kr ?_
        refine LAt.doneM 28 12 kr ?_
        refine Tr.ret ?_
        have H := Option.some.inj H
        subst H
        exact Fin.of _ [(false, [cB false])] kr rfl rfl
    · have H := bifT h2 H
      refine Tr.cond (b := true) kr (fun _ => ?_) (fun h => nomatch h)
      refine Tr.rs ?_
      refine LAt.runU tOk 1 kr ?_
      refine LAt.doneM 28 12 kr ?_
      refine Tr.ret ?_
      have H := Option.some.inj H
      subst H
      exact Fin.of _ [(false, [cB false])] kr rfl rfl
  · have H := bifT h1 H
    refine Tr.cond (b := true) kr (fun _ => ?_) (fun h => nomatch h)
    refine Tr.rs ?_
    refine LAt.runU tOk 1 kr ?_
    refine LAt.doneM 28 12 kr ?_
    refine Tr.ret ?_
    have H := Option.some.inj H
    subst H
    exact Fin.of _ [(false, [cB false])] kr rfl rfl

def laws_eqFentS_J1 (n : Nat) : Option (Bool) :=
  (some true)
def laws_eqFentS_L2 (n : Nat) : Nat → (List Fent) → (List Fent) → Int → Option ((Unit) ⊕ (Bool))
  | 0, _, _, _ => none
  | mo2 + 1, x0, x1, y1 => (bif (decide (y1 < (x0.length : Int))) then ((idx x0 y1).bind fun v3 => ((idx x1 y1).bind fun v4 => ((laws_eqFentF n v3 v4).bind fun r5 => (bif (!r5) then (some (Sum.inr false)) else (laws_eqFentS_L2 n mo2 x0 x1 (IntKind.wrap .i64 (y1 + 1))))))) else (some (Sum.inl ())))
def laws_eqFentSF (n : Nat) (x0 : (List Fent)) (x1 : (List Fent)) : Option (Bool) :=
  (bif ((x0.length : Int) != (x1.length : Int)) then (some false) else ((laws_eqFentS_L2 n n x0 x1 0).bind fun o => match o with | .inl _ => (laws_eqFentS_J1 n) | .inr r => some r))
/-- loop.example/g00326/laws.eqFentS -/
theorem laws_eqFentS (n : Nat) (x0 : (List Fent)) (x1 : (List Fent)) (r : Bool) (H : laws_eqFentSF n x0 x1 = some r) : LCall Try.prog 107 [.val false [.sl false 5 (CV.frzEs (x0.map Fent.row))], .val false [.sl false 5 (CV.frzEs (x1.map Fent.row))]] [.val false [.lit (.bool r)]] [] := by
  refine LCall.of_body tOk Try.func107 rfl (c := (.seq (.region 0 (rg Try.f107 0) false) (.seq (.seq (.region 1 (rg Try.f107 1) false) (.cond (.tmp 10) (.seq (.region 2 (rg Try.f107 2) false) .ret) .skip)) (.seq (.seq (.region 3 (rg Try.f107 3) false) (.block 0 (.loop (.seq (.seq (.region 4 (rg Try.f107 4) false) (.cond (.tmp 14) .skip (.exit 0))) (.seq (.block 1 (.seq (.region 6 (rg Try.f107 6) true) (.cond (.tmp 26) (.seq (.region 7 (rg Try.f107 7) false) .ret) .skip))) (.region 5 (rg Try.f107 5) false)))))) (.seq (.region 8 (rg Try.f107 8) false) .ret))))) kr (Nat.le_of_ble_eq_true kr) 0 (rs := [.tmp 4]) rfl [] .nil [(false, [.lit (.bool r)])] [] [] fun cx => ?_
  show Tr _ _ _ ⟨27, 0, [sC 0 (cF 5 x0 Fent.row), sC 1 (cF 5 x1 Fent.row)], []⟩ _
  unfold laws_eqFentSF at H
  refine Tr.rs ?_
  refine LAt.runU tOk 1 kr ?_
  refine LAt.doneM 19 0 kr ?_
  refine Tr.seq ?_
  refine Tr.rs ?_
  refine LAt.runU tOk 1 kr ?_
  refine LAt.lenE tOk (t := 56) (ty := 3) (e := 141) (x := (.tmp 6)) (d := 7) (g := none) ⟨(.slot 6), [], 0, false, 5, (CV.frzEs (x0.map Fent.row))⟩ (x0).length _ kr kr kr kr kr (frz_len _ _) rfl ?_
  refine LAt.runU tOk 1 kr ?_
  refine LAt.lenE tOk (t := 56) (ty := 3) (e := 141) (x := (.tmp 8)) (d := 9) (g := none) ⟨(.slot 8), [], 0, false, 5, (CV.frzEs (x1.map Fent.row))⟩ (x1).length _ kr kr kr kr kr (frz_len _ _) rfl ?_
  refine LAt.runU tOk 1 kr ?_
  refine LAt.doneM 1043 0 kr ?_
  refine Tr.to ⟨27, 0, [sB 10 ((x0.length : Int) != (x1.length : Int)), sB 4 false, sC 0 (cF 5 x0 Fent.row), sC 1 (cF 5 x1 Fent.row)], []⟩ kr ?_
  cases h1 : ((x0.length : Int) != (x1.length : Int))
  · have H := bifF h1 H
    refine Tr.cond (b := false) kr (fun h => nomatch h) (fun _ => ?_)
    refine Tr.skip ?_
    show Tr _ _ _ _ _
    refine Tr.seq ?_
    refine Tr.rs ?_
    refine LAt.runU tOk 1 kr ?_
    refine LAt.doneM 51 0 kr ?_
    obtain ⟨o2, eo2, Ho2⟩ := bind_some H
    clear H
    refine Tr.mid (ι := Unit) (fun v => ⟨27, 0, [sB 4 false], []⟩) (fun v => laws_eqFentS_J1 n = some r) ?_ ?_
    · refine Tr.block ?_
      refine Tr.loop (ι := Nat × (Int)) (fun v => ⟨27, 0, [sI 5 v.2, sB 4 false, sC 0 (cF 5 x0 Fent.row), sC 1 (cF 5 x1 Fent.row)], []⟩) (fun v => laws_eqFentS_L2 n v.1 x0 x1 v.2 = some o2) (fun v => v.1) (n, 0) eo2 (St.sub_of [5, 4, 0, 1] [] kr) ?_
      rintro ⟨mo2, y1⟩ H
      have H : laws_eqFentS_L2 n mo2 x0 x1 y1 = some o2 := H
      obtain _ | mo2 := mo2
      · cases (show (none : Option _) = some o2 from H)
      · rw [laws_eqFentS_L2] at H
        refine Tr.seq ?_
        refine Tr.rs ?_
        refine LAt.runU tOk 2 kr ?_
        refine LAt.lenE tOk (t := 56) (ty := 3) (e := 141) (x := (.tmp 12)) (d := 13) (g := none) ⟨(.slot 12), [], 0, false, 5, (CV.frzEs (x0.map Fent.row))⟩ (x0).length _ kr kr kr kr kr (frz_len _ _) rfl ?_
        refine LAt.runU tOk 1 kr ?_
        refine LAt.doneM 30771 0 kr ?_
        refine Tr.to ⟨27, 0, [sB 14 (decide (y1 < (x0.length : Int))), sI 13 (x0.length : Int), sC 12 (cF 5 x0 Fent.row), sI 11 y1, sI 5 y1, sB 4 false, sC 0 (cF 5 x0 Fent.row), sC 1 (cF 5 x1 Fent.row)], []⟩ kr ?_
        cases h2 : (decide (y1 < (x0.length : Int)))
        · have H := bifF h2 H
          refine Tr.cond (b := false) kr (fun h => nomatch h) (fun _ => ?_)
          refine Tr.exit ?_
          refine And.intro (fun _ => ?_) (fun h => absurd rfl h)
          have H := Option.some.inj H
          subst H
          have H := Ho2
          dsimp only at H
          exact Exists.intro () (And.intro H (St.sub_of [4] [] kr))
        · have H := bifT h2 H
          refine Tr.cond (b := true) kr (fun _ => ?_) (fun h => nomatch h)
          refine Tr.skip ?_
          show Tr _ _ _ _ _
          refine Tr.seq ?_
          refine Tr.block ?_
          obtain ⟨v3, ev3, H⟩ := bind_some H
          obtain ⟨v4, ev4, H⟩ := bind_some H
          obtain ⟨r5, er5, H⟩ := bind_some H
          refine Tr.draws mixed 10 kr ⟨27, 0, [sB 26 (!r5), sB 25 r5, sV 24 (Fent.row v4), (23, .fad ((Fent.row v4))), sI 22 y1, sC 21 (cF 5 x1 Fent.row), sV 20 (Fent.row v3), (19, .fad ((Fent.row v3))), sI 18 y1, sC 17 (cF 5 x0 Fent.row), sB 14 true, sI 13 (x0.length : Int), sC 12 (cF 5 x0 Fent.row), sI 11 y1, sI 5 y1, sB 4 false, sC 0 (cF 5 x0 Fent.row), sC 1 (cF 5 x1 Fent.row)], []⟩ (fun cx => ?_) ?_
          · refine AT.runU tOk [(0, []), (1, [])] 8 [] [1, 0] rfl kr (fun cx => ?_)
            refine AT.indexF tOk 2 (t := 56) (ty := 0) (x := (.tmp 17)) (y := (.tmp 18)) (d := 19) (g := none) ⟨(.slot 17), [], 0, false, 5, (CV.frzEs (x0.map Fent.row))⟩ y1 (Fent.row v3) _ kr kr kr kr kr kr rfl (idx_isF ev3) rfl (fun cx => ?_)
            refine AT.runU tOk [(3, []), (4, []), (5, [])] 4 [] [5, 4, 3, 2, 1, 0] rfl kr (fun cx => ?_)
            refine AT.indexF tOk 6 (t := 56) (ty := 0) (x := (.tmp 21)) (y := (.tmp 22)) (d := 23) (g := none) ⟨(.slot 21), [], 0, false, 5, (CV.frzEs (x1.map Fent.row))⟩ y1 (Fent.row v4) _ kr kr kr kr kr kr rfl (idx_isF ev4) rfl (fun cx => ?_)
            refine AT.runU tOk [(7, [])] 2 [] [7, 6, 5, 4, 3, 2, 1, 0] rfl kr (fun cx => ?_)
            refine AT.big1 tOk 8 kr kr ?_
            refine LAt.callU tOk [.rd, .rd] (f := 162) (av := #[.tmp 20, .tmp 24]) (ats := #[141, 141]) (d := (some 25)) (ty := 4) (g := none) kr kr kr [] (laws_eqFent n v3 v4 r5 er5) kr (.inl rfl) ?_
            refine LAt.fin kr (And.intro (And.intro kr kr) ?_)
            refine AT.runU tOk [(9, [])] 0 [] [9, 8, 7, 6, 5, 4, 3, 2, 1, 0] rfl kr (fun cx => ?_)
            exact AT.done [26, 25, 24, 23, 22, 21, 20, 19, 18, 17, 14, 13, 12, 11, 5, 4, 0, 1] [] _ kr kr rfl
          · refine Tr.to ⟨27, 0, [sB 26 (!r5), sB 25 r5, sV 24 (Fent.row v4), (23, .fad ((Fent.row v4))), sI 22 y1, sC 21 (cF 5 x1 Fent.row), sV 20 (Fent.row v3), (19, .fad ((Fent.row v3))), sI 18 y1, sC 17 (cF 5 x0 Fent.row), sB 14 true, sI 13 (x0.length : Int), sC 12 (cF 5 x0 Fent.row), sI 11 y1, sI 5 y1, sB 4 false, sC 0 (cF 5 x0 Fent.row), sC 1 (cF 5 x1 Fent.row)], []⟩ kr ?_
            cases h3 : (!r5)
            · have H := bifF h3 H
              refine Tr.cond (b := false) kr (fun h => nomatch h) (fun _ => ?_)
              refine Tr.skip ?_
              show Tr _ _ _ _ _
              refine Tr.at ?_
              refine LAt.runU tOk 3 kr ?_
              refine LAt.doneM 134215731 0 kr ?_
              exact Exists.intro (mo2, (IntKind.wrap .i64 (y1 + 1))) (And.intro H (And.intro (Nat.lt_succ_self mo2) (St.sub_of [5, 4, 0, 1] [] kr)))
            · have H := bifT h3 H
              refine Tr.cond (b := true) kr (fun _ => ?_) (fun h => nomatch h)
              refine Tr.rs ?_
              refine LAt.runU tOk 1 kr ?_
              refine LAt.doneM 134117427 0 kr ?_
              refine Tr.ret ?_
              have H := Option.some.inj H
              subst H
              have H := Ho2
              dsimp only at H
              have H := Option.some.inj H
              subst H
              exact Fin.of _ [(false, [cB false])] kr rfl rfl
    · rintro _ H
      have H : (laws_eqFentS_J1 n) = some r := H
      unfold laws_eqFentS_J1 at H
      show Tr _ _ _ _ _
      refine Tr.rs ?_
      refine LAt.runU tOk 1 kr ?_
      refine LAt.doneM 16 0 kr ?_
      refine Tr.ret ?_
      have H := Option.some.inj H
      subst H
      exact Fin.of _ [(false, [cB true])] kr rfl rfl
  · have H := bifT h1 H
    refine Tr.cond (b := true) kr (fun _ => ?_) (fun h => nomatch h)
    refine Tr.rs ?_
    refine LAt.runU tOk 1 kr ?_
    refine LAt.doneM 19 0 kr ?_
    refine Tr.ret ?_
    have H := Option.some.inj H
    subst H
    exact Fin.of _ [(false, [cB false])] kr rfl rfl

def laws_eqVrowF (n : Nat) (x0 : Vrow) (x1 : Vrow) : Option (Bool) :=
  (bif (x0.Id != x1.Id) then (some false) else (bif (x0.Members != x1.Members) then (some false) else (bif (x0.Bare != x1.Bare) then (some false) else (some true))))
/-- loop.example/g00326/laws.eqVrow -/
theorem laws_eqVrow (n : Nat) (x0 : Vrow) (x1 : Vrow) (r : Bool) (H : laws_eqVrowF n x0 x1 = some r) : LCall Try.prog 181 [.val true (CV.frzRow (Vrow.row x0)), .val true (CV.frzRow (Vrow.row x1))] [.val false [.lit (.bool r)]] [] := by
  refine LCall.of_body tOk Try.func181 rfl (c := (.seq (.region 0 (rg Try.f181 0) false) (.seq (.seq (.region 1 (rg Try.f181 1) false) (.cond (.tmp 9) (.seq (.region 2 (rg Try.f181 2) false) .ret) .skip)) (.seq (.seq (.region 3 (rg Try.f181 3) false) (.cond (.tmp 14) (.seq (.region 4 (rg Try.f181 4) false) .ret) .skip)) (.seq (.seq (.region 5 (rg Try.f181 5) false) (.cond (.tmp 19) (.seq (.region 6 (rg Try.f181 6) false) .ret) .skip)) (.seq (.region 7 (rg Try.f181 7) false) .ret)))))) kr (Nat.le_of_ble_eq_true kr) 0 (rs := [.tmp 4]) rfl [] .nil [(false, [.lit (.bool r)])] [] [] fun cx => ?_
  show Tr _ _ _ ⟨20, 0, [sV 0 (Vrow.row x0), sV 1 (Vrow.row x1)], []⟩ _
  unfold laws_eqVrowF at H
  refine Tr.rs ?_
  refine LAt.runU tOk 3 kr ?_
  refine LAt.doneM 28 12 kr ?_
  refine Tr.seq ?_
  refine Tr.rs ?_
  refine LAt.runU tOk 5 kr ?_
  refine LAt.doneM 540 12 kr ?_
  refine Tr.to ⟨20, 0, [sB 9 (x0.Id != x1.Id), sB 4 false, sA 3 3 3 0, sA 2 2 3 0], [(3, (Vrow.row x1)), (2, (Vrow.row x0))]⟩ kr ?_
  cases h1 : (x0.Id != x1.Id)
  · have H := bifF h1 H
    refine Tr.cond (b := false) kr (fun h => nomatch h) (fun _ => ?_)
    refine Tr.skip ?_
    show Tr _ _ _ _ _
    refine Tr.seq ?_
    refine Tr.rs ?_
    refine LAt.runU tOk 5 kr ?_
    refine LAt.doneM 16412 12 kr ?_
    refine Tr.to ⟨20, 0, [sB 14 (x0.Members != x1.Members), sB 4 false, sA 3 3 3 0, sA 2 2 3 0], [(3, (Vrow.row x1)), (2, (Vrow.row x0))]⟩ kr ?_
    cases h2 : (x0.Members != x1.Members)
    · have H := bifF h2 H
      refine Tr.cond (b := false) kr (fun h => nomatch h) (fun _ => ?_)
      refine Tr.skip ?_
      show Tr _ _ _ _ _
      refine Tr.seq ?_
      refine Tr.rs ?_
      refine LAt.runU tOk 5 kr ?_
      refine LAt.doneM 524304 0 kr ?_
      refine Tr.to ⟨20, 0, [sB 19 (x0.Bare != x1.Bare), sB 4 false], []⟩ kr ?_
      cases h3 : (x0.Bare != x1.Bare)
      · have H := bifF h3 H
        refine Tr.cond (b := false) kr (fun h => nomatch h) (fun _ => ?_)
        refine Tr.skip ?_
        show Tr _ _ _ _ _
        refine Tr.rs ?_
        refine LAt.runU tOk 1 kr ?_
        refine LAt.doneM 16 0 kr ?_
        refine Tr.ret ?_
        have H := Option.some.inj H
        subst H
        exact Fin.of _ [(false, [cB true])] kr rfl rfl
      · have H := bifT h3 H
        refine Tr.cond (b := true) kr (fun _ => ?_) (fun h => nomatch h)
        refine Tr.rs ?_
        refine LAt.runU tOk 1 kr ?_
        refine LAt.doneM 16 0 kr ?_
        refine Tr.ret ?_
        have H := Option.some.inj H
        subst H
        exact Fin.of _ [(false, [cB false])] kr rfl rfl
    · have H := bifT h2 H
      refine Tr.cond (b := true) kr (fun _ => ?_) (fun h => nomatch h)
      refine Tr.rs ?_
      refine LAt.runU tOk 1 kr ?_
      refine LAt.doneM 28 12 kr ?_
      refine Tr.ret ?_
      have H := Option.some.inj H
      subst H
      exact Fin.of _ [(false, [cB false])] kr rfl rfl
  · have H := bifT h1 H
    refine Tr.cond (b := true) kr (fun _ => ?_) (fun h => nomatch h)
    refine Tr.rs ?_
    refine LAt.runU tOk 1 kr ?_
    refine LAt.doneM 28 12 kr ?_
    refine Tr.ret ?_
    have H := Option.some.inj H
    subst H
    exact Fin.of _ [(false, [cB false])] kr rfl rfl

def laws_eqVrowS_J1 (n : Nat) : Option (Bool) :=
  (some true)
def laws_eqVrowS_L2 (n : Nat) : Nat → (List Vrow) → (List Vrow) → Int → Option ((Unit) ⊕ (Bool))
  | 0, _, _, _ => none
  | mo2 + 1, x0, x1, y1 => (bif (decide (y1 < (x0.length : Int))) then ((idx x0 y1).bind fun v3 => ((idx x1 y1).bind fun v4 => ((laws_eqVrowF n v3 v4).bind fun r5 => (bif (!r5) then (some (Sum.inr false)) else (laws_eqVrowS_L2 n mo2 x0 x1 (IntKind.wrap .i64 (y1 + 1))))))) else (some (Sum.inl ())))
def laws_eqVrowSF (n : Nat) (x0 : (List Vrow)) (x1 : (List Vrow)) : Option (Bool) :=
  (bif ((x0.length : Int) != (x1.length : Int)) then (some false) else ((laws_eqVrowS_L2 n n x0 x1 0).bind fun o => match o with | .inl _ => (laws_eqVrowS_J1 n) | .inr r => some r))
/-- loop.example/g00326/laws.eqVrowS -/
theorem laws_eqVrowS (n : Nat) (x0 : (List Vrow)) (x1 : (List Vrow)) (r : Bool) (H : laws_eqVrowSF n x0 x1 = some r) : LCall Try.prog 163 [.val false [.sl false 3 (CV.frzEs (x0.map Vrow.row))], .val false [.sl false 3 (CV.frzEs (x1.map Vrow.row))]] [.val false [.lit (.bool r)]] [] := by
  refine LCall.of_body tOk Try.func163 rfl (c := (.seq (.region 0 (rg Try.f163 0) false) (.seq (.seq (.region 1 (rg Try.f163 1) false) (.cond (.tmp 10) (.seq (.region 2 (rg Try.f163 2) false) .ret) .skip)) (.seq (.seq (.region 3 (rg Try.f163 3) false) (.block 0 (.loop (.seq (.seq (.region 4 (rg Try.f163 4) false) (.cond (.tmp 14) .skip (.exit 0))) (.seq (.block 1 (.seq (.region 6 (rg Try.f163 6) true) (.cond (.tmp 26) (.seq (.region 7 (rg Try.f163 7) false) .ret) .skip))) (.region 5 (rg Try.f163 5) false)))))) (.seq (.region 8 (rg Try.f163 8) false) .ret))))) kr (Nat.le_of_ble_eq_true kr) 0 (rs := [.tmp 4]) rfl [] .nil [(false, [.lit (.bool r)])] [] [] fun cx => ?_
  show Tr _ _ _ ⟨27, 0, [sC 0 (cF 3 x0 Vrow.row), sC 1 (cF 3 x1 Vrow.row)], []⟩ _
  unfold laws_eqVrowSF at H
  refine Tr.rs ?_
  refine LAt.runU tOk 1 kr ?_
  refine LAt.doneM 19 0 kr ?_
  refine Tr.seq ?_
  refine Tr.rs ?_
  refine LAt.runU tOk 1 kr ?_
  refine LAt.lenE tOk (t := 57) (ty := 3) (e := 138) (x := (.tmp 6)) (d := 7) (g := none) ⟨(.slot 6), [], 0, false, 3, (CV.frzEs (x0.map Vrow.row))⟩ (x0).length _ kr kr kr kr kr (frz_len _ _) rfl ?_
  refine LAt.runU tOk 1 kr ?_
  refine LAt.lenE tOk (t := 57) (ty := 3) (e := 138) (x := (.tmp 8)) (d := 9) (g := none) ⟨(.slot 8), [], 0, false, 3, (CV.frzEs (x1.map Vrow.row))⟩ (x1).length _ kr kr kr kr kr (frz_len _ _) rfl ?_
  refine LAt.runU tOk 1 kr ?_
  refine LAt.doneM 1043 0 kr ?_
  refine Tr.to ⟨27, 0, [sB 10 ((x0.length : Int) != (x1.length : Int)), sB 4 false, sC 0 (cF 3 x0 Vrow.row), sC 1 (cF 3 x1 Vrow.row)], []⟩ kr ?_
  cases h1 : ((x0.length : Int) != (x1.length : Int))
  · have H := bifF h1 H
    refine Tr.cond (b := false) kr (fun h => nomatch h) (fun _ => ?_)
    refine Tr.skip ?_
    show Tr _ _ _ _ _
    refine Tr.seq ?_
    refine Tr.rs ?_
    refine LAt.runU tOk 1 kr ?_
    refine LAt.doneM 51 0 kr ?_
    obtain ⟨o2, eo2, Ho2⟩ := bind_some H
    clear H
    refine Tr.mid (ι := Unit) (fun v => ⟨27, 0, [sB 4 false], []⟩) (fun v => laws_eqVrowS_J1 n = some r) ?_ ?_
    · refine Tr.block ?_
      refine Tr.loop (ι := Nat × (Int)) (fun v => ⟨27, 0, [sI 5 v.2, sB 4 false, sC 0 (cF 3 x0 Vrow.row), sC 1 (cF 3 x1 Vrow.row)], []⟩) (fun v => laws_eqVrowS_L2 n v.1 x0 x1 v.2 = some o2) (fun v => v.1) (n, 0) eo2 (St.sub_of [5, 4, 0, 1] [] kr) ?_
      rintro ⟨mo2, y1⟩ H
      have H : laws_eqVrowS_L2 n mo2 x0 x1 y1 = some o2 := H
      obtain _ | mo2 := mo2
      · cases (show (none : Option _) = some o2 from H)
      · rw [laws_eqVrowS_L2] at H
        refine Tr.seq ?_
        refine Tr.rs ?_
        refine LAt.runU tOk 2 kr ?_
        refine LAt.lenE tOk (t := 57) (ty := 3) (e := 138) (x := (.tmp 12)) (d := 13) (g := none) ⟨(.slot 12), [], 0, false, 3, (CV.frzEs (x0.map Vrow.row))⟩ (x0).length _ kr kr kr kr kr (frz_len _ _) rfl ?_
        refine LAt.runU tOk 1 kr ?_
        refine LAt.doneM 30771 0 kr ?_
        refine Tr.to ⟨27, 0, [sB 14 (decide (y1 < (x0.length : Int))), sI 13 (x0.length : Int), sC 12 (cF 3 x0 Vrow.row), sI 11 y1, sI 5 y1, sB 4 false, sC 0 (cF 3 x0 Vrow.row), sC 1 (cF 3 x1 Vrow.row)], []⟩ kr ?_
        cases h2 : (decide (y1 < (x0.length : Int)))
        · have H := bifF h2 H
          refine Tr.cond (b := false) kr (fun h => nomatch h) (fun _ => ?_)
          refine Tr.exit ?_
          refine And.intro (fun _ => ?_) (fun h => absurd rfl h)
          have H := Option.some.inj H
          subst H
          have H := Ho2
          dsimp only at H
          exact Exists.intro () (And.intro H (St.sub_of [4] [] kr))
        · have H := bifT h2 H
          refine Tr.cond (b := true) kr (fun _ => ?_) (fun h => nomatch h)
          refine Tr.skip ?_
          show Tr _ _ _ _ _
          refine Tr.seq ?_
          refine Tr.block ?_
          obtain ⟨v3, ev3, H⟩ := bind_some H
          obtain ⟨v4, ev4, H⟩ := bind_some H
          obtain ⟨r5, er5, H⟩ := bind_some H
          refine Tr.draws mixed 10 kr ⟨27, 0, [sB 26 (!r5), sB 25 r5, sV 24 (Vrow.row v4), (23, .fad ((Vrow.row v4))), sI 22 y1, sC 21 (cF 3 x1 Vrow.row), sV 20 (Vrow.row v3), (19, .fad ((Vrow.row v3))), sI 18 y1, sC 17 (cF 3 x0 Vrow.row), sB 14 true, sI 13 (x0.length : Int), sC 12 (cF 3 x0 Vrow.row), sI 11 y1, sI 5 y1, sB 4 false, sC 0 (cF 3 x0 Vrow.row), sC 1 (cF 3 x1 Vrow.row)], []⟩ (fun cx => ?_) ?_
          · refine AT.runU tOk [(0, []), (1, [])] 8 [] [1, 0] rfl kr (fun cx => ?_)
            refine AT.indexF tOk 2 (t := 57) (ty := 0) (x := (.tmp 17)) (y := (.tmp 18)) (d := 19) (g := none) ⟨(.slot 17), [], 0, false, 3, (CV.frzEs (x0.map Vrow.row))⟩ y1 (Vrow.row v3) _ kr kr kr kr kr kr rfl (idx_isF ev3) rfl (fun cx => ?_)
            refine AT.runU tOk [(3, []), (4, []), (5, [])] 4 [] [5, 4, 3, 2, 1, 0] rfl kr (fun cx => ?_)
            refine AT.indexF tOk 6 (t := 57) (ty := 0) (x := (.tmp 21)) (y := (.tmp 22)) (d := 23) (g := none) ⟨(.slot 21), [], 0, false, 3, (CV.frzEs (x1.map Vrow.row))⟩ y1 (Vrow.row v4) _ kr kr kr kr kr kr rfl (idx_isF ev4) rfl (fun cx => ?_)
            refine AT.runU tOk [(7, [])] 2 [] [7, 6, 5, 4, 3, 2, 1, 0] rfl kr (fun cx => ?_)
            refine AT.big1 tOk 8 kr kr ?_
            refine LAt.callU tOk [.rd, .rd] (f := 181) (av := #[.tmp 20, .tmp 24]) (ats := #[138, 138]) (d := (some 25)) (ty := 4) (g := none) kr kr kr [] (laws_eqVrow n v3 v4 r5 er5) kr (.inl rfl) ?_
            refine LAt.fin kr (And.intro (And.intro kr kr) ?_)
            refine AT.runU tOk [(9, [])] 0 [] [9, 8, 7, 6, 5, 4, 3, 2, 1, 0] rfl kr (fun cx => ?_)
            exact AT.done [26, 25, 24, 23, 22, 21, 20, 19, 18, 17, 14, 13, 12, 11, 5, 4, 0, 1] [] _ kr kr rfl
          · refine Tr.to ⟨27, 0, [sB 26 (!r5), sB 25 r5, sV 24 (Vrow.row v4), (23, .fad ((Vrow.row v4))), sI 22 y1, sC 21 (cF 3 x1 Vrow.row), sV 20 (Vrow.row v3), (19, .fad ((Vrow.row v3))), sI 18 y1, sC 17 (cF 3 x0 Vrow.row), sB 14 true, sI 13 (x0.length : Int), sC 12 (cF 3 x0 Vrow.row), sI 11 y1, sI 5 y1, sB 4 false, sC 0 (cF 3 x0 Vrow.row), sC 1 (cF 3 x1 Vrow.row)], []⟩ kr ?_
            cases h3 : (!r5)
            · have H := bifF h3 H
              refine Tr.cond (b := false) kr (fun h => nomatch h) (fun _ => ?_)
              refine Tr.skip ?_
              show Tr _ _ _ _ _
              refine Tr.at ?_
              refine LAt.runU tOk 3 kr ?_
              refine LAt.doneM 134215731 0 kr ?_
              exact Exists.intro (mo2, (IntKind.wrap .i64 (y1 + 1))) (And.intro H (And.intro (Nat.lt_succ_self mo2) (St.sub_of [5, 4, 0, 1] [] kr)))
            · have H := bifT h3 H
              refine Tr.cond (b := true) kr (fun _ => ?_) (fun h => nomatch h)
              refine Tr.rs ?_
              refine LAt.runU tOk 1 kr ?_
              refine LAt.doneM 134117427 0 kr ?_
              refine Tr.ret ?_
              have H := Option.some.inj H
              subst H
              have H := Ho2
              dsimp only at H
              have H := Option.some.inj H
              subst H
              exact Fin.of _ [(false, [cB false])] kr rfl rfl
    · rintro _ H
      have H : (laws_eqVrowS_J1 n) = some r := H
      unfold laws_eqVrowS_J1 at H
      show Tr _ _ _ _ _
      refine Tr.rs ?_
      refine LAt.runU tOk 1 kr ?_
      refine LAt.doneM 16 0 kr ?_
      refine Tr.ret ?_
      have H := Option.some.inj H
      subst H
      exact Fin.of _ [(false, [cB true])] kr rfl rfl
  · have H := bifT h1 H
    refine Tr.cond (b := true) kr (fun _ => ?_) (fun h => nomatch h)
    refine Tr.rs ?_
    refine LAt.runU tOk 1 kr ?_
    refine LAt.doneM 19 0 kr ?_
    refine Tr.ret ?_
    have H := Option.some.inj H
    subst H
    exact Fin.of _ [(false, [cB false])] kr rfl rfl

def laws_eqIntS_J1 (n : Nat) : Option (Bool) :=
  (some true)
def laws_eqIntS_L2 (n : Nat) : Nat → (List Int) → (List Int) → Int → Option ((Unit) ⊕ (Bool))
  | 0, _, _, _ => none
  | mo2 + 1, x0, x1, y1 => (bif (decide (y1 < (x0.length : Int))) then ((idx x0 y1).bind fun v3 => ((idx x1 y1).bind fun v4 => (bif (v3 != v4) then (some (Sum.inr false)) else (laws_eqIntS_L2 n mo2 x0 x1 (IntKind.wrap .i64 (y1 + 1)))))) else (some (Sum.inl ())))
def laws_eqIntSF (n : Nat) (x0 : (List Int)) (x1 : (List Int)) : Option (Bool) :=
  (bif ((x0.length : Int) != (x1.length : Int)) then (some false) else ((laws_eqIntS_L2 n n x0 x1 0).bind fun o => match o with | .inl _ => (laws_eqIntS_J1 n) | .inr r => some r))
/-- loop.example/g00326/laws.eqIntS -/
theorem laws_eqIntS (n : Nat) (x0 : (List Int)) (x1 : (List Int)) (r : Bool) (H : laws_eqIntSF n x0 x1 = some r) : LCall Try.prog 21 [.val false [.sl false 1 (CV.frzEs (x0.map intRow))], .val false [.sl false 1 (CV.frzEs (x1.map intRow))]] [.val false [.lit (.bool r)]] [] := by
  refine LCall.of_body tOk Try.func21 rfl (c := (.seq (.region 0 (rg Try.f21 0) false) (.seq (.seq (.region 1 (rg Try.f21 1) false) (.cond (.tmp 10) (.seq (.region 2 (rg Try.f21 2) false) .ret) .skip)) (.seq (.seq (.region 3 (rg Try.f21 3) false) (.block 0 (.loop (.seq (.seq (.region 4 (rg Try.f21 4) false) (.cond (.tmp 14) .skip (.exit 0))) (.seq (.block 1 (.seq (.region 6 (rg Try.f21 6) true) (.cond (.tmp 25) (.seq (.region 7 (rg Try.f21 7) false) .ret) .skip))) (.region 5 (rg Try.f21 5) false)))))) (.seq (.region 8 (rg Try.f21 8) false) .ret))))) kr (Nat.le_of_ble_eq_true kr) 0 (rs := [.tmp 4]) rfl [] .nil [(false, [.lit (.bool r)])] [] [] fun cx => ?_
  show Tr _ _ _ ⟨26, 0, [sC 0 (cF 1 x0 intRow), sC 1 (cF 1 x1 intRow)], []⟩ _
  unfold laws_eqIntSF at H
  refine Tr.rs ?_
  refine LAt.runU tOk 1 kr ?_
  refine LAt.doneM 19 0 kr ?_
  refine Tr.seq ?_
  refine Tr.rs ?_
  refine LAt.runU tOk 1 kr ?_
  refine LAt.lenE tOk (t := 27) (ty := 3) (e := 3) (x := (.tmp 6)) (d := 7) (g := none) ⟨(.slot 6), [], 0, false, 1, (CV.frzEs (x0.map intRow))⟩ (x0).length _ kr kr kr kr kr (frz_len _ _) rfl ?_
  refine LAt.runU tOk 1 kr ?_
  refine LAt.lenE tOk (t := 27) (ty := 3) (e := 3) (x := (.tmp 8)) (d := 9) (g := none) ⟨(.slot 8), [], 0, false, 1, (CV.frzEs (x1.map intRow))⟩ (x1).length _ kr kr kr kr kr (frz_len _ _) rfl ?_
  refine LAt.runU tOk 1 kr ?_
  refine LAt.doneM 1043 0 kr ?_
  refine Tr.to ⟨26, 0, [sB 10 ((x0.length : Int) != (x1.length : Int)), sB 4 false, sC 0 (cF 1 x0 intRow), sC 1 (cF 1 x1 intRow)], []⟩ kr ?_
  cases h1 : ((x0.length : Int) != (x1.length : Int))
  · have H := bifF h1 H
    refine Tr.cond (b := false) kr (fun h => nomatch h) (fun _ => ?_)
    refine Tr.skip ?_
    show Tr _ _ _ _ _
    refine Tr.seq ?_
    refine Tr.rs ?_
    refine LAt.runU tOk 1 kr ?_
    refine LAt.doneM 51 0 kr ?_
    obtain ⟨o2, eo2, Ho2⟩ := bind_some H
    clear H
    refine Tr.mid (ι := Unit) (fun v => ⟨26, 0, [sB 4 false], []⟩) (fun v => laws_eqIntS_J1 n = some r) ?_ ?_
    · refine Tr.block ?_
      refine Tr.loop (ι := Nat × (Int)) (fun v => ⟨26, 0, [sI 5 v.2, sB 4 false, sC 0 (cF 1 x0 intRow), sC 1 (cF 1 x1 intRow)], []⟩) (fun v => laws_eqIntS_L2 n v.1 x0 x1 v.2 = some o2) (fun v => v.1) (n, 0) eo2 (St.sub_of [5, 4, 0, 1] [] kr) ?_
      rintro ⟨mo2, y1⟩ H
      have H : laws_eqIntS_L2 n mo2 x0 x1 y1 = some o2 := H
      obtain _ | mo2 := mo2
      · cases (show (none : Option _) = some o2 from H)
      · rw [laws_eqIntS_L2] at H
        refine Tr.seq ?_
        refine Tr.rs ?_
        refine LAt.runU tOk 2 kr ?_
        refine LAt.lenE tOk (t := 27) (ty := 3) (e := 3) (x := (.tmp 12)) (d := 13) (g := none) ⟨(.slot 12), [], 0, false, 1, (CV.frzEs (x0.map intRow))⟩ (x0).length _ kr kr kr kr kr (frz_len _ _) rfl ?_
        refine LAt.runU tOk 1 kr ?_
        refine LAt.doneM 30771 0 kr ?_
        refine Tr.to ⟨26, 0, [sB 14 (decide (y1 < (x0.length : Int))), sI 13 (x0.length : Int), sC 12 (cF 1 x0 intRow), sI 11 y1, sI 5 y1, sB 4 false, sC 0 (cF 1 x0 intRow), sC 1 (cF 1 x1 intRow)], []⟩ kr ?_
        cases h2 : (decide (y1 < (x0.length : Int)))
        · have H := bifF h2 H
          refine Tr.cond (b := false) kr (fun h => nomatch h) (fun _ => ?_)
          refine Tr.exit ?_
          refine And.intro (fun _ => ?_) (fun h => absurd rfl h)
          have H := Option.some.inj H
          subst H
          have H := Ho2
          dsimp only at H
          exact Exists.intro () (And.intro H (St.sub_of [4] [] kr))
        · have H := bifT h2 H
          refine Tr.cond (b := true) kr (fun _ => ?_) (fun h => nomatch h)
          refine Tr.skip ?_
          show Tr _ _ _ _ _
          refine Tr.seq ?_
          refine Tr.block ?_
          obtain ⟨v3, ev3, H⟩ := bind_some H
          obtain ⟨v4, ev4, H⟩ := bind_some H
          refine Tr.draws mixed 9 kr ⟨26, 0, [sB 25 (v3 != v4), sI 24 v4, (23, .fad ([cI v4])), sI 22 y1, sC 21 (cF 1 x1 intRow), sI 20 v3, (19, .fad ([cI v3])), sI 18 y1, sC 17 (cF 1 x0 intRow), sB 14 true, sI 13 (x0.length : Int), sC 12 (cF 1 x0 intRow), sI 11 y1, sI 5 y1, sB 4 false, sC 0 (cF 1 x0 intRow), sC 1 (cF 1 x1 intRow)], []⟩ (fun cx => ?_) ?_
          · refine AT.runU tOk [(0, []), (1, [])] 7 [] [1, 0] rfl kr (fun cx => ?_)
            refine AT.indexF tOk 2 (t := 27) (ty := 0) (x := (.tmp 17)) (y := (.tmp 18)) (d := 19) (g := none) ⟨(.slot 17), [], 0, false, 1, (CV.frzEs (x0.map intRow))⟩ y1 [cI v3] _ kr kr kr kr kr kr rfl (idx_isF ev3) rfl (fun cx => ?_)
            refine AT.runU tOk [(3, []), (4, []), (5, [])] 3 [] [5, 4, 3, 2, 1, 0] rfl kr (fun cx => ?_)
            refine AT.indexF tOk 6 (t := 27) (ty := 0) (x := (.tmp 21)) (y := (.tmp 22)) (d := 23) (g := none) ⟨(.slot 21), [], 0, false, 1, (CV.frzEs (x1.map intRow))⟩ y1 [cI v4] _ kr kr kr kr kr kr rfl (idx_isF ev4) rfl (fun cx => ?_)
            refine AT.runU tOk [(7, []), (8, [])] 0 [] [8, 7, 6, 5, 4, 3, 2, 1, 0] rfl kr (fun cx => ?_)
            exact AT.done [25, 24, 23, 22, 21, 20, 19, 18, 17, 14, 13, 12, 11, 5, 4, 0, 1] [] _ kr kr rfl
          · refine Tr.to ⟨26, 0, [sB 25 (v3 != v4), sI 24 v4, (23, .fad ([cI v4])), sI 22 y1, sC 21 (cF 1 x1 intRow), sI 20 v3, (19, .fad ([cI v3])), sI 18 y1, sC 17 (cF 1 x0 intRow), sB 14 true, sI 13 (x0.length : Int), sC 12 (cF 1 x0 intRow), sI 11 y1, sI 5 y1, sB 4 false, sC 0 (cF 1 x0 intRow), sC 1 (cF 1 x1 intRow)], []⟩ kr ?_
            cases h3 : (v3 != v4)
            · have H := bifF h3 H
              refine Tr.cond (b := false) kr (fun h => nomatch h) (fun _ => ?_)
              refine Tr.skip ?_
              show Tr _ _ _ _ _
              refine Tr.at ?_
              refine LAt.runU tOk 3 kr ?_
              refine LAt.doneM 67106867 0 kr ?_
              exact Exists.intro (mo2, (IntKind.wrap .i64 (y1 + 1))) (And.intro H (And.intro (Nat.lt_succ_self mo2) (St.sub_of [5, 4, 0, 1] [] kr)))
            · have H := bifT h3 H
              refine Tr.cond (b := true) kr (fun _ => ?_) (fun h => nomatch h)
              refine Tr.rs ?_
              refine LAt.runU tOk 1 kr ?_
              refine LAt.doneM 67008563 0 kr ?_
              refine Tr.ret ?_
              have H := Option.some.inj H
              subst H
              have H := Ho2
              dsimp only at H
              have H := Option.some.inj H
              subst H
              exact Fin.of _ [(false, [cB false])] kr rfl rfl
    · rintro _ H
      have H : (laws_eqIntS_J1 n) = some r := H
      unfold laws_eqIntS_J1 at H
      show Tr _ _ _ _ _
      refine Tr.rs ?_
      refine LAt.runU tOk 1 kr ?_
      refine LAt.doneM 16 0 kr ?_
      refine Tr.ret ?_
      have H := Option.some.inj H
      subst H
      exact Fin.of _ [(false, [cB true])] kr rfl rfl
  · have H := bifT h1 H
    refine Tr.cond (b := true) kr (fun _ => ?_) (fun h => nomatch h)
    refine Tr.rs ?_
    refine LAt.runU tOk 1 kr ?_
    refine LAt.doneM 19 0 kr ?_
    refine Tr.ret ?_
    have H := Option.some.inj H
    subst H
    exact Fin.of _ [(false, [cB false])] kr rfl rfl

def laws_eqVtabF (n : Nat) (x0 : Vtab) (x1 : Vtab) : Option (Bool) :=
  ((laws_eqVrowSF n x0.Rows x1.Rows).bind fun r1 => (bif (!r1) then (some false) else ((laws_eqIntSF n x0.Pvid x1.Pvid).bind fun r2 => (bif (!r2) then (some false) else (some true)))))
/-- loop.example/g00326/laws.eqVtab -/
theorem laws_eqVtab (n : Nat) (x0 : Vtab) (x1 : Vtab) (r : Bool) (H : laws_eqVtabF n x0 x1 = some r) : LCall Try.prog 108 [.val true (CV.frzRow (Vtab.row x0)), .val true (CV.frzRow (Vtab.row x1))] [.val false [.lit (.bool r)]] [] := by
  refine LCall.of_body tOk Try.func108 rfl (c := (.seq (.region 0 (rg Try.f108 0) false) (.seq (.seq (.region 1 (rg Try.f108 1) false) (.cond (.tmp 10) (.seq (.region 2 (rg Try.f108 2) false) .ret) .skip)) (.seq (.seq (.region 3 (rg Try.f108 3) false) (.cond (.tmp 16) (.seq (.region 4 (rg Try.f108 4) false) .ret) .skip)) (.seq (.region 5 (rg Try.f108 5) false) .ret))))) kr (Nat.le_of_ble_eq_true kr) 0 (rs := [.tmp 4]) rfl [] .nil [(false, [.lit (.bool r)])] [] [] fun cx => ?_
  show Tr _ _ _ ⟨17, 0, [sV 0 (CV.frzRow (Vtab.row x0)), sV 1 (CV.frzRow (Vtab.row x1))], []⟩ _
  unfold laws_eqVtabF at H
  refine Tr.rs ?_
  refine LAt.runU tOk 3 kr ?_
  refine LAt.doneM 28 12 kr ?_
  refine Tr.seq ?_
  refine Tr.rs ?_
  refine LAt.runU tOk 4 kr ?_
  obtain ⟨r1, er1, H⟩ := bind_some H
  refine LAt.callU tOk [.rd, .rd] (f := 163) (av := #[.tmp 6, .tmp 8]) (ats := #[57, 57]) (d := (some 9)) (ty := 4) (g := none) kr kr kr [] (laws_eqVrowS n x0.Rows x1.Rows r1 er1) kr (.inl rfl) ?_
  refine LAt.runU tOk 1 kr ?_
  refine LAt.doneM 1052 12 kr ?_
  refine Tr.to ⟨17, 0, [sB 10 (!r1), sB 4 false, sA 3 3 2 0, sA 2 2 2 0], [(3, (CV.frzRow (Vtab.row x1))), (2, (CV.frzRow (Vtab.row x0)))]⟩ kr ?_
  cases h1 : (!r1)
  · have H := bifF h1 H
    refine Tr.cond (b := false) kr (fun h => nomatch h) (fun _ => ?_)
    refine Tr.skip ?_
    show Tr _ _ _ _ _
    refine Tr.seq ?_
    refine Tr.rs ?_
    refine LAt.runU tOk 4 kr ?_
    obtain ⟨r2, er2, H⟩ := bind_some H
    refine LAt.callU tOk [.rd, .rd] (f := 21) (av := #[.tmp 12, .tmp 14]) (ats := #[27, 27]) (d := (some 15)) (ty := 4) (g := none) kr kr kr [] (laws_eqIntS n x0.Pvid x1.Pvid r2 er2) kr (.inl rfl) ?_
    refine LAt.runU tOk 1 kr ?_
    refine LAt.doneM 65552 0 kr ?_
    refine Tr.to ⟨17, 0, [sB 16 (!r2), sB 4 false], []⟩ kr ?_
    cases h2 : (!r2)
    · have H := bifF h2 H
      refine Tr.cond (b := false) kr (fun h => nomatch h) (fun _ => ?_)
      refine Tr.skip ?_
      show Tr _ _ _ _ _
      refine Tr.rs ?_
      refine LAt.runU tOk 1 kr ?_
      refine LAt.doneM 16 0 kr ?_
      refine Tr.ret ?_
      have H := Option.some.inj H
      subst H
      exact Fin.of _ [(false, [cB true])] kr rfl rfl
    · have H := bifT h2 H
      refine Tr.cond (b := true) kr (fun _ => ?_) (fun h => nomatch h)
      refine Tr.rs ?_
      refine LAt.runU tOk 1 kr ?_
      refine LAt.doneM 16 0 kr ?_
      refine Tr.ret ?_
      have H := Option.some.inj H
      subst H
      exact Fin.of _ [(false, [cB false])] kr rfl rfl
  · have H := bifT h1 H
    refine Tr.cond (b := true) kr (fun _ => ?_) (fun h => nomatch h)
    refine Tr.rs ?_
    refine LAt.runU tOk 1 kr ?_
    refine LAt.doneM 28 12 kr ?_
    refine Tr.ret ?_
    have H := Option.some.inj H
    subst H
    exact Fin.of _ [(false, [cB false])] kr rfl rfl
end Go.Proofs.Ytjdedhklbdkeoaa.Tw
