/- Functions of the program, over trees. -/
import Derived.Test.YtjdedhklbdkeoaaProg
import Derived.Test.YtjdedhklbdkeoaaTlRule
import Derived.Test.YtjdedhklbdkeoaaTlU7
import Derived.Test.YtjdedhklbdkeoaaTwMN1
import Derived.WalkKit
set_option linter.unusedVariables false
set_option linter.unusedSimpArgs false
set_option maxRecDepth 100000
set_option maxHeartbeats 1000000
namespace Go.Proofs.Ytjdedhklbdkeoaa.Tw
open Go Go.TL Go.Proofs


def impl_MibList_J4 (n : Nat) (y14 : (List Bind)) : Option ((List Bind)) :=
  (some y14)
def impl_MibList_L5 (n : Nat) : Nat → Bridge → Int → (List Bind) → Option (((List Bind)) ⊕ ((List Bind)))
  | 0, _, _, _ => none
  | mo15 + 1, x0, y12, y13 => (bif (decide (y12 < (x0.F.length : Int))) then ((idx x0.F y12).bind fun v16 => ((impl_numberF n (IntKind.wrap .i64 (v16.Port + 1))).bind fun r17 => ((impl_thingF n r17 [4, 1, v16.Tag, v16.Mac]).bind fun r18 => (bif (decide (y13.length + [r18].length ≤ 268435456)) then (impl_MibList_L5 n mo15 x0 (IntKind.wrap .i64 (y12 + 1)) (y13 ++ [r18])) else none)))) else (some (Sum.inl y13)))
def impl_MibList_J3 (n : Nat) (x0 : Bridge) (y11 : (List Bind)) : Option ((List Bind)) :=
  ((impl_MibList_L5 n n x0 0 y11).bind fun o => match o with | .inl y14 => (impl_MibList_J4 n y14) | .inr r => some r)
def impl_MibList_J7 (n : Nat) (k : (Int × (List Bind) → Option (((List Bind)) ⊕ ((List Bind))))) (y9 : Int) (y23 : Int) (y24 : (List Bind)) : Option (((List Bind)) ⊕ ((List Bind))) :=
  (k ((IntKind.wrap .i64 (y9 + 1)), y24))
def impl_MibList_L8 (n : Nat) : Nat → Bridge → Int → Int → (List Bind) → Option ((Int × (List Bind)) ⊕ ((List Bind)))
  | 0, _, _, _, _ => none
  | mo25 + 1, x0, y9, y21, y22 => (bif (decide (y21 < (x0.V.Rows.length : Int))) then ((idx x0.V.Rows y21).bind fun v26 => ((idx [1, v26.Members, v26.Bare] (IntKind.wrap .i64 (y9 - 1))).bind fun v27 => ((impl_numberF n v27).bind fun r28 => ((impl_thingF n r28 [3, y9, v26.Id]).bind fun r29 => (bif (decide (y22.length + [r29].length ≤ 268435456)) then (impl_MibList_L8 n mo25 x0 y9 (IntKind.wrap .i64 (y21 + 1)) (y22 ++ [r29])) else none))))) else (some (Sum.inl (y21, y22))))
def impl_MibList_L6 (n : Nat) : Nat → Bridge → Int → (List Bind) → Option (((List Bind)) ⊕ ((List Bind)))
  | 0, _, _, _ => none
  | mo20 + 1, x0, y9, y10 => (bif (decide (y9 ≤ 3)) then ((impl_MibList_L8 n n x0 y9 0 y10).bind fun o => match o with | .inl (y23, y24) => (impl_MibList_J7 n (fun v => impl_MibList_L6 n mo20 x0 v.1 v.2) y9 y23 y24) | .inr r => some (Sum.inr r)) else (some (Sum.inl y10)))
def impl_MibList_J2 (n : Nat) (x0 : Bridge) (y8 : (List Bind)) : Option ((List Bind)) :=
  ((impl_MibList_L6 n n x0 1 y8).bind fun o => match o with | .inl y11 => (impl_MibList_J3 n x0 y11) | .inr r => some r)
def impl_MibList_J10 (n : Nat) (k : (Int × (List Bind) → Option (((List Bind)) ⊕ ((List Bind))))) (y6 : Int) (y34 : Int) (y35 : (List Bind)) : Option (((List Bind)) ⊕ ((List Bind))) :=
  (k ((IntKind.wrap .i64 (y6 + 1)), y35))
def impl_MibList_L11 (n : Nat) : Nat → Bridge → Int → Int → (List Bind) → Option ((Int × (List Bind)) ⊕ ((List Bind)))
  | 0, _, _, _, _ => none
  | mo36 + 1, x0, y6, y32, y33 => (bif (decide (y32 < (x0.Ports.length : Int))) then ((impl_portThingF n x0 y6 y32).bind fun r37 => ((impl_numberF n r37).bind fun r38 => ((impl_thingF n r38 [2, y6, (IntKind.wrap .i64 (y32 + 1))]).bind fun r39 => (bif (decide (y33.length + [r39].length ≤ 268435456)) then (impl_MibList_L11 n mo36 x0 y6 (IntKind.wrap .i64 (y32 + 1)) (y33 ++ [r39])) else none)))) else (some (Sum.inl (y32, y33))))
def impl_MibList_L9 (n : Nat) : Nat → Bridge → Int → (List Bind) → Option (((List Bind)) ⊕ ((List Bind)))
  | 0, _, _, _ => none
  | mo31 + 1, x0, y6, y7 => (bif (decide (y6 ≤ 4)) then ((impl_MibList_L11 n n x0 y6 0 y7).bind fun o => match o with | .inl (y34, y35) => (impl_MibList_J10 n (fun v => impl_MibList_L9 n mo31 x0 v.1 v.2) y6 y34 y35) | .inr r => some (Sum.inr r)) else (some (Sum.inl y7)))
def impl_MibList_J1 (n : Nat) (x0 : Bridge) (y5 : (List Bind)) : Option ((List Bind)) :=
  ((impl_MibList_L9 n n x0 1 y5).bind fun o => match o with | .inl y8 => (impl_MibList_J2 n x0 y8) | .inr r => some r)
def impl_MibList_L12 (n : Nat) : Nat → Bridge → Int → (List Bind) → Option (((List Bind)) ⊕ ((List Bind)))
  | 0, _, _, _ => none
  | mo41 + 1, x0, y3, y4 => (bif (decide (y3 < ([x0.Ticks, x0.Parse, x0.Word, x0.Drops].length : Int))) then ((idx [x0.Ticks, x0.Parse, x0.Word, x0.Drops] y3).bind fun v42 => ((impl_numberF n v42).bind fun r43 => ((impl_thingF n r43 [1, (IntKind.wrap .i64 (y3 + 2))]).bind fun r44 => (bif (decide (y4.length + [r44].length ≤ 268435456)) then (impl_MibList_L12 n mo41 x0 (IntKind.wrap .i64 (y3 + 1)) (y4 ++ [r44])) else none)))) else (some (Sum.inl y4)))
def impl_MibListF (n : Nat) (x0 : Bridge) : Option ((List Bind)) :=
  ((impl_BridgeOkF n x0).bind fun r1 => (bif (!r1) then (some ([] : List Bind)) else ((impl_thingF n (⟨4, 0, x0.Name, ([] : List Int)⟩ : Val) [1, 1]).bind fun r2 => ((impl_MibList_L12 n n x0 0 [r2]).bind fun o => match o with | .inl y5 => (impl_MibList_J1 n x0 y5) | .inr r => some r))))
/-- loop.example/g00326/impl.MibList -/
theorem impl_MibList (n : Nat) (x0 : Bridge) (r : (List Bind)) (H : impl_MibListF n x0 = some r) : LCall Try.prog 53 [.val true (CV.frzRow (Bridge.row x0))] [.val false [.sl true 5 (r.map Bind.row)]] [] := by
  refine LCall.of_body tOk Try.func53 rfl (c := (.seq (Rg Try.f53 0) (.seq (.seq (Rg Try.f53 1) (.cond (.tmp 15) (.seq (Rg Try.f53 2) .ret) .skip)) (.seq (Rg Try.f53 3) (.seq (.seq (Rg Try.f53 4) (.block 0 (.loop (.seq (Rg Try.f53 5) (.seq (.cond (.tmp 33) .skip (.exit 0)) (.seq (.block 1 (.seq (Rg Try.f53 6) (Rg Try.f53 7))) (Rg Try.f53 8))))))) (.seq (.seq (Rg Try.f53 9) (.block 2 (.loop (.seq (.seq (Rg Try.f53 10) (.cond (.tmp 48) .skip (.exit 2))) (.seq (.block 3 (.seq (Rg Try.f53 12) (.block 4 (.loop (.seq (Rg Try.f53 13) (.seq (.cond (.tmp 55) .skip (.exit 4)) (.seq (.block 5 (.seq (Rg Try.f53 14) (Rg Try.f53 15))) (Rg Try.f53 16)))))))) (Rg Try.f53 11)))))) (.seq (.seq (Rg Try.f53 17) (.block 6 (.loop (.seq (.seq (Rg Try.f53 18) (.cond (.tmp 72) .skip (.exit 6))) (.seq (.block 7 (.seq (Rg Try.f53 20) (.block 8 (.loop (.seq (Rg Try.f53 21) (.seq (.cond (.tmp 80) .skip (.exit 8)) (.seq (.block 9 (.seq (Rg Try.f53 22) (Rd Try.f53 23))) (Rg Try.f53 24)))))))) (Rg Try.f53 19)))))) (.seq (.seq (Rg Try.f53 25) (.block 10 (.loop (.seq (Rg Try.f53 26) (.seq (.cond (.tmp 106) .skip (.exit 10)) (.seq (.block 11 (.seq (Rg Try.f53 27) (Rd Try.f53 28))) (Rg Try.f53 29))))))) (.seq (Rg Try.f53 30) .ret))))))))) kr (Nat.le_of_ble_eq_true kr) 0 (rs := [.tmp 2]) rfl [] .nil [(false, [.sl true 5 (r.map Bind.row)])] [] [] fun cx => ?_
  show Tr _ _ _ ⟨124, 0, [sV 0 (CV.frzRow (Bridge.row x0))], []⟩ _
  unfold impl_MibListF at H
  refine Tr.rgn tOk 2 6 2 kr kr ?_
  refine Tr.seq ?_
  refine Tr.rs ?_
  refine LAt.runU tOk 1 kr ?_
  obtain ⟨r1, er1, H⟩ := bind_some H
  refine LAt.callV tOk [.rd] [] (impl_BridgeOk n x0 r1 er1) kr kr kr kr (.inl rfl) ?_
  refine LAt.runU tOk 1 kr ?_
  refine LAt.doneM 32774 2 kr ?_
  cases h1 : (!r1)
  · have H := bifF h1 H
    refine Tr.cF h1 kr ?_
    refine Tr.skip ?_
    show Tr _ _ _ _ _
    refine Tr.rs ?_
    refine LAt.runU tOk 4 kr ?_
    obtain ⟨r2, er2, H⟩ := bind_some H
    refine LAt.callV tOk [.own, .rd] [] (impl_thing n (⟨4, 0, x0.Name, ([] : List Int)⟩ : Val) [1, 1] r2 er2) kr kr kr kr (.inl rfl) ?_
    refine LAt.runU tOk 1 kr ?_
    refine LAt.moveU (T := lk tab) (ty := 81) (x := (.tmp 21)) (d := 3) (g := none) false [cL 5 [r2] Bind.row] kr kr kr kr kr ?_
    refine LAt.doneM 14 2 kr ?_
    refine Tr.seq ?_
    refine Tr.rs ?_
    refine LAt.runU tOk 9 kr ?_
    refine LAt.lenE tOk (t := 27) (ty := 3) (e := 3) (x := (.tmp 30)) (d := 31) (g := none) ⟨(.slot 30), [], 0, true, 1, ([x0.Ticks, x0.Parse, x0.Word, x0.Drops].map intRow)⟩ ([x0.Ticks, x0.Parse, x0.Word, x0.Drops]).length _ kr kr kr kr kr (map_len _ _) rfl ?_
    refine LAt.runU tOk 1 kr ?_
    refine LAt.doneM 7516192782 2 kr ?_
    obtain ⟨o41, eo41, Ho41⟩ := bind_some H
    clear H
    refine Tr.mid (ι := (List Bind)) (fun v => ⟨124, 0, [sC 3 (cL 5 v Bind.row), sC 2 (cL 5 ([] : List Bind) Bind.row), sA 1 1 11 0], [(1, (CV.frzRow (Bridge.row x0)))]⟩) (fun v => impl_MibList_J1 n x0 v = some r) ?_ ?_
    · refine Tr.block ?_
      refine Tr.loop (ι := Nat × (Int × (List Bind))) (fun v => ⟨124, 0, [sI 32 v.2.1, sI 31 ([x0.Ticks, x0.Parse, x0.Word, x0.Drops].length : Int), sC 30 (cL 1 [x0.Ticks, x0.Parse, x0.Word, x0.Drops] intRow), sC 3 (cL 5 v.2.2 Bind.row), sC 2 (cL 5 ([] : List Bind) Bind.row), sA 1 1 11 0], [(1, (CV.frzRow (Bridge.row x0)))]⟩) (fun v => impl_MibList_L12 n v.1 x0 v.2.1 v.2.2 = some o41) (fun v => v.1) (n, (0, [r2])) eo41 (St.sub_of [32, 31, 30, 3, 2, 1] [1] kr) ?_
      rintro ⟨mo41, y3, y4⟩ H
      have H : impl_MibList_L12 n mo41 x0 y3 y4 = some o41 := H
      obtain _ | mo41 := mo41
      · cases (show (none : Option _) = some o41 from H)
      rw [impl_MibList_L12] at H
      refine Tr.rgn tOk 1 16106127374 2 kr kr ?_
      refine Tr.seq ?_
      cases h7 : (decide (y3 < ([x0.Ticks, x0.Parse, x0.Word, x0.Drops].length : Int)))
      · have H := bifF h7 H
        refine Tr.cF h7 kr ?_
        refine Tr.exit ?_
        refine And.intro (fun _ => ?_) (fun h => absurd rfl h)
        have H := Option.some.inj H
        subst H
        have H := Ho41
        dsimp only at H
        exact Exists.intro y4 (And.intro H (St.sub_of [3, 2, 1] [1] kr))
      have H := bifT h7 H
      refine Tr.cT h7 kr ?_
      refine Tr.skip ?_
      show Tr _ _ _ _ _
      refine Tr.seq ?_
      refine Tr.block ?_
      refine Tr.rs ?_
      refine LAt.runU tOk 1 kr ?_
      obtain ⟨v42, ev42, H⟩ := bind_some H
      refine LAt.indexO tOk (t := 27) (ty := 0) (x := (.tmp 30)) (y := (.tmp 32)) (d := 35) (g := none) ⟨(.slot 30), [], 0, true, 1, ([x0.Ticks, x0.Parse, x0.Word, x0.Drops].map intRow)⟩ y3 (y3.toNat) (intRow v42) _ kr kr kr kr rfl kr (idx_isE ev42) rfl rfl ?_
      refine LAt.loadE tOk (t := 3) (ty := 3) (x := (.tmp 35)) (d := 36) (g := none) ⟨.int .i64, 1, 8, [.lit (.int .i64 0)]⟩ (.slot 30) [(0, (y3.toNat))] 1 0 [cL 1 [x0.Ticks, x0.Parse, x0.Word, x0.Drops] intRow] (intRow v42) _ kr kr kr kr kr (getQ_elem rfl (idx_get ev42).2) rfl (by intro h; cases h) kr kr rfl ?_
      refine LAt.runU tOk 2 kr ?_
      refine LAt.doneM 136365211710 2 kr ?_
      refine Tr.at ?_
      refine LAt.runU tOk 2 kr ?_
      obtain ⟨r43, er43, H⟩ := bind_some H
      refine LAt.callV tOk [.rd] [] (impl_number n v42 r43 er43) kr kr kr kr (.inl rfl) ?_
      refine LAt.runU tOk 3 kr ?_
      obtain ⟨r44, er44, H⟩ := bind_some H
      refine LAt.callV tOk [.own, .rd] [] (impl_thing n r43 [1, (IntKind.wrap .i64 (y3 + 2))] r44 er44) kr kr kr kr (.inl rfl) ?_
      refine LAt.runU tOk 1 kr ?_
      obtain ⟨hg45, H⟩ := guard_some H
      refine LAt.appMU tOk (t := 81) (ty := 81) (e := 86) (x := (.tmp 37)) (y := (.tmp 44)) (d := 45) (g := none) ⟨.st [(0, 1, 27), (1, 4, 76)], 5, 80, [.sl true 1 [], .lit (.int .i64 0), .lit (.int .i64 0), .lit (.string ⟨#[]⟩), .sl true 1 []]⟩ Bind.row y4 [r44] kr kr kr kr kr kr kr kr kr kr hg45 ?_
      refine LAt.moveU (T := lk tab) (ty := 81) (x := (.tmp 45)) (d := 3) (g := none) false [cL 5 (y4 ++ [r44]) Bind.row] kr kr kr kr kr ?_
      refine LAt.doneM 8107824513086 2 kr ?_
      show Tr _ _ _ _ _
      refine Tr.rgE tOk 2 78476568690750 2 kr kr ?_
      exact Exists.intro (mo41, ((IntKind.wrap .i64 (y3 + 1)), (y4 ++ [r44]))) (And.intro H (And.intro (Nat.lt_succ_self mo41) (St.sub_of [32, 31, 30, 3, 2, 1] [1] kr)))
    rintro y5 H
    have H : (impl_MibList_J1 n x0 y5) = some r := H
    unfold impl_MibList_J1 at H
    show Tr _ _ _ _ _
    refine Tr.seq ?_
    refine Tr.rgn tOk 1 78 2 kr kr ?_
    obtain ⟨o31, eo31, Ho31⟩ := bind_some H
    clear H
    refine Tr.mid (ι := (List Bind)) (fun v => ⟨124, 0, [sC 3 (cL 5 v Bind.row), sC 2 (cL 5 ([] : List Bind) Bind.row), sA 1 1 11 0], [(1, (CV.frzRow (Bridge.row x0)))]⟩) (fun v => impl_MibList_J2 n x0 v = some r) ?_ ?_
    · refine Tr.block ?_
      refine Tr.loop (ι := Nat × (Int × (List Bind))) (fun v => ⟨124, 0, [sI 6 v.2.1, sC 3 (cL 5 v.2.2 Bind.row), sC 2 (cL 5 ([] : List Bind) Bind.row), sA 1 1 11 0], [(1, (CV.frzRow (Bridge.row x0)))]⟩) (fun v => impl_MibList_L9 n v.1 x0 v.2.1 v.2.2 = some o31) (fun v => v.1) (n, (1, y5)) eo31 (St.sub_of [6, 3, 2, 1] [1] kr) ?_
      rintro ⟨mo31, y6, y7⟩ H
      have H : impl_MibList_L9 n mo31 x0 y6 y7 = some o31 := H
      obtain _ | mo31 := mo31
      · cases (show (none : Option _) = some o31 from H)
      rw [impl_MibList_L9] at H
      refine Tr.seq ?_
      refine Tr.rgn tOk 2 422212465066062 2 kr kr ?_
      cases h5 : (decide (y6 ≤ 4))
      · have H := bifF h5 H
        refine Tr.cF h5 kr ?_
        refine Tr.exit ?_
        refine And.intro (fun _ => ?_) (fun h => absurd rfl h)
        have H := Option.some.inj H
        subst H
        have H := Ho31
        dsimp only at H
        exact Exists.intro y7 (And.intro H (St.sub_of [3, 2, 1] [1] kr))
      have H := bifT h5 H
      refine Tr.cT h5 kr ?_
      refine Tr.skip ?_
      show Tr _ _ _ _ _
      refine Tr.seq ?_
      refine Tr.block ?_
      refine Tr.rs ?_
      refine LAt.runU tOk 2 kr ?_
      refine LAt.lenE tOk (t := 55) (ty := 3) (e := 114) (x := (.tmp 52)) (d := 53) (g := none) ⟨(.slot 52), [], 0, false, 8, (CV.frzEs (x0.Ports.map Pt.row))⟩ (x0.Ports).length _ kr kr kr kr kr (frz_len _ _) rfl ?_
      refine LAt.runU tOk 1 kr ?_
      refine LAt.doneM 34199209670344782 2 kr ?_
      refine Tr.to ⟨124, 0, [sI 54 0, sI 53 (x0.Ports.length : Int), sC 52 (cF 8 x0.Ports Pt.row), sA 51 1 11 2, sB 48 (decide (y6 ≤ 4)), sI 47 y6, sI 6 y6, sC 3 (cL 5 y7 Bind.row), sC 2 (cL 5 ([] : List Bind) Bind.row), sA 1 1 11 0], [(1, (CV.frzRow (Bridge.row x0)))]⟩ kr ?_
      rw [h5]
      obtain ⟨o36, eo36, Ho36⟩ := bind_some H
      clear H
      refine Tr.mid (ι := Int × (List Bind)) (fun v => ⟨124, 0, [sB 55 false, sI 54 v.1, sI 53 (x0.Ports.length : Int), sC 52 (cF 8 x0.Ports Pt.row), sA 51 1 11 2, sB 48 true, sI 47 y6, sI 6 y6, sC 3 (cL 5 v.2 Bind.row), sC 2 (cL 5 ([] : List Bind) Bind.row), sA 1 1 11 0], [(1, (CV.frzRow (Bridge.row x0)))]⟩) (fun v => impl_MibList_J10 n (fun v => impl_MibList_L9 n mo31 x0 v.1 v.2) y6 v.1 v.2 = some o31) ?_ ?_
      · refine Tr.block ?_
        refine Tr.loop (ι := Nat × (Int × (List Bind))) (fun v => ⟨124, 0, [sI 54 v.2.1, sI 53 (x0.Ports.length : Int), sC 52 (cF 8 x0.Ports Pt.row), sA 51 1 11 2, sB 48 true, sI 47 y6, sI 6 y6, sC 3 (cL 5 v.2.2 Bind.row), sC 2 (cL 5 ([] : List Bind) Bind.row), sA 1 1 11 0], [(1, (CV.frzRow (Bridge.row x0)))]⟩) (fun v => impl_MibList_L11 n v.1 x0 y6 v.2.1 v.2.2 = some o36) (fun v => v.1) (n, (0, y7)) eo36 (St.sub_of [54, 53, 52, 51, 48, 47, 6, 3, 2, 1] [1] kr) ?_
        rintro ⟨mo36, y32, y33⟩ H
        have H : impl_MibList_L11 n mo36 x0 y6 y32 y33 = some o36 := H
        obtain _ | mo36 := mo36
        · cases (show (none : Option _) = some o36 from H)
        rw [impl_MibList_L11] at H
        refine Tr.rgn tOk 1 70228006689308750 2 kr kr ?_
        refine Tr.seq ?_
        cases h6 : (decide (y32 < (x0.Ports.length : Int)))
        · have H := bifF h6 H
          refine Tr.cF h6 kr ?_
          refine Tr.exit ?_
          refine And.intro (fun _ => ?_) (fun h => absurd rfl h)
          have H := Option.some.inj H
          subst H
          have H := Ho36
          dsimp only at H
          refine Sb.to ⟨124, 0, [sB 55 (decide (y32 < (x0.Ports.length : Int))), sI 54 y32, sI 53 (x0.Ports.length : Int), sC 52 (cF 8 x0.Ports Pt.row), sA 51 1 11 2, sB 48 true, sI 47 y6, sI 6 y6, sC 3 (cL 5 y33 Bind.row), sC 2 (cL 5 ([] : List Bind) Bind.row), sA 1 1 11 0], [(1, (CV.frzRow (Bridge.row x0)))]⟩ kr ?_
          rw [h6]
          exact Exists.intro (y32, y33) (And.intro H (St.sub_of [55, 54, 53, 52, 51, 48, 47, 6, 3, 2, 1] [1] kr))
        have H := bifT h6 H
        refine Tr.cT h6 kr ?_
        refine Tr.skip ?_
        show Tr _ _ _ _ _
        refine Tr.seq ?_
        refine Tr.block ?_
        refine Tr.rgn tOk 2 142285600727236814 2 kr kr ?_
        refine Tr.at ?_
        refine LAt.runU tOk 4 kr ?_
        obtain ⟨r37, er37, H⟩ := bind_some H
        refine LAt.callV tOk [.rd, .rd, .rd] [] (impl_portThing n x0 y6 y32 r37 er37) kr kr kr kr (.inl rfl) ?_
        obtain ⟨r38, er38, H⟩ := bind_some H
        refine LAt.callV tOk [.rd] [] (impl_number n r37 r38 er38) kr kr kr kr (.inl rfl) ?_
        refine LAt.runU tOk 4 kr ?_
        obtain ⟨r39, er39, H⟩ := bind_some H
        refine LAt.callV tOk [.own, .rd] [] (impl_thing n r38 [2, y6, (IntKind.wrap .i64 (y32 + 1))] r39 er39) kr kr kr kr (.inl rfl) ?_
        refine LAt.runU tOk 1 kr ?_
        obtain ⟨hg40, H⟩ := guard_some H
        refine LAt.appMU tOk (t := 81) (ty := 81) (e := 86) (x := (.tmp 57)) (y := (.tmp 68)) (d := 69) (g := none) ⟨.st [(0, 1, 27), (1, 4, 76)], 5, 80, [.sl true 1 [], .lit (.int .i64 0), .lit (.int .i64 0), .lit (.string ⟨#[]⟩), .sl true 1 []]⟩ Bind.row y33 [r39] kr kr kr kr kr kr kr kr kr kr hg40 ?_
        refine LAt.moveU (T := lk tab) (ty := 81) (x := (.tmp 69)) (d := 3) (g := none) false [cL 5 (y33 ++ [r39]) Bind.row] kr kr kr kr kr ?_
        refine LAt.doneM 142816321795824550094 2 kr ?_
        show Tr _ _ _ _ _
        refine Tr.rgE tOk 2 1323407942513235853518 2 kr kr ?_
        exact Exists.intro (mo36, ((IntKind.wrap .i64 (y32 + 1)), (y33 ++ [r39]))) (And.intro H (And.intro (Nat.lt_succ_self mo36) (St.sub_of [54, 53, 52, 51, 48, 47, 6, 3, 2, 1] [1] kr)))
      rintro ⟨y34, y35⟩ H
      have H : (impl_MibList_J10 n (fun v => impl_MibList_L9 n mo31 x0 v.1 v.2) y6 y34 y35) = some o31 := H
      unfold impl_MibList_J10 at H
      show Tr _ _ _ _ _
      refine Tr.rgE tOk 3 71916856549572686 2 kr kr ?_
      exact Exists.intro (mo31, ((IntKind.wrap .i64 (y6 + 1)), y35)) (And.intro H (And.intro (Nat.lt_succ_self mo31) (St.sub_of [6, 3, 2, 1] [1] kr)))
    rintro y8 H
    have H : (impl_MibList_J2 n x0 y8) = some r := H
    unfold impl_MibList_J2 at H
    show Tr _ _ _ _ _
    refine Tr.seq ?_
    refine Tr.rgn tOk 1 270 2 kr kr ?_
    obtain ⟨o20, eo20, Ho20⟩ := bind_some H
    clear H
    refine Tr.mid (ι := (List Bind)) (fun v => ⟨124, 0, [sC 3 (cL 5 v Bind.row), sC 2 (cL 5 ([] : List Bind) Bind.row), sA 1 1 11 0], [(1, (CV.frzRow (Bridge.row x0)))]⟩) (fun v => impl_MibList_J3 n x0 v = some r) ?_ ?_
    · refine Tr.block ?_
      refine Tr.loop (ι := Nat × (Int × (List Bind))) (fun v => ⟨124, 0, [sI 8 v.2.1, sC 3 (cL 5 v.2.2 Bind.row), sC 2 (cL 5 ([] : List Bind) Bind.row), sA 1 1 11 0], [(1, (CV.frzRow (Bridge.row x0)))]⟩) (fun v => impl_MibList_L6 n v.1 x0 v.2.1 v.2.2 = some o20) (fun v => v.1) (n, (1, y8)) eo20 (St.sub_of [8, 3, 2, 1] [1] kr) ?_
      rintro ⟨mo20, y9, y10⟩ H
      have H : impl_MibList_L6 n mo20 x0 y9 y10 = some o20 := H
      obtain _ | mo20 := mo20
      · cases (show (none : Option _) = some o20 from H)
      rw [impl_MibList_L6] at H
      refine Tr.seq ?_
      refine Tr.rgn tOk 2 7083549724304467820814 2 kr kr ?_
      cases h3 : (decide (y9 ≤ 3))
      · have H := bifF h3 H
        refine Tr.cF h3 kr ?_
        refine Tr.exit ?_
        refine And.intro (fun _ => ?_) (fun h => absurd rfl h)
        have H := Option.some.inj H
        subst H
        have H := Ho20
        dsimp only at H
        exact Exists.intro y10 (And.intro H (St.sub_of [3, 2, 1] [1] kr))
      have H := bifT h3 H
      refine Tr.cT h3 kr ?_
      refine Tr.skip ?_
      show Tr _ _ _ _ _
      refine Tr.seq ?_
      refine Tr.block ?_
      refine Tr.rs ?_
      refine LAt.runU tOk 3 kr ?_
      refine LAt.lenE tOk (t := 57) (ty := 3) (e := 138) (x := (.tmp 77)) (d := 78) (g := none) ⟨(.slot 77), [], 0, false, 3, (CV.frzEs (x0.V.Rows.map Vrow.row))⟩ (x0.V.Rows).length _ kr kr kr kr kr (frz_len _ _) rfl ?_
      refine LAt.runU tOk 1 kr ?_
      refine LAt.doneM 1178230437475976480817422 2 kr ?_
      refine Tr.to ⟨124, 0, [sI 79 0, sI 78 (x0.V.Rows.length : Int), sC 77 (cF 3 x0.V.Rows Vrow.row), sA 76 1 11 4, sA 75 1 11 4, sB 72 (decide (y9 ≤ 3)), sI 71 y9, sI 8 y9, sC 3 (cL 5 y10 Bind.row), sC 2 (cL 5 ([] : List Bind) Bind.row), sA 1 1 11 0], [(1, (CV.frzRow (Bridge.row x0)))]⟩ kr ?_
      rw [h3]
      obtain ⟨o25, eo25, Ho25⟩ := bind_some H
      clear H
      refine Tr.mid (ι := Int × (List Bind)) (fun v => ⟨124, 0, [sB 80 false, sI 79 v.1, sI 78 (x0.V.Rows.length : Int), sC 77 (cF 3 x0.V.Rows Vrow.row), sA 76 1 11 4, sA 75 1 11 4, sB 72 true, sI 71 y9, sI 8 y9, sC 3 (cL 5 v.2 Bind.row), sC 2 (cL 5 ([] : List Bind) Bind.row), sA 1 1 11 0], [(1, (CV.frzRow (Bridge.row x0)))]⟩) (fun v => impl_MibList_J7 n (fun v => impl_MibList_L6 n mo20 x0 v.1 v.2) y9 v.1 v.2 = some o20) ?_ ?_
      · refine Tr.block ?_
        refine Tr.loop (ι := Nat × (Int × (List Bind))) (fun v => ⟨124, 0, [sI 79 v.2.1, sI 78 (x0.V.Rows.length : Int), sC 77 (cF 3 x0.V.Rows Vrow.row), sA 76 1 11 4, sA 75 1 11 4, sB 72 true, sI 71 y9, sI 8 y9, sC 3 (cL 5 v.2.2 Bind.row), sC 2 (cL 5 ([] : List Bind) Bind.row), sA 1 1 11 0], [(1, (CV.frzRow (Bridge.row x0)))]⟩) (fun v => impl_MibList_L8 n v.1 x0 y9 v.2.1 v.2.2 = some o25) (fun v => v.1) (n, (0, y10)) eo25 (St.sub_of [79, 78, 77, 76, 75, 72, 71, 8, 3, 2, 1] [1] kr) ?_
        rintro ⟨mo25, y21, y22⟩ H
        have H : impl_MibList_L8 n mo25 x0 y9 y21 y22 = some o25 := H
        obtain _ | mo25 := mo25
        · cases (show (none : Option _) = some o25 from H)
        rw [impl_MibList_L8] at H
        refine Tr.rgn tOk 1 2387156257090605655523598 2 kr kr ?_
        refine Tr.seq ?_
        cases h4 : (decide (y21 < (x0.V.Rows.length : Int)))
        · have H := bifF h4 H
          refine Tr.cF h4 kr ?_
          refine Tr.exit ?_
          refine And.intro (fun _ => ?_) (fun h => absurd rfl h)
          have H := Option.some.inj H
          subst H
          have H := Ho25
          dsimp only at H
          refine Sb.to ⟨124, 0, [sB 80 (decide (y21 < (x0.V.Rows.length : Int))), sI 79 y21, sI 78 (x0.V.Rows.length : Int), sC 77 (cF 3 x0.V.Rows Vrow.row), sA 76 1 11 4, sA 75 1 11 4, sB 72 true, sI 71 y9, sI 8 y9, sC 3 (cL 5 y22 Bind.row), sC 2 (cL 5 ([] : List Bind) Bind.row), sA 1 1 11 0], [(1, (CV.frzRow (Bridge.row x0)))]⟩ kr ?_
          rw [h4]
          exact Exists.intro (y21, y22) (And.intro H (St.sub_of [80, 79, 78, 77, 76, 75, 72, 71, 8, 3, 2, 1] [1] kr))
        have H := bifT h4 H
        refine Tr.cT h4 kr ?_
        refine Tr.skip ?_
        show Tr _ _ _ _ _
        refine Tr.seq ?_
        refine Tr.block ?_
        refine Tr.rs ?_
        obtain ⟨v26, ev26, H⟩ := bind_some H
        refine LAt.indexF tOk (t := 57) (ty := 0) (x := (.tmp 77)) (y := (.tmp 79)) (d := 81) (g := none) ⟨(.slot 77), [], 0, false, 3, (CV.frzEs (x0.V.Rows.map Vrow.row))⟩ y21 (Vrow.row v26) _ kr kr kr kr rfl (idx_isF ev26) rfl ?_
        refine LAt.runU tOk 3 kr ?_
        refine LAt.doneM 9640711174778380703761678 1026 kr ?_
        obtain ⟨v27, ev27, H⟩ := bind_some H
        obtain ⟨r28, er28, H⟩ := bind_some H
        obtain ⟨r29, er29, H⟩ := bind_some H
        obtain ⟨hg30, H⟩ := guard_some H
        refine Tr.draw mixed 19 kr ⟨124, 0, [sC 3 (cL 5 (y22 ++ [r29]) Bind.row), sC 97 (cF 1 [3, y9, v26.Id] intRow), sI 96 v26.Id, sA 95 10 3 0, sI 94 y9, sI 92 v27, (91, .adr (.slot 88) [(0, ((IntKind.wrap .i64 (y9 - 1)).toNat))] 1 0), sI 90 (IntKind.wrap .i64 (y9 - 1)), sI 89 y9, sC 88 (cL 1 [1, v26.Members, v26.Bare] intRow), sI 87 v26.Bare, sA 86 10 3 2, sI 85 v26.Members, sA 84 10 3 1, sA 10 10 3 0, sV 82 (Vrow.row v26), (81, .fad ((Vrow.row v26))), sB 80 (decide (y21 < (x0.V.Rows.length : Int))), sI 79 y21, sI 78 (x0.V.Rows.length : Int), sC 77 (cF 3 x0.V.Rows Vrow.row), sA 76 1 11 4, sA 75 1 11 4, sB 72 true, sI 71 y9, sI 8 y9, sC 2 (cL 5 ([] : List Bind) Bind.row), sA 1 1 11 0], [(10, (Vrow.row v26)), (1, (CV.frzRow (Bridge.row x0)))]⟩ (fun cx => ?_) ?_
        · refine AT.runU tOk [(0, []), (1, []), (2, [5, 10, 15, 16, 17]), (3, []), (4, [5, 10, 15, 16, 17]), (6, []), (7, []), (11, []), (12, []), (13, [14, 15, 16, 17])] 9 [⟨[14, 15, 16, 17], 3, 95, 96⟩, ⟨[5, 10, 15, 16, 17], 3, 86, 87⟩, ⟨[5, 10, 15, 16, 17], 3, 84, 85⟩] [13, 12, 11, 7, 6, 4, 3, 2, 1, 0] rfl kr (fun cx => ?_)
          refine AT.big2 tOk 5 14 kr (And.intro kr ?_) (And.intro kr ?_)
          · refine LAt.runU tOk 1 kr ?_
            refine LAt.fin kr (And.intro (And.intro kr kr) ?_)
            refine AT.indexO tOk 8 (t := 27) (ty := 0) (x := (.tmp 88)) (y := (.tmp 90)) (d := 91) (g := none) ⟨(.slot 88), [], 0, true, 1, ([1, v26.Members, v26.Bare].map intRow)⟩ (IntKind.wrap .i64 (y9 - 1)) ((IntKind.wrap .i64 (y9 - 1)).toNat) (intRow v27) _ kr kr kr kr kr kr rfl kr (idx_isE ev27) rfl rfl (fun cx => ?_)
            refine AT.big2 tOk 9 14 kr (And.intro kr ?_) (And.intro kr ?_)
            · refine LAt.loadE tOk (t := 3) (ty := 3) (x := (.tmp 91)) (d := 92) (g := none) ⟨.int .i64, 1, 8, [.lit (.int .i64 0)]⟩ (.slot 88) [(0, ((IntKind.wrap .i64 (y9 - 1)).toNat))] 1 0 [cL 1 [1, v26.Members, v26.Bare] intRow] (intRow v27) _ kr kr kr kr kr (getQ_elem rfl (idx_get ev27).2) rfl (by intro h; cases h) kr kr rfl ?_
              refine LAt.fin kr (And.intro (And.intro kr kr) ?_)
              refine AT.big2 tOk 10 14 kr (And.intro kr ?_) (And.intro kr ?_)
              · refine LAt.callV tOk [.rd] [] (impl_number n v27 r28 er28) kr kr kr kr (.inl rfl) ?_
                refine LAt.fin kr (And.intro (And.intro kr kr) ?_)
                refine AT.big1 tOk 14 kr kr ?_
                refine LAt.runU tOk 1 kr ?_
                refine LAt.fin kr (And.intro (And.intro kr kr) ?_)
                refine AT.big1 tOk 15 kr kr ?_
                refine LAt.callV tOk [.own, .rd] [] (impl_thing n r28 [3, y9, v26.Id] r29 er29) kr kr kr kr (.inl rfl) ?_
                refine LAt.fin kr (And.intro (And.intro kr kr) ?_)
                refine AT.big1 tOk 16 kr kr ?_
                refine LAt.runU tOk 1 kr ?_
                refine LAt.fin kr (And.intro (And.intro kr kr) ?_)
                refine AT.big1 tOk 17 kr kr ?_
                refine LAt.appMU tOk (t := 81) (ty := 81) (e := 86) (x := (.tmp 83)) (y := (.tmp 99)) (d := 100) (g := none) ⟨.st [(0, 1, 27), (1, 4, 76)], 5, 80, [.sl true 1 [], .lit (.int .i64 0), .lit (.int .i64 0), .lit (.string ⟨#[]⟩), .sl true 1 []]⟩ Bind.row y22 [r29] kr kr kr kr kr kr kr kr kr kr hg30 ?_
                refine LAt.fin kr (And.intro (And.intro kr kr) ?_)
                refine AT.big1 tOk 18 kr kr ?_
                refine LAt.moveU (T := lk tab) (ty := 81) (x := (.tmp 100)) (d := 3) (g := none) false [cL 5 (y22 ++ [r29]) Bind.row] kr kr kr kr kr ?_
                refine LAt.fin kr (And.intro (And.intro kr kr) ?_)
                exact AT.done [3, 97, 96, 95, 94, 92, 91, 90, 89, 88, 87, 86, 85, 84, 10, 82, 81, 80, 79, 78, 77, 76, 75, 72, 71, 8, 2, 1] [10, 1] _ kr kr rfl
              · refine LAt.runU tOk 1 kr ?_
                refine LAt.fin kr (And.intro (And.intro kr kr) ?_)
                refine AT.big1 tOk 10 kr kr ?_
                refine LAt.callV tOk [.rd] [] (impl_number n v27 r28 er28) kr kr kr kr (.inl rfl) ?_
                refine LAt.fin kr (And.intro (And.intro kr kr) ?_)
                refine AT.big1 tOk 15 kr kr ?_
                refine LAt.callV tOk [.own, .rd] [] (impl_thing n r28 [3, y9, v26.Id] r29 er29) kr kr kr kr (.inl rfl) ?_
                refine LAt.fin kr (And.intro (And.intro kr kr) ?_)
                refine AT.big1 tOk 16 kr kr ?_
                refine LAt.runU tOk 1 kr ?_
                refine LAt.fin kr (And.intro (And.intro kr kr) ?_)
                refine AT.big1 tOk 17 kr kr ?_
                refine LAt.appMU tOk (t := 81) (ty := 81) (e := 86) (x := (.tmp 83)) (y := (.tmp 99)) (d := 100) (g := none) ⟨.st [(0, 1, 27), (1, 4, 76)], 5, 80, [.sl true 1 [], .lit (.int .i64 0), .lit (.int .i64 0), .lit (.string ⟨#[]⟩), .sl true 1 []]⟩ Bind.row y22 [r29] kr kr kr kr kr kr kr kr kr kr hg30 ?_
                refine LAt.fin kr (And.intro (And.intro kr kr) ?_)
                refine AT.big1 tOk 18 kr kr ?_
                refine LAt.moveU (T := lk tab) (ty := 81) (x := (.tmp 100)) (d := 3) (g := none) false [cL 5 (y22 ++ [r29]) Bind.row] kr kr kr kr kr ?_
                refine LAt.fin kr (And.intro (And.intro kr kr) ?_)
                exact AT.done [3, 97, 96, 95, 94, 92, 91, 90, 89, 88, 87, 86, 85, 84, 10, 82, 81, 80, 79, 78, 77, 76, 75, 72, 71, 8, 2, 1] [10, 1] _ kr kr rfl
            · refine LAt.runU tOk 1 kr ?_
              refine LAt.fin kr (And.intro (And.intro kr kr) ?_)
              refine AT.big1 tOk 9 kr kr ?_
              refine LAt.loadE tOk (t := 3) (ty := 3) (x := (.tmp 91)) (d := 92) (g := none) ⟨.int .i64, 1, 8, [.lit (.int .i64 0)]⟩ (.slot 88) [(0, ((IntKind.wrap .i64 (y9 - 1)).toNat))] 1 0 [cL 1 [1, v26.Members, v26.Bare] intRow] (intRow v27) _ kr kr kr kr kr (getQ_elem rfl (idx_get ev27).2) rfl (by intro h; cases h) kr kr rfl ?_
              refine LAt.fin kr (And.intro (And.intro kr kr) ?_)
              refine AT.big1 tOk 10 kr kr ?_
              refine LAt.callV tOk [.rd] [] (impl_number n v27 r28 er28) kr kr kr kr (.inl rfl) ?_
              refine LAt.fin kr (And.intro (And.intro kr kr) ?_)
              refine AT.big1 tOk 15 kr kr ?_
              refine LAt.callV tOk [.own, .rd] [] (impl_thing n r28 [3, y9, v26.Id] r29 er29) kr kr kr kr (.inl rfl) ?_
              refine LAt.fin kr (And.intro (And.intro kr kr) ?_)
              refine AT.big1 tOk 16 kr kr ?_
              refine LAt.runU tOk 1 kr ?_
              refine LAt.fin kr (And.intro (And.intro kr kr) ?_)
              refine AT.big1 tOk 17 kr kr ?_
              refine LAt.appMU tOk (t := 81) (ty := 81) (e := 86) (x := (.tmp 83)) (y := (.tmp 99)) (d := 100) (g := none) ⟨.st [(0, 1, 27), (1, 4, 76)], 5, 80, [.sl true 1 [], .lit (.int .i64 0), .lit (.int .i64 0), .lit (.string ⟨#[]⟩), .sl true 1 []]⟩ Bind.row y22 [r29] kr kr kr kr kr kr kr kr kr kr hg30 ?_
              refine LAt.fin kr (And.intro (And.intro kr kr) ?_)
              refine AT.big1 tOk 18 kr kr ?_
              refine LAt.moveU (T := lk tab) (ty := 81) (x := (.tmp 100)) (d := 3) (g := none) false [cL 5 (y22 ++ [r29]) Bind.row] kr kr kr kr kr ?_
              refine LAt.fin kr (And.intro (And.intro kr kr) ?_)
              exact AT.done [3, 97, 96, 95, 94, 92, 91, 90, 89, 88, 87, 86, 85, 84, 10, 82, 81, 80, 79, 78, 77, 76, 75, 72, 71, 8, 2, 1] [10, 1] _ kr kr rfl
          · refine LAt.runU tOk 1 kr ?_
            refine LAt.fin kr (And.intro (And.intro kr kr) ?_)
            refine AT.big1 tOk 5 kr kr ?_
            refine LAt.runU tOk 1 kr ?_
            refine LAt.fin kr (And.intro (And.intro kr kr) ?_)
            refine AT.indexO tOk 8 (t := 27) (ty := 0) (x := (.tmp 88)) (y := (.tmp 90)) (d := 91) (g := none) ⟨(.slot 88), [], 0, true, 1, ([1, v26.Members, v26.Bare].map intRow)⟩ (IntKind.wrap .i64 (y9 - 1)) ((IntKind.wrap .i64 (y9 - 1)).toNat) (intRow v27) _ kr kr kr kr kr kr rfl kr (idx_isE ev27) rfl rfl (fun cx => ?_)
            refine AT.big1 tOk 9 kr kr ?_
            refine LAt.loadE tOk (t := 3) (ty := 3) (x := (.tmp 91)) (d := 92) (g := none) ⟨.int .i64, 1, 8, [.lit (.int .i64 0)]⟩ (.slot 88) [(0, ((IntKind.wrap .i64 (y9 - 1)).toNat))] 1 0 [cL 1 [1, v26.Members, v26.Bare] intRow] (intRow v27) _ kr kr kr kr kr (getQ_elem rfl (idx_get ev27).2) rfl (by intro h; cases h) kr kr rfl ?_
            refine LAt.fin kr (And.intro (And.intro kr kr) ?_)
            refine AT.big1 tOk 10 kr kr ?_
            refine LAt.callV tOk [.rd] [] (impl_number n v27 r28 er28) kr kr kr kr (.inl rfl) ?_
            refine LAt.fin kr (And.intro (And.intro kr kr) ?_)
            refine AT.big1 tOk 15 kr kr ?_
            refine LAt.callV tOk [.own, .rd] [] (impl_thing n r28 [3, y9, v26.Id] r29 er29) kr kr kr kr (.inl rfl) ?_
            refine LAt.fin kr (And.intro (And.intro kr kr) ?_)
            refine AT.big1 tOk 16 kr kr ?_
            refine LAt.runU tOk 1 kr ?_
            refine LAt.fin kr (And.intro (And.intro kr kr) ?_)
            refine AT.big1 tOk 17 kr kr ?_
            refine LAt.appMU tOk (t := 81) (ty := 81) (e := 86) (x := (.tmp 83)) (y := (.tmp 99)) (d := 100) (g := none) ⟨.st [(0, 1, 27), (1, 4, 76)], 5, 80, [.sl true 1 [], .lit (.int .i64 0), .lit (.int .i64 0), .lit (.string ⟨#[]⟩), .sl true 1 []]⟩ Bind.row y22 [r29] kr kr kr kr kr kr kr kr kr kr hg30 ?_
            refine LAt.fin kr (And.intro (And.intro kr kr) ?_)
            refine AT.big1 tOk 18 kr kr ?_
            refine LAt.moveU (T := lk tab) (ty := 81) (x := (.tmp 100)) (d := 3) (g := none) false [cL 5 (y22 ++ [r29]) Bind.row] kr kr kr kr kr ?_
            refine LAt.fin kr (And.intro (And.intro kr kr) ?_)
            exact AT.done [3, 97, 96, 95, 94, 92, 91, 90, 89, 88, 87, 86, 85, 84, 10, 82, 81, 80, 79, 78, 77, 76, 75, 72, 71, 8, 2, 1] [10, 1] _ kr kr rfl
        show Tr _ _ _ _ _
        refine Tr.rgE tOk 2 2842300628097294055482297681166 1026 kr kr ?_
        exact Exists.intro (mo25, ((IntKind.wrap .i64 (y21 + 1)), (y22 ++ [r29]))) (And.intro H (And.intro (Nat.lt_succ_self mo25) (St.sub_of [79, 78, 77, 76, 75, 72, 71, 8, 3, 2, 1] [1] kr)))
      rintro ⟨y23, y24⟩ H
      have H : (impl_MibList_J7 n (fun v => impl_MibList_L6 n mo20 x0 v.1 v.2) y9 y23 y24) = some o20 := H
      unfold impl_MibList_J7 at H
      show Tr _ _ _ _ _
      refine Tr.rgE tOk 3 2415490455987823526805774 2 kr kr ?_
      exact Exists.intro (mo20, ((IntKind.wrap .i64 (y9 + 1)), y24)) (And.intro H (And.intro (Nat.lt_succ_self mo20) (St.sub_of [8, 3, 2, 1] [1] kr)))
    rintro y11 H
    have H : (impl_MibList_J3 n x0 y11) = some r := H
    unfold impl_MibList_J3 at H
    show Tr _ _ _ _ _
    refine Tr.seq ?_
    refine Tr.rs ?_
    refine LAt.runU tOk 2 kr ?_
    refine LAt.lenE tOk (t := 56) (ty := 3) (e := 141) (x := (.tmp 103)) (d := 104) (g := none) ⟨(.slot 103), [], 0, false, 5, (CV.frzEs (x0.F.map Fent.row))⟩ (x0.F).length _ kr kr kr kr kr (frz_len _ _) rfl ?_
    refine LAt.runU tOk 1 kr ?_
    refine LAt.doneM 70988433612780846483815379501068 0 kr ?_
    obtain ⟨o15, eo15, Ho15⟩ := bind_some H
    clear H
    refine Tr.mid (ι := (List Bind)) (fun v => ⟨124, 0, [sC 3 (cL 5 v Bind.row), sC 2 (cL 5 ([] : List Bind) Bind.row)], []⟩) (fun v => impl_MibList_J4 n v = some r) ?_ ?_
    · refine Tr.block ?_
      refine Tr.loop (ι := Nat × (Int × (List Bind))) (fun v => ⟨124, 0, [sI 105 v.2.1, sI 104 (x0.F.length : Int), sC 103 (cF 5 x0.F Fent.row), sC 3 (cL 5 v.2.2 Bind.row), sC 2 (cL 5 ([] : List Bind) Bind.row)], []⟩) (fun v => impl_MibList_L5 n v.1 x0 v.2.1 v.2.2 = some o15) (fun v => v.1) (n, (0, y11)) eo15 (St.sub_of [105, 104, 103, 3, 2] [] kr) ?_
      rintro ⟨mo15, y12, y13⟩ H
      have H : impl_MibList_L5 n mo15 x0 y12 y13 = some o15 := H
      obtain _ | mo15 := mo15
      · cases (show (none : Option _) = some o15 from H)
      rw [impl_MibList_L5] at H
      refine Tr.rgn tOk 1 152118072027387528179604384645132 0 kr kr ?_
      refine Tr.seq ?_
      cases h2 : (decide (y12 < (x0.F.length : Int)))
      · have H := bifF h2 H
        refine Tr.cF h2 kr ?_
        refine Tr.exit ?_
        refine And.intro (fun _ => ?_) (fun h => absurd rfl h)
        have H := Option.some.inj H
        subst H
        have H := Ho15
        dsimp only at H
        exact Exists.intro y13 (And.intro H (St.sub_of [3, 2] [] kr))
      have H := bifT h2 H
      refine Tr.cT h2 kr ?_
      refine Tr.skip ?_
      show Tr _ _ _ _ _
      refine Tr.seq ?_
      refine Tr.block ?_
      refine Tr.rs ?_
      obtain ⟨v16, ev16, H⟩ := bind_some H
      refine LAt.indexF tOk (t := 56) (ty := 0) (x := (.tmp 103)) (y := (.tmp 105)) (d := 107) (g := none) ⟨(.slot 103), [], 0, false, 5, (CV.frzEs (x0.F.map Fent.row))⟩ y12 (Fent.row v16) _ kr kr kr kr rfl (idx_isF ev16) rfl ?_
      refine LAt.runU tOk 3 kr ?_
      refine LAt.doneM 638895902515027618354338415513612 4096 kr ?_
      obtain ⟨r17, er17, H⟩ := bind_some H
      obtain ⟨r18, er18, H⟩ := bind_some H
      obtain ⟨hg19, H⟩ := guard_some H
      refine Tr.draw mixed 14 kr ⟨124, 0, [sC 3 (cL 5 (y13 ++ [r18]) Bind.row), sC 118 (cF 1 [4, 1, v16.Tag, v16.Mac] intRow), sI 117 v16.Mac, sA 116 12 5 1, sI 115 v16.Tag, sA 114 12 5 0, sI 112 (IntKind.wrap .i64 (v16.Port + 1)), sI 111 v16.Port, sA 110 12 5 2, sA 12 12 5 0, sV 108 (Fent.row v16), (107, .fad ((Fent.row v16))), sB 106 (decide (y12 < (x0.F.length : Int))), sI 105 y12, sI 104 (x0.F.length : Int), sC 103 (cF 5 x0.F Fent.row), sC 2 (cL 5 ([] : List Bind) Bind.row)], [(12, (Fent.row v16))]⟩ (fun cx => ?_) ?_
      · refine AT.runU tOk [(0, []), (1, []), (2, [4, 10, 11, 12]), (3, []), (5, []), (6, [9, 10, 11, 12]), (7, []), (8, [9, 10, 11, 12])] 6 [⟨[9, 10, 11, 12], 3, 116, 117⟩, ⟨[9, 10, 11, 12], 3, 114, 115⟩, ⟨[4, 10, 11, 12], 3, 110, 111⟩] [8, 7, 6, 5, 3, 2, 1, 0] rfl kr (fun cx => ?_)
        refine AT.big2 tOk 4 9 kr (And.intro kr ?_) (And.intro kr ?_)
        · refine LAt.callV tOk [.rd] [] (impl_number n (IntKind.wrap .i64 (v16.Port + 1)) r17 er17) kr kr kr kr (.inl rfl) ?_
          refine LAt.fin kr (And.intro (And.intro kr kr) ?_)
          refine AT.big1 tOk 9 kr kr ?_
          refine LAt.runU tOk 1 kr ?_
          refine LAt.fin kr (And.intro (And.intro kr kr) ?_)
          refine AT.big1 tOk 10 kr kr ?_
          refine LAt.callV tOk [.own, .rd] [] (impl_thing n r17 [4, 1, v16.Tag, v16.Mac] r18 er18) kr kr kr kr (.inl rfl) ?_
          refine LAt.fin kr (And.intro (And.intro kr kr) ?_)
          refine AT.big1 tOk 11 kr kr ?_
          refine LAt.runU tOk 1 kr ?_
          refine LAt.fin kr (And.intro (And.intro kr kr) ?_)
          refine AT.big1 tOk 12 kr kr ?_
          refine LAt.appMU tOk (t := 81) (ty := 81) (e := 86) (x := (.tmp 109)) (y := (.tmp 120)) (d := 121) (g := none) ⟨.st [(0, 1, 27), (1, 4, 76)], 5, 80, [.sl true 1 [], .lit (.int .i64 0), .lit (.int .i64 0), .lit (.string ⟨#[]⟩), .sl true 1 []]⟩ Bind.row y13 [r18] kr kr kr kr kr kr kr kr kr kr hg19 ?_
          refine LAt.fin kr (And.intro (And.intro kr kr) ?_)
          refine AT.big1 tOk 13 kr kr ?_
          refine LAt.moveU (T := lk tab) (ty := 81) (x := (.tmp 121)) (d := 3) (g := none) false [cL 5 (y13 ++ [r18]) Bind.row] kr kr kr kr kr ?_
          refine LAt.fin kr (And.intro (And.intro kr kr) ?_)
          exact AT.done [3, 118, 117, 116, 115, 114, 112, 111, 110, 12, 108, 107, 106, 105, 104, 103, 2] [12] _ kr kr rfl
        · refine LAt.runU tOk 1 kr ?_
          refine LAt.fin kr (And.intro (And.intro kr kr) ?_)
          refine AT.big1 tOk 4 kr kr ?_
          refine LAt.callV tOk [.rd] [] (impl_number n (IntKind.wrap .i64 (v16.Port + 1)) r17 er17) kr kr kr kr (.inl rfl) ?_
          refine LAt.fin kr (And.intro (And.intro kr kr) ?_)
          refine AT.big1 tOk 10 kr kr ?_
          refine LAt.callV tOk [.own, .rd] [] (impl_thing n r17 [4, 1, v16.Tag, v16.Mac] r18 er18) kr kr kr kr (.inl rfl) ?_
          refine LAt.fin kr (And.intro (And.intro kr kr) ?_)
          refine AT.big1 tOk 11 kr kr ?_
          refine LAt.runU tOk 1 kr ?_
          refine LAt.fin kr (And.intro (And.intro kr kr) ?_)
          refine AT.big1 tOk 12 kr kr ?_
          refine LAt.appMU tOk (t := 81) (ty := 81) (e := 86) (x := (.tmp 109)) (y := (.tmp 120)) (d := 121) (g := none) ⟨.st [(0, 1, 27), (1, 4, 76)], 5, 80, [.sl true 1 [], .lit (.int .i64 0), .lit (.int .i64 0), .lit (.string ⟨#[]⟩), .sl true 1 []]⟩ Bind.row y13 [r18] kr kr kr kr kr kr kr kr kr kr hg19 ?_
          refine LAt.fin kr (And.intro (And.intro kr kr) ?_)
          refine AT.big1 tOk 13 kr kr ?_
          refine LAt.moveU (T := lk tab) (ty := 81) (x := (.tmp 121)) (d := 3) (g := none) false [cL 5 (y13 ++ [r18]) Bind.row] kr kr kr kr kr ?_
          refine LAt.fin kr (And.intro (And.intro kr kr) ?_)
          exact AT.done [3, 118, 117, 116, 115, 114, 112, 111, 110, 12, 108, 107, 106, 105, 104, 103, 2] [12] _ kr kr rfl
      show Tr _ _ _ _ _
      refine Tr.rgE tOk 2 5970482209002933093521292492936318988 4096 kr kr ?_
      exact Exists.intro (mo15, ((IntKind.wrap .i64 (y12 + 1)), (y13 ++ [r18]))) (And.intro H (And.intro (Nat.lt_succ_self mo15) (St.sub_of [105, 104, 103, 3, 2] [] kr)))
    rintro y14 H
    have H : (impl_MibList_J4 n y14) = some r := H
    unfold impl_MibList_J4 at H
    show Tr _ _ _ _ _
    refine Tr.rgn tOk 2 12 0 kr kr ?_
    refine Tr.ret ?_
    have H := Option.some.inj H
    subst H
    exact Fin.of _ [(false, [cL 5 y14 Bind.row])] kr rfl rfl
  have H := bifT h1 H
  refine Tr.cT h1 kr ?_
  refine Tr.rgn tOk 1 6 2 kr kr ?_
  refine Tr.ret ?_
  have H := Option.some.inj H
  subst H
  exact Fin.of _ [(false, [cL 5 ([] : List Bind) Bind.row])] kr rfl rfl

def impl_LessOid_J1 (n : Nat) (x0 : (List Int)) (x1 : (List Int)) : Option (Bool) :=
  (some (decide ((x0.length : Int) < (x1.length : Int))))
def impl_LessOid_L2 (n : Nat) : Nat → (List Int) → (List Int) → Int → Option ((Unit) ⊕ (Bool))
  | 0, _, _, _ => none
  | mo2 + 1, x0, x1, y1 => (bif (decide (y1 < (x0.length : Int))) then (bif (decide (y1 < (x1.length : Int))) then ((idx x0 y1).bind fun v3 => ((idx x1 y1).bind fun v4 => (bif (v3 != v4) then ((idx x0 y1).bind fun v5 => ((idx x1 y1).bind fun v6 => (some (Sum.inr (decide (v5 < v6)))))) else (impl_LessOid_L2 n mo2 x0 x1 (IntKind.wrap .i64 (y1 + 1)))))) else (some (Sum.inl ()))) else (some (Sum.inl ())))
def impl_LessOidF (n : Nat) (x0 : (List Int)) (x1 : (List Int)) : Option (Bool) :=
  ((impl_LessOid_L2 n n x0 x1 0).bind fun o => match o with | .inl _ => (impl_LessOid_J1 n x0 x1) | .inr r => some r)
/-- loop.example/g00326/impl.LessOid -/
theorem impl_LessOid (n : Nat) (x0 : (List Int)) (x1 : (List Int)) (r : Bool) (H : impl_LessOidF n x0 x1 = some r) : LCall Try.prog 131 [.val false [.sl false 1 (CV.frzEs (x0.map intRow))], .val false [.sl false 1 (CV.frzEs (x1.map intRow))]] [.val false [.lit (.bool r)]] [] := by
  refine LCall.of_body tOk Try.func131 rfl (c := (.seq (Rg Try.f131 0) (.seq (.seq (Rg Try.f131 1) (.block 0 (.loop (.seq (.seq (Rg Try.f131 2) (.cond (.tmp 15) .skip (.exit 0))) (.seq (.block 1 (.seq (Rd Try.f131 4) (.cond (.tmp 26) (.seq (Rd Try.f131 5) .ret) .skip))) (Rg Try.f131 3)))))) (.seq (Rg Try.f131 6) .ret)))) kr (Nat.le_of_ble_eq_true kr) 0 (rs := [.tmp 4]) rfl [] .nil [(false, [.lit (.bool r)])] [] [] fun cx => ?_
  show Tr _ _ _ ⟨41, 0, [sC 0 (cF 1 x0 intRow), sC 1 (cF 1 x1 intRow)], []⟩ _
  unfold impl_LessOidF at H
  refine Tr.rgn tOk 1 19 0 kr kr ?_
  refine Tr.seq ?_
  refine Tr.rgn tOk 1 51 0 kr kr ?_
  obtain ⟨o2, eo2, Ho2⟩ := bind_some H
  clear H
  refine Tr.mid (ι := Unit) (fun v => ⟨41, 0, [sB 4 false, sC 0 (cF 1 x0 intRow), sC 1 (cF 1 x1 intRow)], []⟩) (fun v => impl_LessOid_J1 n x0 x1 = some r) ?_ ?_
  · refine Tr.block ?_
    refine Tr.loop (ι := Nat × (Int)) (fun v => ⟨41, 0, [sI 5 v.2, sB 4 false, sC 0 (cF 1 x0 intRow), sC 1 (cF 1 x1 intRow)], []⟩) (fun v => impl_LessOid_L2 n v.1 x0 x1 v.2 = some o2) (fun v => v.1) (n, 0) eo2 (St.sub_of [5, 4, 0, 1] [] kr) ?_
    rintro ⟨mo2, y1⟩ H
    have H : impl_LessOid_L2 n mo2 x0 x1 y1 = some o2 := H
    obtain _ | mo2 := mo2
    · cases (show (none : Option _) = some o2 from H)
    rw [impl_LessOid_L2] at H
    refine Tr.seq ?_
    refine Tr.rs ?_
    refine LAt.runU tOk 2 kr ?_
    refine LAt.lenE tOk (t := 27) (ty := 3) (e := 3) (x := (.tmp 7)) (d := 8) (g := none) ⟨(.slot 7), [], 0, false, 1, (CV.frzEs (x0.map intRow))⟩ (x0).length _ kr kr kr kr kr (frz_len _ _) rfl ?_
    refine LAt.runU tOk 2 kr ?_
    refine LAt.to ⟨41, 0, [sB 10 (decide (y1 < (x0.length : Int))), sB 9 (decide (y1 < (x0.length : Int))), sI 8 (x0.length : Int), sC 7 (cF 1 x0 intRow), sI 6 y1, sI 5 y1, sB 4 false, sC 0 (cF 1 x0 intRow), sC 1 (cF 1 x1 intRow)], []⟩ kr ?_
    cases h1 : (decide (y1 < (x0.length : Int)))
    · have H := bifF h1 H
      refine LAt.runU tOk 5 kr ?_
      refine LAt.doneM 65523 0 kr ?_
      refine Tr.cf kr ?_
      refine Tr.exit ?_
      refine And.intro (fun _ => ?_) (fun h => absurd rfl h)
      have H := Option.some.inj H
      subst H
      have H := Ho2
      dsimp only at H
      exact Exists.intro () (And.intro H (St.sub_of [4, 0, 1] [] kr))
    have H := bifT h1 H
    refine LAt.runU tOk 2 kr ?_
    refine LAt.lenE tOk (t := 27) (ty := 3) (e := 3) (x := (.tmp 12)) (d := 13) (g := (some (4, true))) ⟨(.slot 12), [], 0, false, 1, (CV.frzEs (x1.map intRow))⟩ (x1).length _ kr kr kr kr kr (frz_len _ _) rfl ?_
    refine LAt.runU tOk 2 kr ?_
    refine LAt.doneM 65523 0 kr ?_
    refine Tr.to ⟨41, 0, [sB 15 (decide (y1 < (x1.length : Int))), sB 14 (decide (y1 < (x1.length : Int))), sI 13 (x1.length : Int), sC 12 (cF 1 x1 intRow), sI 11 y1, sB 10 true, sB 9 true, sI 8 (x0.length : Int), sC 7 (cF 1 x0 intRow), sI 6 y1, sI 5 y1, sB 4 false, sC 0 (cF 1 x0 intRow), sC 1 (cF 1 x1 intRow)], []⟩ kr ?_
    cases h2 : (decide (y1 < (x1.length : Int)))
    · have H := bifF h2 H
      refine Tr.cf kr ?_
      refine Tr.exit ?_
      refine And.intro (fun _ => ?_) (fun h => absurd rfl h)
      have H := Option.some.inj H
      subst H
      have H := Ho2
      dsimp only at H
      exact Exists.intro () (And.intro H (St.sub_of [4, 0, 1] [] kr))
    have H := bifT h2 H
    refine Tr.ct kr ?_
    refine Tr.skip ?_
    show Tr _ _ _ _ _
    refine Tr.seq ?_
    refine Tr.block ?_
    obtain ⟨v3, ev3, H⟩ := bind_some H
    obtain ⟨v4, ev4, H⟩ := bind_some H
    refine Tr.draws mixed 9 kr ⟨41, 0, [sB 26 (v3 != v4), sI 25 v4, (24, .fad ([cI v4])), sI 23 y1, sC 22 (cF 1 x1 intRow), sI 21 v3, (20, .fad ([cI v3])), sI 19 y1, sC 18 (cF 1 x0 intRow), sB 15 true, sB 14 true, sI 13 (x1.length : Int), sC 12 (cF 1 x1 intRow), sI 11 y1, sB 10 true, sB 9 true, sI 8 (x0.length : Int), sC 7 (cF 1 x0 intRow), sI 6 y1, sI 5 y1, sB 4 false, sC 0 (cF 1 x0 intRow), sC 1 (cF 1 x1 intRow)], []⟩ (fun cx => ?_) ?_
    · refine AT.runU tOk [(0, []), (1, [])] 7 [] [1, 0] rfl kr (fun cx => ?_)
      refine AT.indexF tOk 2 (t := 27) (ty := 0) (x := (.tmp 18)) (y := (.tmp 19)) (d := 20) (g := none) ⟨(.slot 18), [], 0, false, 1, (CV.frzEs (x0.map intRow))⟩ y1 [cI v3] _ kr kr kr kr kr kr rfl (idx_isF ev3) rfl (fun cx => ?_)
      refine AT.runU tOk [(3, []), (4, []), (5, [])] 3 [] [5, 4, 3, 2, 1, 0] rfl kr (fun cx => ?_)
      refine AT.indexF tOk 6 (t := 27) (ty := 0) (x := (.tmp 22)) (y := (.tmp 23)) (d := 24) (g := none) ⟨(.slot 22), [], 0, false, 1, (CV.frzEs (x1.map intRow))⟩ y1 [cI v4] _ kr kr kr kr kr kr rfl (idx_isF ev4) rfl (fun cx => ?_)
      refine AT.runU tOk [(7, []), (8, [])] 0 [] [8, 7, 6, 5, 4, 3, 2, 1, 0] rfl kr (fun cx => ?_)
      exact AT.done [26, 25, 24, 23, 22, 21, 20, 19, 18, 15, 14, 13, 12, 11, 10, 9, 8, 7, 6, 5, 4, 0, 1] [] _ kr kr rfl
    refine Tr.to ⟨41, 0, [sB 26 (v3 != v4), sI 25 v4, (24, .fad ([cI v4])), sI 23 y1, sC 22 (cF 1 x1 intRow), sI 21 v3, (20, .fad ([cI v3])), sI 19 y1, sC 18 (cF 1 x0 intRow), sB 15 true, sB 14 true, sI 13 (x1.length : Int), sC 12 (cF 1 x1 intRow), sI 11 y1, sB 10 true, sB 9 true, sI 8 (x0.length : Int), sC 7 (cF 1 x0 intRow), sI 6 y1, sI 5 y1, sB 4 false, sC 0 (cF 1 x0 intRow), sC 1 (cF 1 x1 intRow)], []⟩ kr ?_
    cases h3 : (v3 != v4)
    · have H := bifF h3 H
      refine Tr.cf kr ?_
      refine Tr.skip ?_
      show Tr _ _ _ _ _
      refine Tr.rgE tOk 3 134217715 0 kr kr ?_
      exact Exists.intro (mo2, (IntKind.wrap .i64 (y1 + 1))) (And.intro H (And.intro (Nat.lt_succ_self mo2) (St.sub_of [5, 4, 0, 1] [] kr)))
    have H := bifT h3 H
    refine Tr.ct kr ?_
    obtain ⟨v5, ev5, H⟩ := bind_some H
    obtain ⟨v6, ev6, H⟩ := bind_some H
    refine Tr.draws mixed 10 kr ⟨41, 0, [sB 4 (decide (v5 < v6)), sB 35 (decide (v5 < v6)), sI 34 v6, (33, .fad ([cI v6])), sI 32 y1, sC 31 (cF 1 x1 intRow), sI 30 v5, (29, .fad ([cI v5])), sI 28 y1, sC 27 (cF 1 x0 intRow), sB 26 true, sI 25 v4, (24, .fad ([cI v4])), sI 23 y1, sC 22 (cF 1 x1 intRow), sI 21 v3, (20, .fad ([cI v3])), sI 19 y1, sC 18 (cF 1 x0 intRow), sB 15 true, sB 14 true, sI 13 (x1.length : Int), sC 12 (cF 1 x1 intRow), sI 11 y1, sB 10 true, sB 9 true, sI 8 (x0.length : Int), sC 7 (cF 1 x0 intRow), sI 6 y1, sI 5 y1, sC 0 (cF 1 x0 intRow), sC 1 (cF 1 x1 intRow)], []⟩ (fun cx => ?_) ?_
    · refine AT.runU tOk [(0, []), (1, [])] 8 [] [1, 0] rfl kr (fun cx => ?_)
      refine AT.indexF tOk 2 (t := 27) (ty := 0) (x := (.tmp 27)) (y := (.tmp 28)) (d := 29) (g := none) ⟨(.slot 27), [], 0, false, 1, (CV.frzEs (x0.map intRow))⟩ y1 [cI v5] _ kr kr kr kr kr kr rfl (idx_isF ev5) rfl (fun cx => ?_)
      refine AT.runU tOk [(3, []), (4, []), (5, [])] 4 [] [5, 4, 3, 2, 1, 0] rfl kr (fun cx => ?_)
      refine AT.indexF tOk 6 (t := 27) (ty := 0) (x := (.tmp 31)) (y := (.tmp 32)) (d := 33) (g := none) ⟨(.slot 31), [], 0, false, 1, (CV.frzEs (x1.map intRow))⟩ y1 [cI v6] _ kr kr kr kr kr kr rfl (idx_isF ev6) rfl (fun cx => ?_)
      refine AT.runU tOk [(7, []), (8, []), (9, [])] 0 [] [9, 8, 7, 6, 5, 4, 3, 2, 1, 0] rfl kr (fun cx => ?_)
      exact AT.done [4, 35, 34, 33, 32, 31, 30, 29, 28, 27, 26, 25, 24, 23, 22, 21, 20, 19, 18, 15, 14, 13, 12, 11, 10, 9, 8, 7, 6, 5, 0, 1] [] _ kr kr rfl
    refine Tr.ret ?_
    have H := Option.some.inj H
    subst H
    have H := Ho2
    dsimp only at H
    have H := Option.some.inj H
    subst H
    exact Fin.of _ [(false, [cB (decide (v5 < v6))])] kr rfl rfl
  rintro _ H
  have H : (impl_LessOid_J1 n x0 x1) = some r := H
  unfold impl_LessOid_J1 at H
  show Tr _ _ _ _ _
  refine Tr.rs ?_
  refine LAt.runU tOk 1 kr ?_
  refine LAt.lenE tOk (t := 27) (ty := 3) (e := 3) (x := (.tmp 36)) (d := 37) (g := none) ⟨(.slot 36), [], 0, false, 1, (CV.frzEs (x0.map intRow))⟩ (x0).length _ kr kr kr kr kr (frz_len _ _) rfl ?_
  refine LAt.runU tOk 1 kr ?_
  refine LAt.lenE tOk (t := 27) (ty := 3) (e := 3) (x := (.tmp 38)) (d := 39) (g := none) ⟨(.slot 38), [], 0, false, 1, (CV.frzEs (x1.map intRow))⟩ (x1).length _ kr kr kr kr kr (frz_len _ _) rfl ?_
  refine LAt.runU tOk 2 kr ?_
  refine LAt.doneM 16 0 kr ?_
  refine Tr.ret ?_
  have H := Option.some.inj H
  subst H
  exact Fin.of _ [(false, [cB (decide ((x0.length : Int) < (x1.length : Int)))])] kr rfl rfl

def impl_copyIntsF (n : Nat) (x0 : (List Int)) : Option ((List Int)) :=
  (bif (decide (([] : List Int).length + x0.length ≤ 268435456)) then (some (([] : List Int) ++ x0)) else none)
/-- loop.example/g00326/impl.copyInts -/
theorem impl_copyInts (n : Nat) (x0 : (List Int)) (r : (List Int)) (H : impl_copyIntsF n x0 = some r) : LCall Try.prog 71 [.val false [.sl false 1 (CV.frzEs (x0.map intRow))]] [.val false [.sl true 1 (r.map intRow)]] [] := by
  refine LCall.of_body tOk Try.func71 rfl (c := (.seq (Rg Try.f71 0) (.seq (Rg Try.f71 1) .ret))) kr (Nat.le_of_ble_eq_true kr) 0 (rs := [.tmp 2]) rfl [] .nil [(false, [.sl true 1 (r.map intRow)])] [] [] fun cx => ?_
  show Tr _ _ _ ⟨5, 0, [sC 0 (cF 1 x0 intRow)], []⟩ _
  unfold impl_copyIntsF at H
  refine Tr.rgn tOk 1 5 0 kr kr ?_
  refine Tr.rs ?_
  refine LAt.runU tOk 1 kr ?_
  obtain ⟨hg1, H⟩ := guard_some H
  refine LAt.appCU tOk (t := 27) (ty := 27) (e := 3) (x := (.const (.slice none 0 0))) (y := (.tmp 3)) (d := 4) (g := none) ⟨.int .i64, 1, 8, [.lit (.int .i64 0)]⟩ intRow ([] : List Int) x0 ⟨(.slot 3), [], 0, false, 1, (CV.frzEs (x0.map intRow))⟩ kr kr kr kr kr kr kr kr kr kr kr (.inr rfl) (fun _ => rfl) (fun _ => rfl) hg1 ?_
  refine LAt.moveU (T := lk tab) (ty := 27) (x := (.tmp 4)) (d := 2) (g := none) false [cL 1 (([] : List Int) ++ x0) intRow] kr kr kr kr kr ?_
  refine LAt.doneM 4 0 kr ?_
  refine Tr.ret ?_
  have H := Option.some.inj H
  subst H
  exact Fin.of _ [(false, [cL 1 (([] : List Int) ++ x0) intRow])] kr rfl rfl

def impl_MibNext_J1 (n : Nat) (x1 : (List Int)) : Option (Bind) :=
  ((impl_copyIntsF n x1).bind fun r4 => (some (⟨r4, (⟨130, 0, (⟨#[]⟩ : ByteArray), ([] : List Int)⟩ : Val)⟩ : Bind)))
def impl_MibNext_L2 (n : Nat) : Nat → (List Bind) → (List Int) → Int → (List (Option Bind)) → Option ((Unit) ⊕ (Bind))
  | 0, _, _, _, _ => none
  | mo5 + 1, r1, x1, y2, y3 => (bif (decide (y2 < (r1.length : Int))) then ((idxO y3 y2).bind fun v6 => ((impl_LessOidF n x1 v6.O).bind fun r7 => (bif r7 then (some (Sum.inr v6)) else (impl_MibNext_L2 n mo5 r1 x1 (IntKind.wrap .i64 (y2 + 1)) (y3.set (y2.toNat) none))))) else (some (Sum.inl ())))
def impl_MibNextF (n : Nat) (x0 : Bridge) (x1 : (List Int)) : Option (Bind) :=
  ((impl_MibListF n x0).bind fun r1 => ((impl_MibNext_L2 n n r1 x1 0 (r1.map some)).bind fun o => match o with | .inl _ => (impl_MibNext_J1 n x1) | .inr r => some r))
/-- loop.example/g00326/impl.MibNext -/
theorem impl_MibNext (n : Nat) (x0 : Bridge) (x1 : (List Int)) (r : Bind) (H : impl_MibNextF n x0 x1 = some r) : LCall Try.prog 58 [.val true (CV.frzRow (Bridge.row x0)), .val false [.sl false 1 (CV.frzEs (x1.map intRow))]] [.val true (Bind.row r)] [] := by
  refine LCall.of_body tOk Try.func58 rfl (c := (.seq (Rg Try.f58 0) (.seq (.seq (Rg Try.f58 1) (.block 0 (.loop (.seq (Rg Try.f58 2) (.seq (.cond (.tmp 11) .skip (.exit 0)) (.seq (.block 1 (.seq (Rg Try.f58 3) (.seq (Rg Try.f58 4) (.cond (.tmp 17) (.seq (Rg Try.f58 5) .ret) .skip)))) (Rg Try.f58 6))))))) (.seq (Rg Try.f58 7) .ret)))) kr (Nat.le_of_ble_eq_true kr) 0 (rs := [.cell 4 86]) rfl [] .nil [(true, (Bind.row r))] [] [] fun cx => ?_
  show Tr _ _ _ ⟨24, 0, [sV 0 (CV.frzRow (Bridge.row x0)), sC 1 (cF 1 x1 intRow)], []⟩ _
  unfold impl_MibNextF at H
  refine Tr.rgn tOk 2 22 20 kr kr ?_
  refine Tr.seq ?_
  refine Tr.rs ?_
  refine LAt.runU tOk 1 kr ?_
  obtain ⟨r1, er1, H⟩ := bind_some H
  refine LAt.callV tOk [.rd] [] (impl_MibList n x0 r1 er1) kr kr kr kr (.inl rfl) ?_
  refine LAt.lenE tOk (t := 81) (ty := 3) (e := 86) (x := (.tmp 8)) (d := 9) (g := none) ⟨(.slot 8), [], 0, true, 5, (r1.map Bind.row)⟩ (r1).length _ kr kr kr kr kr (map_len _ _) rfl ?_
  refine LAt.runU tOk 1 kr ?_
  refine LAt.doneM 1810 16 kr ?_
  refine Tr.to ⟨24, 0, [sI 10 0, sI 9 (r1.length : Int), sC 8 (cL 5 r1 Bind.row), sA 4 4 5 0, sC 1 (cF 1 x1 intRow)], [(4, [cL 1 ([] : List Int) intRow, cI 0, cI 0, cS (⟨#[]⟩ : ByteArray), cL 1 ([] : List Int) intRow])]⟩ kr ?_
  rw [cL_opt 5 r1 Bind.row]
  obtain ⟨o5, eo5, Ho5⟩ := bind_some H
  clear H
  refine Tr.mid (ι := Unit) (fun v => ⟨24, 0, [sA 4 4 5 0, sC 1 (cF 1 x1 intRow)], [(4, [cL 1 ([] : List Int) intRow, cI 0, cI 0, cS (⟨#[]⟩ : ByteArray), cL 1 ([] : List Int) intRow])]⟩) (fun v => impl_MibNext_J1 n x1 = some r) ?_ ?_
  · refine Tr.block ?_
    refine Tr.loop (ι := Nat × (Int × (List (Option Bind)))) (fun v => ⟨24, 0, [sI 10 v.2.1, sI 9 (r1.length : Int), sC 8 (cL 5 v.2.2 (rowO 5 Bind.row)), sA 4 4 5 0, sC 1 (cF 1 x1 intRow)], [(4, [cL 1 ([] : List Int) intRow, cI 0, cI 0, cS (⟨#[]⟩ : ByteArray), cL 1 ([] : List Int) intRow])]⟩) (fun v => impl_MibNext_L2 n v.1 r1 x1 v.2.1 v.2.2 = some o5) (fun v => v.1) (n, (0, (r1.map some))) eo5 (St.sub_of [10, 9, 8, 4, 1] [4] kr) ?_
    rintro ⟨mo5, y2, y3⟩ H
    have H : impl_MibNext_L2 n mo5 r1 x1 y2 y3 = some o5 := H
    obtain _ | mo5 := mo5
    · cases (show (none : Option _) = some o5 from H)
    rw [impl_MibNext_L2] at H
    refine Tr.rgn tOk 1 3858 16 kr kr ?_
    refine Tr.seq ?_
    cases h1 : (decide (y2 < (r1.length : Int)))
    · have H := bifF h1 H
      refine Tr.cF h1 kr ?_
      refine Tr.exit ?_
      refine And.intro (fun _ => ?_) (fun h => absurd rfl h)
      have H := Option.some.inj H
      subst H
      have H := Ho5
      dsimp only at H
      exact Exists.intro () (And.intro H (St.sub_of [4, 1] [4] kr))
    have H := bifT h1 H
    refine Tr.cT h1 kr ?_
    refine Tr.skip ?_
    show Tr _ _ _ _ _
    refine Tr.seq ?_
    refine Tr.block ?_
    refine Tr.rs ?_
    obtain ⟨v6, ev6, H⟩ := bind_some H
    refine LAt.indexO tOk (t := 81) (ty := 0) (x := (.tmp 8)) (y := (.tmp 10)) (d := 12) (g := none) ⟨(.slot 8), [], 0, true, 5, (y3.map (rowO 5 Bind.row))⟩ y2 (y2.toNat) ((rowO 5 Bind.row) (some v6)) _ kr kr kr kr rfl kr (idxO_isE ev6) rfl rfl ?_
    refine LAt.loadE tOk (t := 86) (ty := 86) (x := (.tmp 12)) (d := 13) (g := none) ⟨.st [(0, 1, 27), (1, 4, 76)], 5, 80, [.sl true 1 [], .lit (.int .i64 0), .lit (.int .i64 0), .lit (.string ⟨#[]⟩), .sl true 1 []]⟩ (.slot 8) [(0, (y2.toNat))] 5 0 [cL 5 y3 (rowO 5 Bind.row)] ((rowO 5 Bind.row) (some v6)) _ kr kr kr kr kr (getQ_elem rfl (idxO_get ev6).2) rfl (by intro h; cases h) kr kr rfl ?_
    refine LAt.runU tOk 1 kr ?_
    refine LAt.storeG tOk (t := 86) (ty := 0) (ad := (.tmp 6)) (g := none) ⟨.st [(0, 1, 27), (1, 4, 76)], 5, 80, [.sl true 1 [], .lit (.int .i64 0), .lit (.int .i64 0), .lit (.string ⟨#[]⟩), .sl true 1 []]⟩ true 13 8 0 (y2.toNat) 5 6 0 y3 Bind.row v6 kr kr kr kr kr kr kr kr kr kr (idxO_get ev6).2 kr kr kr kr ?_
    refine LAt.doneM 3922 80 kr ?_
    refine Tr.rs ?_
    refine LAt.runU tOk 3 kr ?_
    obtain ⟨r7, er7, H⟩ := bind_some H
    refine LAt.callV tOk [.rd, .rd] [.box 6] (impl_LessOid n x1 v6.O r7 er7) kr kr kr kr (.inr (rets_cons (mine_cons mine_lit mine_nil) rets_nil)) ?_
    refine LAt.doneM 249682 80 kr ?_
    cases h2 : r7
    · have H := bifF h2 H
      refine Tr.cf kr ?_
      refine Tr.skip ?_
      show Tr _ _ _ _ _
      refine Tr.rgE tOk 2 773970 80 kr kr ?_
      exact Exists.intro (mo5, ((IntKind.wrap .i64 (y2 + 1)), (y3.set (y2.toNat) none))) (And.intro H (And.intro (Nat.lt_succ_self mo5) (St.sub_of [10, 9, 8, 4, 1] [4] kr)))
    have H := bifT h2 H
    refine Tr.ct kr ?_
    refine Tr.rgn tOk 2 184146 80 kr kr ?_
    refine Tr.ret ?_
    have H := Option.some.inj H
    subst H
    have H := Ho5
    dsimp only at H
    have H := Option.some.inj H
    subst H
    exact Fin.of _ [(true, (Bind.row v6))] kr rfl rfl
  rintro _ H
  have H : (impl_MibNext_J1 n x1) = some r := H
  unfold impl_MibNext_J1 at H
  show Tr _ _ _ _ _
  refine Tr.rs ?_
  refine LAt.runU tOk 1 kr ?_
  obtain ⟨r4, er4, H⟩ := bind_some H
  refine LAt.callV tOk [.rd] [] (impl_copyInts n x1 r4 er4) kr kr kr kr (.inl rfl) ?_
  refine LAt.runU tOk 3 kr ?_
  refine LAt.doneM 16 16 kr ?_
  refine Tr.ret ?_
  have H := Option.some.inj H
  subst H
  exact Fin.of _ [(true, [cL 1 r4 intRow, cI 130, cI 0, cS (⟨#[]⟩ : ByteArray), cL 1 ([] : List Int) intRow])] kr rfl rfl

def laws_eqIntS_J1 (n : Nat) : Option (Bool) :=
  (some true)
def laws_eqIntS_L2 (n : Nat) : Nat → (List Int) → (List Int) → Int → Option ((Unit) ⊕ (Bool))
  | 0, _, _, _ => none
  | mo2 + 1, x0, x1, y1 => (bif (decide (y1 < (x0.length : Int))) then ((idx x0 y1).bind fun v3 => ((idx x1 y1).bind fun v4 => (bif (v3 != v4) then (some (Sum.inr false)) else (laws_eqIntS_L2 n mo2 x0 x1 (IntKind.wrap .i64 (y1 + 1)))))) else (some (Sum.inl ())))
def laws_eqIntSF (n : Nat) (x0 : (List Int)) (x1 : (List Int)) : Option (Bool) :=
  (bif ((x0.length : Int) != (x1.length : Int)) then (some false) else ((laws_eqIntS_L2 n n x0 x1 0).bind fun o => match o with | .inl _ => (laws_eqIntS_J1 n) | .inr r => some r))
/-- loop.example/g00326/laws.eqIntS -/
theorem laws_eqIntS (n : Nat) (x0 : (List Int)) (x1 : (List Int)) (r : Bool) (H : laws_eqIntSF n x0 x1 = some r) : LCall Try.prog 21 [.val false [.sl false 1 (CV.frzEs (x0.map intRow))], .val false [.sl false 1 (CV.frzEs (x1.map intRow))]] [.val false [.lit (.bool r)]] [] := by
  refine LCall.of_body tOk Try.func21 rfl (c := (.seq (Rg Try.f21 0) (.seq (.seq (Rg Try.f21 1) (.cond (.tmp 10) (.seq (Rg Try.f21 2) .ret) .skip)) (.seq (.seq (Rg Try.f21 3) (.block 0 (.loop (.seq (.seq (Rg Try.f21 4) (.cond (.tmp 14) .skip (.exit 0))) (.seq (.block 1 (.seq (Rd Try.f21 6) (.cond (.tmp 25) (.seq (Rg Try.f21 7) .ret) .skip))) (Rg Try.f21 5)))))) (.seq (Rg Try.f21 8) .ret))))) kr (Nat.le_of_ble_eq_true kr) 0 (rs := [.tmp 4]) rfl [] .nil [(false, [.lit (.bool r)])] [] [] fun cx => ?_
  show Tr _ _ _ ⟨26, 0, [sC 0 (cF 1 x0 intRow), sC 1 (cF 1 x1 intRow)], []⟩ _
  unfold laws_eqIntSF at H
  refine Tr.rgn tOk 1 19 0 kr kr ?_
  refine Tr.seq ?_
  refine Tr.rs ?_
  refine LAt.runU tOk 1 kr ?_
  refine LAt.lenE tOk (t := 27) (ty := 3) (e := 3) (x := (.tmp 6)) (d := 7) (g := none) ⟨(.slot 6), [], 0, false, 1, (CV.frzEs (x0.map intRow))⟩ (x0).length _ kr kr kr kr kr (frz_len _ _) rfl ?_
  refine LAt.runU tOk 1 kr ?_
  refine LAt.lenE tOk (t := 27) (ty := 3) (e := 3) (x := (.tmp 8)) (d := 9) (g := none) ⟨(.slot 8), [], 0, false, 1, (CV.frzEs (x1.map intRow))⟩ (x1).length _ kr kr kr kr kr (frz_len _ _) rfl ?_
  refine LAt.runU tOk 1 kr ?_
  refine LAt.doneM 1043 0 kr ?_
  cases h1 : ((x0.length : Int) != (x1.length : Int))
  · have H := bifF h1 H
    refine Tr.cF h1 kr ?_
    refine Tr.skip ?_
    show Tr _ _ _ _ _
    refine Tr.seq ?_
    refine Tr.rgn tOk 1 51 0 kr kr ?_
    obtain ⟨o2, eo2, Ho2⟩ := bind_some H
    clear H
    refine Tr.mid (ι := Unit) (fun v => ⟨26, 0, [sB 4 false], []⟩) (fun v => laws_eqIntS_J1 n = some r) ?_ ?_
    · refine Tr.block ?_
      refine Tr.loop (ι := Nat × (Int)) (fun v => ⟨26, 0, [sI 5 v.2, sB 4 false, sC 0 (cF 1 x0 intRow), sC 1 (cF 1 x1 intRow)], []⟩) (fun v => laws_eqIntS_L2 n v.1 x0 x1 v.2 = some o2) (fun v => v.1) (n, 0) eo2 (St.sub_of [5, 4, 0, 1] [] kr) ?_
      rintro ⟨mo2, y1⟩ H
      have H : laws_eqIntS_L2 n mo2 x0 x1 y1 = some o2 := H
      obtain _ | mo2 := mo2
      · cases (show (none : Option _) = some o2 from H)
      rw [laws_eqIntS_L2] at H
      refine Tr.seq ?_
      refine Tr.rs ?_
      refine LAt.runU tOk 2 kr ?_
      refine LAt.lenE tOk (t := 27) (ty := 3) (e := 3) (x := (.tmp 12)) (d := 13) (g := none) ⟨(.slot 12), [], 0, false, 1, (CV.frzEs (x0.map intRow))⟩ (x0).length _ kr kr kr kr kr (frz_len _ _) rfl ?_
      refine LAt.runU tOk 1 kr ?_
      refine LAt.doneM 30771 0 kr ?_
      cases h2 : (decide (y1 < (x0.length : Int)))
      · have H := bifF h2 H
        refine Tr.cF h2 kr ?_
        refine Tr.exit ?_
        refine And.intro (fun _ => ?_) (fun h => absurd rfl h)
        have H := Option.some.inj H
        subst H
        have H := Ho2
        dsimp only at H
        exact Exists.intro () (And.intro H (St.sub_of [4] [] kr))
      have H := bifT h2 H
      refine Tr.cT h2 kr ?_
      refine Tr.skip ?_
      show Tr _ _ _ _ _
      refine Tr.seq ?_
      refine Tr.block ?_
      obtain ⟨v3, ev3, H⟩ := bind_some H
      obtain ⟨v4, ev4, H⟩ := bind_some H
      refine Tr.draws mixed 9 kr ⟨26, 0, [sB 25 (v3 != v4), sI 24 v4, (23, .fad ([cI v4])), sI 22 y1, sC 21 (cF 1 x1 intRow), sI 20 v3, (19, .fad ([cI v3])), sI 18 y1, sC 17 (cF 1 x0 intRow), sB 14 (decide (y1 < (x0.length : Int))), sI 13 (x0.length : Int), sC 12 (cF 1 x0 intRow), sI 11 y1, sI 5 y1, sB 4 false, sC 0 (cF 1 x0 intRow), sC 1 (cF 1 x1 intRow)], []⟩ (fun cx => ?_) ?_
      · refine AT.runU tOk [(0, []), (1, [])] 7 [] [1, 0] rfl kr (fun cx => ?_)
        refine AT.indexF tOk 2 (t := 27) (ty := 0) (x := (.tmp 17)) (y := (.tmp 18)) (d := 19) (g := none) ⟨(.slot 17), [], 0, false, 1, (CV.frzEs (x0.map intRow))⟩ y1 [cI v3] _ kr kr kr kr kr kr rfl (idx_isF ev3) rfl (fun cx => ?_)
        refine AT.runU tOk [(3, []), (4, []), (5, [])] 3 [] [5, 4, 3, 2, 1, 0] rfl kr (fun cx => ?_)
        refine AT.indexF tOk 6 (t := 27) (ty := 0) (x := (.tmp 21)) (y := (.tmp 22)) (d := 23) (g := none) ⟨(.slot 21), [], 0, false, 1, (CV.frzEs (x1.map intRow))⟩ y1 [cI v4] _ kr kr kr kr kr kr rfl (idx_isF ev4) rfl (fun cx => ?_)
        refine AT.runU tOk [(7, []), (8, [])] 0 [] [8, 7, 6, 5, 4, 3, 2, 1, 0] rfl kr (fun cx => ?_)
        exact AT.done [25, 24, 23, 22, 21, 20, 19, 18, 17, 14, 13, 12, 11, 5, 4, 0, 1] [] _ kr kr rfl
      refine Tr.to ⟨26, 0, [sB 25 (v3 != v4), sI 24 v4, (23, .fad ([cI v4])), sI 22 y1, sC 21 (cF 1 x1 intRow), sI 20 v3, (19, .fad ([cI v3])), sI 18 y1, sC 17 (cF 1 x0 intRow), sB 14 (decide (y1 < (x0.length : Int))), sI 13 (x0.length : Int), sC 12 (cF 1 x0 intRow), sI 11 y1, sI 5 y1, sB 4 false, sC 0 (cF 1 x0 intRow), sC 1 (cF 1 x1 intRow)], []⟩ kr ?_
      cases h3 : (v3 != v4)
      · have H := bifF h3 H
        refine Tr.cf kr ?_
        refine Tr.skip ?_
        show Tr _ _ _ _ _
        refine Tr.rgE tOk 3 67106867 0 kr kr ?_
        exact Exists.intro (mo2, (IntKind.wrap .i64 (y1 + 1))) (And.intro H (And.intro (Nat.lt_succ_self mo2) (St.sub_of [5, 4, 0, 1] [] kr)))
      have H := bifT h3 H
      refine Tr.ct kr ?_
      refine Tr.rgn tOk 1 67008563 0 kr kr ?_
      refine Tr.ret ?_
      have H := Option.some.inj H
      subst H
      have H := Ho2
      dsimp only at H
      have H := Option.some.inj H
      subst H
      exact Fin.of _ [(false, [cB false])] kr rfl rfl
    rintro _ H
    have H : (laws_eqIntS_J1 n) = some r := H
    unfold laws_eqIntS_J1 at H
    show Tr _ _ _ _ _
    refine Tr.rgn tOk 1 16 0 kr kr ?_
    refine Tr.ret ?_
    have H := Option.some.inj H
    subst H
    exact Fin.of _ [(false, [cB true])] kr rfl rfl
  have H := bifT h1 H
  refine Tr.cT h1 kr ?_
  refine Tr.rgn tOk 1 19 0 kr kr ?_
  refine Tr.ret ?_
  have H := Option.some.inj H
  subst H
  exact Fin.of _ [(false, [cB false])] kr rfl rfl

def laws_eqValF (n : Nat) (x0 : Val) (x1 : Val) : Option (Bool) :=
  (bif (x0.K != x1.K) then (some false) else (bif (x0.N != x1.N) then (some false) else (bif (!(x0.S.toList == x1.S.toList)) then (some false) else ((laws_eqIntSF n x0.O x1.O).bind fun r1 => (bif (!r1) then (some false) else (some true))))))
/-- loop.example/g00326/laws.eqVal -/
theorem laws_eqVal (n : Nat) (x0 : Val) (x1 : Val) (r : Bool) (H : laws_eqValF n x0 x1 = some r) : LCall Try.prog 49 [.val true (CV.frzRow (Val.row x0)), .val true (CV.frzRow (Val.row x1))] [.val false [.lit (.bool r)]] [] := by
  refine LCall.of_body tOk Try.func49 rfl (c := (.seq (Rg Try.f49 0) (.seq (.seq (Rg Try.f49 1) (.cond (.tmp 9) (.seq (Rg Try.f49 2) .ret) .skip)) (.seq (.seq (Rg Try.f49 3) (.cond (.tmp 14) (.seq (Rg Try.f49 4) .ret) .skip)) (.seq (.seq (Rg Try.f49 5) (.cond (.tmp 19) (.seq (Rg Try.f49 6) .ret) .skip)) (.seq (.seq (Rg Try.f49 7) (.cond (.tmp 25) (.seq (Rg Try.f49 8) .ret) .skip)) (.seq (Rg Try.f49 9) .ret))))))) kr (Nat.le_of_ble_eq_true kr) 0 (rs := [.tmp 4]) rfl [] .nil [(false, [.lit (.bool r)])] [] [] fun cx => ?_
  show Tr _ _ _ ⟨26, 0, [sV 0 (CV.frzRow (Val.row x0)), sV 1 (CV.frzRow (Val.row x1))], []⟩ _
  unfold laws_eqValF at H
  refine Tr.rgn tOk 3 28 12 kr kr ?_
  refine Tr.seq ?_
  refine Tr.rgn tOk 5 540 12 kr kr ?_
  cases h1 : (x0.K != x1.K)
  · have H := bifF h1 H
    refine Tr.cF h1 kr ?_
    refine Tr.skip ?_
    show Tr _ _ _ _ _
    refine Tr.seq ?_
    refine Tr.rgn tOk 5 16412 12 kr kr ?_
    cases h2 : (x0.N != x1.N)
    · have H := bifF h2 H
      refine Tr.cF h2 kr ?_
      refine Tr.skip ?_
      show Tr _ _ _ _ _
      refine Tr.seq ?_
      refine Tr.rgn tOk 5 524316 12 kr kr ?_
      cases h3 : (!(x0.S.toList == x1.S.toList))
      · have H := bifF h3 H
        refine Tr.cF h3 kr ?_
        refine Tr.skip ?_
        show Tr _ _ _ _ _
        refine Tr.seq ?_
        refine Tr.rs ?_
        refine LAt.runU tOk 4 kr ?_
        obtain ⟨r1, er1, H⟩ := bind_some H
        refine LAt.callV tOk [.rd, .rd] [] (laws_eqIntS n x0.O x1.O r1 er1) kr kr kr kr (.inl rfl) ?_
        refine LAt.runU tOk 1 kr ?_
        refine LAt.doneM 33554448 0 kr ?_
        cases h4 : (!r1)
        · have H := bifF h4 H
          refine Tr.cF h4 kr ?_
          refine Tr.skip ?_
          show Tr _ _ _ _ _
          refine Tr.rgn tOk 1 16 0 kr kr ?_
          refine Tr.ret ?_
          have H := Option.some.inj H
          subst H
          exact Fin.of _ [(false, [cB true])] kr rfl rfl
        have H := bifT h4 H
        refine Tr.cT h4 kr ?_
        refine Tr.rgn tOk 1 16 0 kr kr ?_
        refine Tr.ret ?_
        have H := Option.some.inj H
        subst H
        exact Fin.of _ [(false, [cB false])] kr rfl rfl
      have H := bifT h3 H
      refine Tr.cT h3 kr ?_
      refine Tr.rgn tOk 1 28 12 kr kr ?_
      refine Tr.ret ?_
      have H := Option.some.inj H
      subst H
      exact Fin.of _ [(false, [cB false])] kr rfl rfl
    have H := bifT h2 H
    refine Tr.cT h2 kr ?_
    refine Tr.rgn tOk 1 28 12 kr kr ?_
    refine Tr.ret ?_
    have H := Option.some.inj H
    subst H
    exact Fin.of _ [(false, [cB false])] kr rfl rfl
  have H := bifT h1 H
  refine Tr.cT h1 kr ?_
  refine Tr.rgn tOk 1 28 12 kr kr ?_
  refine Tr.ret ?_
  have H := Option.some.inj H
  subst H
  exact Fin.of _ [(false, [cB false])] kr rfl rfl

def laws_eqBindF (n : Nat) (x0 : Bind) (x1 : Bind) : Option (Bool) :=
  ((laws_eqIntSF n x0.O x1.O).bind fun r1 => (bif (!r1) then (some false) else ((laws_eqValF n x0.V x1.V).bind fun r2 => (bif (!r2) then (some false) else (some true)))))
/-- loop.example/g00326/laws.eqBind -/
theorem laws_eqBind (n : Nat) (x0 : Bind) (x1 : Bind) (r : Bool) (H : laws_eqBindF n x0 x1 = some r) : LCall Try.prog 59 [.val true (CV.frzRow (Bind.row x0)), .val true (CV.frzRow (Bind.row x1))] [.val false [.lit (.bool r)]] [] := by
  refine LCall.of_body tOk Try.func59 rfl (c := (.seq (Rg Try.f59 0) (.seq (.seq (Rg Try.f59 1) (.cond (.tmp 10) (.seq (Rg Try.f59 2) .ret) .skip)) (.seq (.seq (Rg Try.f59 3) (.cond (.tmp 16) (.seq (Rg Try.f59 4) .ret) .skip)) (.seq (Rg Try.f59 5) .ret))))) kr (Nat.le_of_ble_eq_true kr) 0 (rs := [.tmp 4]) rfl [] .nil [(false, [.lit (.bool r)])] [] [] fun cx => ?_
  show Tr _ _ _ ⟨17, 0, [sV 0 (CV.frzRow (Bind.row x0)), sV 1 (CV.frzRow (Bind.row x1))], []⟩ _
  unfold laws_eqBindF at H
  refine Tr.rgn tOk 3 28 12 kr kr ?_
  refine Tr.seq ?_
  refine Tr.rs ?_
  refine LAt.runU tOk 4 kr ?_
  obtain ⟨r1, er1, H⟩ := bind_some H
  refine LAt.callV tOk [.rd, .rd] [] (laws_eqIntS n x0.O x1.O r1 er1) kr kr kr kr (.inl rfl) ?_
  refine LAt.runU tOk 1 kr ?_
  refine LAt.doneM 1052 12 kr ?_
  cases h1 : (!r1)
  · have H := bifF h1 H
    refine Tr.cF h1 kr ?_
    refine Tr.skip ?_
    show Tr _ _ _ _ _
    refine Tr.seq ?_
    refine Tr.rs ?_
    refine LAt.runU tOk 4 kr ?_
    obtain ⟨r2, er2, H⟩ := bind_some H
    refine LAt.callV tOk [.rd, .rd] [] (laws_eqVal n x0.V x1.V r2 er2) kr kr kr kr (.inl rfl) ?_
    refine LAt.runU tOk 1 kr ?_
    refine LAt.doneM 65552 0 kr ?_
    cases h2 : (!r2)
    · have H := bifF h2 H
      refine Tr.cF h2 kr ?_
      refine Tr.skip ?_
      show Tr _ _ _ _ _
      refine Tr.rgn tOk 1 16 0 kr kr ?_
      refine Tr.ret ?_
      have H := Option.some.inj H
      subst H
      exact Fin.of _ [(false, [cB true])] kr rfl rfl
    have H := bifT h2 H
    refine Tr.cT h2 kr ?_
    refine Tr.rgn tOk 1 16 0 kr kr ?_
    refine Tr.ret ?_
    have H := Option.some.inj H
    subst H
    exact Fin.of _ [(false, [cB false])] kr rfl rfl
  have H := bifT h1 H
  refine Tr.cT h1 kr ?_
  refine Tr.rgn tOk 1 28 12 kr kr ?_
  refine Tr.ret ?_
  have H := Option.some.inj H
  subst H
  exact Fin.of _ [(false, [cB false])] kr rfl rfl

def laws_eqVecF (n : Nat) (x0 : Vec) (x1 : Vec) : Option (Bool) :=
  (bif (x0.Root != x1.Root) then (some false) else (bif (x0.Cost != x1.Cost) then (some false) else (bif (x0.Hops != x1.Hops) then (some false) else (bif (x0.Bridge != x1.Bridge) then (some false) else (bif (x0.Port != x1.Port) then (some false) else (some true))))))
/-- loop.example/g00326/laws.eqVec -/
theorem laws_eqVec (n : Nat) (x0 : Vec) (x1 : Vec) (r : Bool) (H : laws_eqVecF n x0 x1 = some r) : LCall Try.prog 173 [.val true (CV.frzRow (Vec.row x0)), .val true (CV.frzRow (Vec.row x1))] [.val false [.lit (.bool r)]] [] := by
  refine LCall.of_body tOk Try.func173 rfl (c := (.seq (Rg Try.f173 0) (.seq (.seq (Rg Try.f173 1) (.cond (.tmp 9) (.seq (Rg Try.f173 2) .ret) .skip)) (.seq (.seq (Rg Try.f173 3) (.cond (.tmp 14) (.seq (Rg Try.f173 4) .ret) .skip)) (.seq (.seq (Rg Try.f173 5) (.cond (.tmp 19) (.seq (Rg Try.f173 6) .ret) .skip)) (.seq (.seq (Rg Try.f173 7) (.cond (.tmp 24) (.seq (Rg Try.f173 8) .ret) .skip)) (.seq (.seq (Rg Try.f173 9) (.cond (.tmp 29) (.seq (Rg Try.f173 10) .ret) .skip)) (.seq (Rg Try.f173 11) .ret)))))))) kr (Nat.le_of_ble_eq_true kr) 0 (rs := [.tmp 4]) rfl [] .nil [(false, [.lit (.bool r)])] [] [] fun cx => ?_
  show Tr _ _ _ ⟨30, 0, [sV 0 (Vec.row x0), sV 1 (Vec.row x1)], []⟩ _
  unfold laws_eqVecF at H
  refine Tr.rgn tOk 3 28 12 kr kr ?_
  refine Tr.seq ?_
  refine Tr.rgn tOk 5 540 12 kr kr ?_
  cases h1 : (x0.Root != x1.Root)
  · have H := bifF h1 H
    refine Tr.cF h1 kr ?_
    refine Tr.skip ?_
    show Tr _ _ _ _ _
    refine Tr.seq ?_
    refine Tr.rgn tOk 5 16412 12 kr kr ?_
    cases h2 : (x0.Cost != x1.Cost)
    · have H := bifF h2 H
      refine Tr.cF h2 kr ?_
      refine Tr.skip ?_
      show Tr _ _ _ _ _
      refine Tr.seq ?_
      refine Tr.rgn tOk 5 524316 12 kr kr ?_
      cases h3 : (x0.Hops != x1.Hops)
      · have H := bifF h3 H
        refine Tr.cF h3 kr ?_
        refine Tr.skip ?_
        show Tr _ _ _ _ _
        refine Tr.seq ?_
        refine Tr.rgn tOk 5 16777244 12 kr kr ?_
        cases h4 : (x0.Bridge != x1.Bridge)
        · have H := bifF h4 H
          refine Tr.cF h4 kr ?_
          refine Tr.skip ?_
          show Tr _ _ _ _ _
          refine Tr.seq ?_
          refine Tr.rgn tOk 5 536870928 0 kr kr ?_
          cases h5 : (x0.Port != x1.Port)
          · have H := bifF h5 H
            refine Tr.cF h5 kr ?_
            refine Tr.skip ?_
            show Tr _ _ _ _ _
            refine Tr.rgn tOk 1 16 0 kr kr ?_
            refine Tr.ret ?_
            have H := Option.some.inj H
            subst H
            exact Fin.of _ [(false, [cB true])] kr rfl rfl
          have H := bifT h5 H
          refine Tr.cT h5 kr ?_
          refine Tr.rgn tOk 1 16 0 kr kr ?_
          refine Tr.ret ?_
          have H := Option.some.inj H
          subst H
          exact Fin.of _ [(false, [cB false])] kr rfl rfl
        have H := bifT h4 H
        refine Tr.cT h4 kr ?_
        refine Tr.rgn tOk 1 28 12 kr kr ?_
        refine Tr.ret ?_
        have H := Option.some.inj H
        subst H
        exact Fin.of _ [(false, [cB false])] kr rfl rfl
      have H := bifT h3 H
      refine Tr.cT h3 kr ?_
      refine Tr.rgn tOk 1 28 12 kr kr ?_
      refine Tr.ret ?_
      have H := Option.some.inj H
      subst H
      exact Fin.of _ [(false, [cB false])] kr rfl rfl
    have H := bifT h2 H
    refine Tr.cT h2 kr ?_
    refine Tr.rgn tOk 1 28 12 kr kr ?_
    refine Tr.ret ?_
    have H := Option.some.inj H
    subst H
    exact Fin.of _ [(false, [cB false])] kr rfl rfl
  have H := bifT h1 H
  refine Tr.cT h1 kr ?_
  refine Tr.rgn tOk 1 28 12 kr kr ?_
  refine Tr.ret ?_
  have H := Option.some.inj H
  subst H
  exact Fin.of _ [(false, [cB false])] kr rfl rfl

def laws_eqPtF (n : Nat) (x0 : Pt) (x1 : Pt) : Option (Bool) :=
  (bif (!(x0.Up == x1.Up)) then (some false) else (bif (x0.Cost != x1.Cost) then (some false) else (bif (!(x0.Has == x1.Has)) then (some false) else ((laws_eqVecF n x0.Heard x1.Heard).bind fun r1 => (bif (!r1) then (some false) else (some true))))))
/-- loop.example/g00326/laws.eqPt -/
theorem laws_eqPt (n : Nat) (x0 : Pt) (x1 : Pt) (r : Bool) (H : laws_eqPtF n x0 x1 = some r) : LCall Try.prog 161 [.val true (CV.frzRow (Pt.row x0)), .val true (CV.frzRow (Pt.row x1))] [.val false [.lit (.bool r)]] [] := by
  refine LCall.of_body tOk Try.func161 rfl (c := (.seq (Rg Try.f161 0) (.seq (.seq (Rg Try.f161 1) (.cond (.tmp 9) (.seq (Rg Try.f161 2) .ret) .skip)) (.seq (.seq (Rg Try.f161 3) (.cond (.tmp 14) (.seq (Rg Try.f161 4) .ret) .skip)) (.seq (.seq (Rg Try.f161 5) (.cond (.tmp 19) (.seq (Rg Try.f161 6) .ret) .skip)) (.seq (.seq (Rg Try.f161 7) (.cond (.tmp 25) (.seq (Rg Try.f161 8) .ret) .skip)) (.seq (Rg Try.f161 9) .ret))))))) kr (Nat.le_of_ble_eq_true kr) 0 (rs := [.tmp 4]) rfl [] .nil [(false, [.lit (.bool r)])] [] [] fun cx => ?_
  show Tr _ _ _ ⟨26, 0, [sV 0 (Pt.row x0), sV 1 (Pt.row x1)], []⟩ _
  unfold laws_eqPtF at H
  refine Tr.rgn tOk 3 28 12 kr kr ?_
  refine Tr.seq ?_
  refine Tr.rgn tOk 5 540 12 kr kr ?_
  cases h1 : (!(x0.Up == x1.Up))
  · have H := bifF h1 H
    refine Tr.cF h1 kr ?_
    refine Tr.skip ?_
    show Tr _ _ _ _ _
    refine Tr.seq ?_
    refine Tr.rgn tOk 5 16412 12 kr kr ?_
    cases h2 : (x0.Cost != x1.Cost)
    · have H := bifF h2 H
      refine Tr.cF h2 kr ?_
      refine Tr.skip ?_
      show Tr _ _ _ _ _
      refine Tr.seq ?_
      refine Tr.rgn tOk 5 524316 12 kr kr ?_
      cases h3 : (!(x0.Has == x1.Has))
      · have H := bifF h3 H
        refine Tr.cF h3 kr ?_
        refine Tr.skip ?_
        show Tr _ _ _ _ _
        refine Tr.seq ?_
        refine Tr.rs ?_
        refine LAt.runU tOk 4 kr ?_
        obtain ⟨r1, er1, H⟩ := bind_some H
        refine LAt.callV tOk [.rd, .rd] [] (laws_eqVec n x0.Heard x1.Heard r1 er1) kr kr kr kr (.inl rfl) ?_
        refine LAt.runU tOk 1 kr ?_
        refine LAt.doneM 33554448 0 kr ?_
        cases h4 : (!r1)
        · have H := bifF h4 H
          refine Tr.cF h4 kr ?_
          refine Tr.skip ?_
          show Tr _ _ _ _ _
          refine Tr.rgn tOk 1 16 0 kr kr ?_
          refine Tr.ret ?_
          have H := Option.some.inj H
          subst H
          exact Fin.of _ [(false, [cB true])] kr rfl rfl
        have H := bifT h4 H
        refine Tr.cT h4 kr ?_
        refine Tr.rgn tOk 1 16 0 kr kr ?_
        refine Tr.ret ?_
        have H := Option.some.inj H
        subst H
        exact Fin.of _ [(false, [cB false])] kr rfl rfl
      have H := bifT h3 H
      refine Tr.cT h3 kr ?_
      refine Tr.rgn tOk 1 28 12 kr kr ?_
      refine Tr.ret ?_
      have H := Option.some.inj H
      subst H
      exact Fin.of _ [(false, [cB false])] kr rfl rfl
    have H := bifT h2 H
    refine Tr.cT h2 kr ?_
    refine Tr.rgn tOk 1 28 12 kr kr ?_
    refine Tr.ret ?_
    have H := Option.some.inj H
    subst H
    exact Fin.of _ [(false, [cB false])] kr rfl rfl
  have H := bifT h1 H
  refine Tr.cT h1 kr ?_
  refine Tr.rgn tOk 1 28 12 kr kr ?_
  refine Tr.ret ?_
  have H := Option.some.inj H
  subst H
  exact Fin.of _ [(false, [cB false])] kr rfl rfl

def laws_eqPtS_J1 (n : Nat) : Option (Bool) :=
  (some true)
def laws_eqPtS_L2 (n : Nat) : Nat → (List Pt) → (List Pt) → Int → Option ((Unit) ⊕ (Bool))
  | 0, _, _, _ => none
  | mo2 + 1, x0, x1, y1 => (bif (decide (y1 < (x0.length : Int))) then ((idx x0 y1).bind fun v3 => ((idx x1 y1).bind fun v4 => ((laws_eqPtF n v3 v4).bind fun r5 => (bif (!r5) then (some (Sum.inr false)) else (laws_eqPtS_L2 n mo2 x0 x1 (IntKind.wrap .i64 (y1 + 1))))))) else (some (Sum.inl ())))
def laws_eqPtSF (n : Nat) (x0 : (List Pt)) (x1 : (List Pt)) : Option (Bool) :=
  (bif ((x0.length : Int) != (x1.length : Int)) then (some false) else ((laws_eqPtS_L2 n n x0 x1 0).bind fun o => match o with | .inl _ => (laws_eqPtS_J1 n) | .inr r => some r))
/-- loop.example/g00326/laws.eqPtS -/
theorem laws_eqPtS (n : Nat) (x0 : (List Pt)) (x1 : (List Pt)) (r : Bool) (H : laws_eqPtSF n x0 x1 = some r) : LCall Try.prog 106 [.val false [.sl false 8 (CV.frzEs (x0.map Pt.row))], .val false [.sl false 8 (CV.frzEs (x1.map Pt.row))]] [.val false [.lit (.bool r)]] [] := by
  refine LCall.of_body tOk Try.func106 rfl (c := (.seq (Rg Try.f106 0) (.seq (.seq (Rg Try.f106 1) (.cond (.tmp 10) (.seq (Rg Try.f106 2) .ret) .skip)) (.seq (.seq (Rg Try.f106 3) (.block 0 (.loop (.seq (.seq (Rg Try.f106 4) (.cond (.tmp 14) .skip (.exit 0))) (.seq (.block 1 (.seq (Rd Try.f106 6) (.cond (.tmp 26) (.seq (Rg Try.f106 7) .ret) .skip))) (Rg Try.f106 5)))))) (.seq (Rg Try.f106 8) .ret))))) kr (Nat.le_of_ble_eq_true kr) 0 (rs := [.tmp 4]) rfl [] .nil [(false, [.lit (.bool r)])] [] [] fun cx => ?_
  show Tr _ _ _ ⟨27, 0, [sC 0 (cF 8 x0 Pt.row), sC 1 (cF 8 x1 Pt.row)], []⟩ _
  unfold laws_eqPtSF at H
  refine Tr.rgn tOk 1 19 0 kr kr ?_
  refine Tr.seq ?_
  refine Tr.rs ?_
  refine LAt.runU tOk 1 kr ?_
  refine LAt.lenE tOk (t := 55) (ty := 3) (e := 114) (x := (.tmp 6)) (d := 7) (g := none) ⟨(.slot 6), [], 0, false, 8, (CV.frzEs (x0.map Pt.row))⟩ (x0).length _ kr kr kr kr kr (frz_len _ _) rfl ?_
  refine LAt.runU tOk 1 kr ?_
  refine LAt.lenE tOk (t := 55) (ty := 3) (e := 114) (x := (.tmp 8)) (d := 9) (g := none) ⟨(.slot 8), [], 0, false, 8, (CV.frzEs (x1.map Pt.row))⟩ (x1).length _ kr kr kr kr kr (frz_len _ _) rfl ?_
  refine LAt.runU tOk 1 kr ?_
  refine LAt.doneM 1043 0 kr ?_
  cases h1 : ((x0.length : Int) != (x1.length : Int))
  · have H := bifF h1 H
    refine Tr.cF h1 kr ?_
    refine Tr.skip ?_
    show Tr _ _ _ _ _
    refine Tr.seq ?_
    refine Tr.rgn tOk 1 51 0 kr kr ?_
    obtain ⟨o2, eo2, Ho2⟩ := bind_some H
    clear H
    refine Tr.mid (ι := Unit) (fun v => ⟨27, 0, [sB 4 false], []⟩) (fun v => laws_eqPtS_J1 n = some r) ?_ ?_
    · refine Tr.block ?_
      refine Tr.loop (ι := Nat × (Int)) (fun v => ⟨27, 0, [sI 5 v.2, sB 4 false, sC 0 (cF 8 x0 Pt.row), sC 1 (cF 8 x1 Pt.row)], []⟩) (fun v => laws_eqPtS_L2 n v.1 x0 x1 v.2 = some o2) (fun v => v.1) (n, 0) eo2 (St.sub_of [5, 4, 0, 1] [] kr) ?_
      rintro ⟨mo2, y1⟩ H
      have H : laws_eqPtS_L2 n mo2 x0 x1 y1 = some o2 := H
      obtain _ | mo2 := mo2
      · cases (show (none : Option _) = some o2 from H)
      rw [laws_eqPtS_L2] at H
      refine Tr.seq ?_
      refine Tr.rs ?_
      refine LAt.runU tOk 2 kr ?_
      refine LAt.lenE tOk (t := 55) (ty := 3) (e := 114) (x := (.tmp 12)) (d := 13) (g := none) ⟨(.slot 12), [], 0, false, 8, (CV.frzEs (x0.map Pt.row))⟩ (x0).length _ kr kr kr kr kr (frz_len _ _) rfl ?_
      refine LAt.runU tOk 1 kr ?_
      refine LAt.doneM 30771 0 kr ?_
      cases h2 : (decide (y1 < (x0.length : Int)))
      · have H := bifF h2 H
        refine Tr.cF h2 kr ?_
        refine Tr.exit ?_
        refine And.intro (fun _ => ?_) (fun h => absurd rfl h)
        have H := Option.some.inj H
        subst H
        have H := Ho2
        dsimp only at H
        exact Exists.intro () (And.intro H (St.sub_of [4] [] kr))
      have H := bifT h2 H
      refine Tr.cT h2 kr ?_
      refine Tr.skip ?_
      show Tr _ _ _ _ _
      refine Tr.seq ?_
      refine Tr.block ?_
      obtain ⟨v3, ev3, H⟩ := bind_some H
      obtain ⟨v4, ev4, H⟩ := bind_some H
      obtain ⟨r5, er5, H⟩ := bind_some H
      refine Tr.draws mixed 10 kr ⟨27, 0, [sB 26 (!r5), sB 25 r5, sV 24 (Pt.row v4), (23, .fad ((Pt.row v4))), sI 22 y1, sC 21 (cF 8 x1 Pt.row), sV 20 (Pt.row v3), (19, .fad ((Pt.row v3))), sI 18 y1, sC 17 (cF 8 x0 Pt.row), sB 14 (decide (y1 < (x0.length : Int))), sI 13 (x0.length : Int), sC 12 (cF 8 x0 Pt.row), sI 11 y1, sI 5 y1, sB 4 false, sC 0 (cF 8 x0 Pt.row), sC 1 (cF 8 x1 Pt.row)], []⟩ (fun cx => ?_) ?_
      · refine AT.runU tOk [(0, []), (1, [])] 8 [] [1, 0] rfl kr (fun cx => ?_)
        refine AT.indexF tOk 2 (t := 55) (ty := 0) (x := (.tmp 17)) (y := (.tmp 18)) (d := 19) (g := none) ⟨(.slot 17), [], 0, false, 8, (CV.frzEs (x0.map Pt.row))⟩ y1 (Pt.row v3) _ kr kr kr kr kr kr rfl (idx_isF ev3) rfl (fun cx => ?_)
        refine AT.runU tOk [(3, []), (4, []), (5, [])] 4 [] [5, 4, 3, 2, 1, 0] rfl kr (fun cx => ?_)
        refine AT.indexF tOk 6 (t := 55) (ty := 0) (x := (.tmp 21)) (y := (.tmp 22)) (d := 23) (g := none) ⟨(.slot 21), [], 0, false, 8, (CV.frzEs (x1.map Pt.row))⟩ y1 (Pt.row v4) _ kr kr kr kr kr kr rfl (idx_isF ev4) rfl (fun cx => ?_)
        refine AT.runU tOk [(7, [])] 2 [] [7, 6, 5, 4, 3, 2, 1, 0] rfl kr (fun cx => ?_)
        refine AT.big1 tOk 8 kr kr ?_
        refine LAt.callV tOk [.rd, .rd] [] (laws_eqPt n v3 v4 r5 er5) kr kr kr kr (.inl rfl) ?_
        refine LAt.fin kr (And.intro (And.intro kr kr) ?_)
        refine AT.runU tOk [(9, [])] 0 [] [9, 8, 7, 6, 5, 4, 3, 2, 1, 0] rfl kr (fun cx => ?_)
        exact AT.done [26, 25, 24, 23, 22, 21, 20, 19, 18, 17, 14, 13, 12, 11, 5, 4, 0, 1] [] _ kr kr rfl
      refine Tr.to ⟨27, 0, [sB 26 (!r5), sB 25 r5, sV 24 (Pt.row v4), (23, .fad ((Pt.row v4))), sI 22 y1, sC 21 (cF 8 x1 Pt.row), sV 20 (Pt.row v3), (19, .fad ((Pt.row v3))), sI 18 y1, sC 17 (cF 8 x0 Pt.row), sB 14 (decide (y1 < (x0.length : Int))), sI 13 (x0.length : Int), sC 12 (cF 8 x0 Pt.row), sI 11 y1, sI 5 y1, sB 4 false, sC 0 (cF 8 x0 Pt.row), sC 1 (cF 8 x1 Pt.row)], []⟩ kr ?_
      cases h3 : (!r5)
      · have H := bifF h3 H
        refine Tr.cf kr ?_
        refine Tr.skip ?_
        show Tr _ _ _ _ _
        refine Tr.rgE tOk 3 134215731 0 kr kr ?_
        exact Exists.intro (mo2, (IntKind.wrap .i64 (y1 + 1))) (And.intro H (And.intro (Nat.lt_succ_self mo2) (St.sub_of [5, 4, 0, 1] [] kr)))
      have H := bifT h3 H
      refine Tr.ct kr ?_
      refine Tr.rgn tOk 1 134117427 0 kr kr ?_
      refine Tr.ret ?_
      have H := Option.some.inj H
      subst H
      have H := Ho2
      dsimp only at H
      have H := Option.some.inj H
      subst H
      exact Fin.of _ [(false, [cB false])] kr rfl rfl
    rintro _ H
    have H : (laws_eqPtS_J1 n) = some r := H
    unfold laws_eqPtS_J1 at H
    show Tr _ _ _ _ _
    refine Tr.rgn tOk 1 16 0 kr kr ?_
    refine Tr.ret ?_
    have H := Option.some.inj H
    subst H
    exact Fin.of _ [(false, [cB true])] kr rfl rfl
  have H := bifT h1 H
  refine Tr.cT h1 kr ?_
  refine Tr.rgn tOk 1 19 0 kr kr ?_
  refine Tr.ret ?_
  have H := Option.some.inj H
  subst H
  exact Fin.of _ [(false, [cB false])] kr rfl rfl

def laws_eqFentF (n : Nat) (x0 : Fent) (x1 : Fent) : Option (Bool) :=
  (bif (x0.Tag != x1.Tag) then (some false) else (bif (x0.Mac != x1.Mac) then (some false) else (bif (x0.Port != x1.Port) then (some false) else (bif (x0.Age != x1.Age) then (some false) else (bif (!(x0.Static == x1.Static)) then (some false) else (some true))))))
/-- loop.example/g00326/laws.eqFent -/
theorem laws_eqFent (n : Nat) (x0 : Fent) (x1 : Fent) (r : Bool) (H : laws_eqFentF n x0 x1 = some r) : LCall Try.prog 162 [.val true (CV.frzRow (Fent.row x0)), .val true (CV.frzRow (Fent.row x1))] [.val false [.lit (.bool r)]] [] := by
  refine LCall.of_body tOk Try.func162 rfl (c := (.seq (Rg Try.f162 0) (.seq (.seq (Rg Try.f162 1) (.cond (.tmp 9) (.seq (Rg Try.f162 2) .ret) .skip)) (.seq (.seq (Rg Try.f162 3) (.cond (.tmp 14) (.seq (Rg Try.f162 4) .ret) .skip)) (.seq (.seq (Rg Try.f162 5) (.cond (.tmp 19) (.seq (Rg Try.f162 6) .ret) .skip)) (.seq (.seq (Rg Try.f162 7) (.cond (.tmp 24) (.seq (Rg Try.f162 8) .ret) .skip)) (.seq (.seq (Rg Try.f162 9) (.cond (.tmp 29) (.seq (Rg Try.f162 10) .ret) .skip)) (.seq (Rg Try.f162 11) .ret)))))))) kr (Nat.le_of_ble_eq_true kr) 0 (rs := [.tmp 4]) rfl [] .nil [(false, [.lit (.bool r)])] [] [] fun cx => ?_
  show Tr _ _ _ ⟨30, 0, [sV 0 (Fent.row x0), sV 1 (Fent.row x1)], []⟩ _
  unfold laws_eqFentF at H
  refine Tr.rgn tOk 3 28 12 kr kr ?_
  refine Tr.seq ?_
  refine Tr.rgn tOk 5 540 12 kr kr ?_
  cases h1 : (x0.Tag != x1.Tag)
  · have H := bifF h1 H
    refine Tr.cF h1 kr ?_
    refine Tr.skip ?_
    show Tr _ _ _ _ _
    refine Tr.seq ?_
    refine Tr.rgn tOk 5 16412 12 kr kr ?_
    cases h2 : (x0.Mac != x1.Mac)
    · have H := bifF h2 H
      refine Tr.cF h2 kr ?_
      refine Tr.skip ?_
      show Tr _ _ _ _ _
      refine Tr.seq ?_
      refine Tr.rgn tOk 5 524316 12 kr kr ?_
      cases h3 : (x0.Port != x1.Port)
      · have H := bifF h3 H
        refine Tr.cF h3 kr ?_
        refine Tr.skip ?_
        show Tr _ _ _ _ _
        refine Tr.seq ?_
        refine Tr.rgn tOk 5 16777244 12 kr kr ?_
        cases h4 : (x0.Age != x1.Age)
        · have H := bifF h4 H
          refine Tr.cF h4 kr ?_
          refine Tr.skip ?_
          show Tr _ _ _ _ _
          refine Tr.seq ?_
          refine Tr.rgn tOk 5 536870928 0 kr kr ?_
          cases h5 : (!(x0.Static == x1.Static))
          · have H := bifF h5 H
            refine Tr.cF h5 kr ?_
            refine Tr.skip ?_
            show Tr _ _ _ _ _
            refine Tr.rgn tOk 1 16 0 kr kr ?_
            refine Tr.ret ?_
            have H := Option.some.inj H
            subst H
            exact Fin.of _ [(false, [cB true])] kr rfl rfl
          have H := bifT h5 H
          refine Tr.cT h5 kr ?_
          refine Tr.rgn tOk 1 16 0 kr kr ?_
          refine Tr.ret ?_
          have H := Option.some.inj H
          subst H
          exact Fin.of _ [(false, [cB false])] kr rfl rfl
        have H := bifT h4 H
        refine Tr.cT h4 kr ?_
        refine Tr.rgn tOk 1 28 12 kr kr ?_
        refine Tr.ret ?_
        have H := Option.some.inj H
        subst H
        exact Fin.of _ [(false, [cB false])] kr rfl rfl
      have H := bifT h3 H
      refine Tr.cT h3 kr ?_
      refine Tr.rgn tOk 1 28 12 kr kr ?_
      refine Tr.ret ?_
      have H := Option.some.inj H
      subst H
      exact Fin.of _ [(false, [cB false])] kr rfl rfl
    have H := bifT h2 H
    refine Tr.cT h2 kr ?_
    refine Tr.rgn tOk 1 28 12 kr kr ?_
    refine Tr.ret ?_
    have H := Option.some.inj H
    subst H
    exact Fin.of _ [(false, [cB false])] kr rfl rfl
  have H := bifT h1 H
  refine Tr.cT h1 kr ?_
  refine Tr.rgn tOk 1 28 12 kr kr ?_
  refine Tr.ret ?_
  have H := Option.some.inj H
  subst H
  exact Fin.of _ [(false, [cB false])] kr rfl rfl

def laws_eqFentS_J1 (n : Nat) : Option (Bool) :=
  (some true)
def laws_eqFentS_L2 (n : Nat) : Nat → (List Fent) → (List Fent) → Int → Option ((Unit) ⊕ (Bool))
  | 0, _, _, _ => none
  | mo2 + 1, x0, x1, y1 => (bif (decide (y1 < (x0.length : Int))) then ((idx x0 y1).bind fun v3 => ((idx x1 y1).bind fun v4 => ((laws_eqFentF n v3 v4).bind fun r5 => (bif (!r5) then (some (Sum.inr false)) else (laws_eqFentS_L2 n mo2 x0 x1 (IntKind.wrap .i64 (y1 + 1))))))) else (some (Sum.inl ())))
def laws_eqFentSF (n : Nat) (x0 : (List Fent)) (x1 : (List Fent)) : Option (Bool) :=
  (bif ((x0.length : Int) != (x1.length : Int)) then (some false) else ((laws_eqFentS_L2 n n x0 x1 0).bind fun o => match o with | .inl _ => (laws_eqFentS_J1 n) | .inr r => some r))
/-- loop.example/g00326/laws.eqFentS -/
theorem laws_eqFentS (n : Nat) (x0 : (List Fent)) (x1 : (List Fent)) (r : Bool) (H : laws_eqFentSF n x0 x1 = some r) : LCall Try.prog 107 [.val false [.sl false 5 (CV.frzEs (x0.map Fent.row))], .val false [.sl false 5 (CV.frzEs (x1.map Fent.row))]] [.val false [.lit (.bool r)]] [] := by
  refine LCall.of_body tOk Try.func107 rfl (c := (.seq (Rg Try.f107 0) (.seq (.seq (Rg Try.f107 1) (.cond (.tmp 10) (.seq (Rg Try.f107 2) .ret) .skip)) (.seq (.seq (Rg Try.f107 3) (.block 0 (.loop (.seq (.seq (Rg Try.f107 4) (.cond (.tmp 14) .skip (.exit 0))) (.seq (.block 1 (.seq (Rd Try.f107 6) (.cond (.tmp 26) (.seq (Rg Try.f107 7) .ret) .skip))) (Rg Try.f107 5)))))) (.seq (Rg Try.f107 8) .ret))))) kr (Nat.le_of_ble_eq_true kr) 0 (rs := [.tmp 4]) rfl [] .nil [(false, [.lit (.bool r)])] [] [] fun cx => ?_
  show Tr _ _ _ ⟨27, 0, [sC 0 (cF 5 x0 Fent.row), sC 1 (cF 5 x1 Fent.row)], []⟩ _
  unfold laws_eqFentSF at H
  refine Tr.rgn tOk 1 19 0 kr kr ?_
  refine Tr.seq ?_
  refine Tr.rs ?_
  refine LAt.runU tOk 1 kr ?_
  refine LAt.lenE tOk (t := 56) (ty := 3) (e := 141) (x := (.tmp 6)) (d := 7) (g := none) ⟨(.slot 6), [], 0, false, 5, (CV.frzEs (x0.map Fent.row))⟩ (x0).length _ kr kr kr kr kr (frz_len _ _) rfl ?_
  refine LAt.runU tOk 1 kr ?_
  refine LAt.lenE tOk (t := 56) (ty := 3) (e := 141) (x := (.tmp 8)) (d := 9) (g := none) ⟨(.slot 8), [], 0, false, 5, (CV.frzEs (x1.map Fent.row))⟩ (x1).length _ kr kr kr kr kr (frz_len _ _) rfl ?_
  refine LAt.runU tOk 1 kr ?_
  refine LAt.doneM 1043 0 kr ?_
  cases h1 : ((x0.length : Int) != (x1.length : Int))
  · have H := bifF h1 H
    refine Tr.cF h1 kr ?_
    refine Tr.skip ?_
    show Tr _ _ _ _ _
    refine Tr.seq ?_
    refine Tr.rgn tOk 1 51 0 kr kr ?_
    obtain ⟨o2, eo2, Ho2⟩ := bind_some H
    clear H
    refine Tr.mid (ι := Unit) (fun v => ⟨27, 0, [sB 4 false], []⟩) (fun v => laws_eqFentS_J1 n = some r) ?_ ?_
    · refine Tr.block ?_
      refine Tr.loop (ι := Nat × (Int)) (fun v => ⟨27, 0, [sI 5 v.2, sB 4 false, sC 0 (cF 5 x0 Fent.row), sC 1 (cF 5 x1 Fent.row)], []⟩) (fun v => laws_eqFentS_L2 n v.1 x0 x1 v.2 = some o2) (fun v => v.1) (n, 0) eo2 (St.sub_of [5, 4, 0, 1] [] kr) ?_
      rintro ⟨mo2, y1⟩ H
      have H : laws_eqFentS_L2 n mo2 x0 x1 y1 = some o2 := H
      obtain _ | mo2 := mo2
      · cases (show (none : Option _) = some o2 from H)
      rw [laws_eqFentS_L2] at H
      refine Tr.seq ?_
      refine Tr.rs ?_
      refine LAt.runU tOk 2 kr ?_
      refine LAt.lenE tOk (t := 56) (ty := 3) (e := 141) (x := (.tmp 12)) (d := 13) (g := none) ⟨(.slot 12), [], 0, false, 5, (CV.frzEs (x0.map Fent.row))⟩ (x0).length _ kr kr kr kr kr (frz_len _ _) rfl ?_
      refine LAt.runU tOk 1 kr ?_
      refine LAt.doneM 30771 0 kr ?_
      cases h2 : (decide (y1 < (x0.length : Int)))
      · have H := bifF h2 H
        refine Tr.cF h2 kr ?_
        refine Tr.exit ?_
        refine And.intro (fun _ => ?_) (fun h => absurd rfl h)
        have H := Option.some.inj H
        subst H
        have H := Ho2
        dsimp only at H
        exact Exists.intro () (And.intro H (St.sub_of [4] [] kr))
      have H := bifT h2 H
      refine Tr.cT h2 kr ?_
      refine Tr.skip ?_
      show Tr _ _ _ _ _
      refine Tr.seq ?_
      refine Tr.block ?_
      obtain ⟨v3, ev3, H⟩ := bind_some H
      obtain ⟨v4, ev4, H⟩ := bind_some H
      obtain ⟨r5, er5, H⟩ := bind_some H
      refine Tr.draws mixed 10 kr ⟨27, 0, [sB 26 (!r5), sB 25 r5, sV 24 (Fent.row v4), (23, .fad ((Fent.row v4))), sI 22 y1, sC 21 (cF 5 x1 Fent.row), sV 20 (Fent.row v3), (19, .fad ((Fent.row v3))), sI 18 y1, sC 17 (cF 5 x0 Fent.row), sB 14 (decide (y1 < (x0.length : Int))), sI 13 (x0.length : Int), sC 12 (cF 5 x0 Fent.row), sI 11 y1, sI 5 y1, sB 4 false, sC 0 (cF 5 x0 Fent.row), sC 1 (cF 5 x1 Fent.row)], []⟩ (fun cx => ?_) ?_
      · refine AT.runU tOk [(0, []), (1, [])] 8 [] [1, 0] rfl kr (fun cx => ?_)
        refine AT.indexF tOk 2 (t := 56) (ty := 0) (x := (.tmp 17)) (y := (.tmp 18)) (d := 19) (g := none) ⟨(.slot 17), [], 0, false, 5, (CV.frzEs (x0.map Fent.row))⟩ y1 (Fent.row v3) _ kr kr kr kr kr kr rfl (idx_isF ev3) rfl (fun cx => ?_)
        refine AT.runU tOk [(3, []), (4, []), (5, [])] 4 [] [5, 4, 3, 2, 1, 0] rfl kr (fun cx => ?_)
        refine AT.indexF tOk 6 (t := 56) (ty := 0) (x := (.tmp 21)) (y := (.tmp 22)) (d := 23) (g := none) ⟨(.slot 21), [], 0, false, 5, (CV.frzEs (x1.map Fent.row))⟩ y1 (Fent.row v4) _ kr kr kr kr kr kr rfl (idx_isF ev4) rfl (fun cx => ?_)
        refine AT.runU tOk [(7, [])] 2 [] [7, 6, 5, 4, 3, 2, 1, 0] rfl kr (fun cx => ?_)
        refine AT.big1 tOk 8 kr kr ?_
        refine LAt.callV tOk [.rd, .rd] [] (laws_eqFent n v3 v4 r5 er5) kr kr kr kr (.inl rfl) ?_
        refine LAt.fin kr (And.intro (And.intro kr kr) ?_)
        refine AT.runU tOk [(9, [])] 0 [] [9, 8, 7, 6, 5, 4, 3, 2, 1, 0] rfl kr (fun cx => ?_)
        exact AT.done [26, 25, 24, 23, 22, 21, 20, 19, 18, 17, 14, 13, 12, 11, 5, 4, 0, 1] [] _ kr kr rfl
      refine Tr.to ⟨27, 0, [sB 26 (!r5), sB 25 r5, sV 24 (Fent.row v4), (23, .fad ((Fent.row v4))), sI 22 y1, sC 21 (cF 5 x1 Fent.row), sV 20 (Fent.row v3), (19, .fad ((Fent.row v3))), sI 18 y1, sC 17 (cF 5 x0 Fent.row), sB 14 (decide (y1 < (x0.length : Int))), sI 13 (x0.length : Int), sC 12 (cF 5 x0 Fent.row), sI 11 y1, sI 5 y1, sB 4 false, sC 0 (cF 5 x0 Fent.row), sC 1 (cF 5 x1 Fent.row)], []⟩ kr ?_
      cases h3 : (!r5)
      · have H := bifF h3 H
        refine Tr.cf kr ?_
        refine Tr.skip ?_
        show Tr _ _ _ _ _
        refine Tr.rgE tOk 3 134215731 0 kr kr ?_
        exact Exists.intro (mo2, (IntKind.wrap .i64 (y1 + 1))) (And.intro H (And.intro (Nat.lt_succ_self mo2) (St.sub_of [5, 4, 0, 1] [] kr)))
      have H := bifT h3 H
      refine Tr.ct kr ?_
      refine Tr.rgn tOk 1 134117427 0 kr kr ?_
      refine Tr.ret ?_
      have H := Option.some.inj H
      subst H
      have H := Ho2
      dsimp only at H
      have H := Option.some.inj H
      subst H
      exact Fin.of _ [(false, [cB false])] kr rfl rfl
    rintro _ H
    have H : (laws_eqFentS_J1 n) = some r := H
    unfold laws_eqFentS_J1 at H
    show Tr _ _ _ _ _
    refine Tr.rgn tOk 1 16 0 kr kr ?_
    refine Tr.ret ?_
    have H := Option.some.inj H
    subst H
    exact Fin.of _ [(false, [cB true])] kr rfl rfl
  have H := bifT h1 H
  refine Tr.cT h1 kr ?_
  refine Tr.rgn tOk 1 19 0 kr kr ?_
  refine Tr.ret ?_
  have H := Option.some.inj H
  subst H
  exact Fin.of _ [(false, [cB false])] kr rfl rfl

def laws_eqVrowF (n : Nat) (x0 : Vrow) (x1 : Vrow) : Option (Bool) :=
  (bif (x0.Id != x1.Id) then (some false) else (bif (x0.Members != x1.Members) then (some false) else (bif (x0.Bare != x1.Bare) then (some false) else (some true))))
/-- loop.example/g00326/laws.eqVrow -/
theorem laws_eqVrow (n : Nat) (x0 : Vrow) (x1 : Vrow) (r : Bool) (H : laws_eqVrowF n x0 x1 = some r) : LCall Try.prog 181 [.val true (CV.frzRow (Vrow.row x0)), .val true (CV.frzRow (Vrow.row x1))] [.val false [.lit (.bool r)]] [] := by
  refine LCall.of_body tOk Try.func181 rfl (c := (.seq (Rg Try.f181 0) (.seq (.seq (Rg Try.f181 1) (.cond (.tmp 9) (.seq (Rg Try.f181 2) .ret) .skip)) (.seq (.seq (Rg Try.f181 3) (.cond (.tmp 14) (.seq (Rg Try.f181 4) .ret) .skip)) (.seq (.seq (Rg Try.f181 5) (.cond (.tmp 19) (.seq (Rg Try.f181 6) .ret) .skip)) (.seq (Rg Try.f181 7) .ret)))))) kr (Nat.le_of_ble_eq_true kr) 0 (rs := [.tmp 4]) rfl [] .nil [(false, [.lit (.bool r)])] [] [] fun cx => ?_
  show Tr _ _ _ ⟨20, 0, [sV 0 (Vrow.row x0), sV 1 (Vrow.row x1)], []⟩ _
  unfold laws_eqVrowF at H
  refine Tr.rgn tOk 3 28 12 kr kr ?_
  refine Tr.seq ?_
  refine Tr.rgn tOk 5 540 12 kr kr ?_
  cases h1 : (x0.Id != x1.Id)
  · have H := bifF h1 H
    refine Tr.cF h1 kr ?_
    refine Tr.skip ?_
    show Tr _ _ _ _ _
    refine Tr.seq ?_
    refine Tr.rgn tOk 5 16412 12 kr kr ?_
    cases h2 : (x0.Members != x1.Members)
    · have H := bifF h2 H
      refine Tr.cF h2 kr ?_
      refine Tr.skip ?_
      show Tr _ _ _ _ _
      refine Tr.seq ?_
      refine Tr.rgn tOk 5 524304 0 kr kr ?_
      cases h3 : (x0.Bare != x1.Bare)
      · have H := bifF h3 H
        refine Tr.cF h3 kr ?_
        refine Tr.skip ?_
        show Tr _ _ _ _ _
        refine Tr.rgn tOk 1 16 0 kr kr ?_
        refine Tr.ret ?_
        have H := Option.some.inj H
        subst H
        exact Fin.of _ [(false, [cB true])] kr rfl rfl
      have H := bifT h3 H
      refine Tr.cT h3 kr ?_
      refine Tr.rgn tOk 1 16 0 kr kr ?_
      refine Tr.ret ?_
      have H := Option.some.inj H
      subst H
      exact Fin.of _ [(false, [cB false])] kr rfl rfl
    have H := bifT h2 H
    refine Tr.cT h2 kr ?_
    refine Tr.rgn tOk 1 28 12 kr kr ?_
    refine Tr.ret ?_
    have H := Option.some.inj H
    subst H
    exact Fin.of _ [(false, [cB false])] kr rfl rfl
  have H := bifT h1 H
  refine Tr.cT h1 kr ?_
  refine Tr.rgn tOk 1 28 12 kr kr ?_
  refine Tr.ret ?_
  have H := Option.some.inj H
  subst H
  exact Fin.of _ [(false, [cB false])] kr rfl rfl

def laws_eqVrowS_J1 (n : Nat) : Option (Bool) :=
  (some true)
def laws_eqVrowS_L2 (n : Nat) : Nat → (List Vrow) → (List Vrow) → Int → Option ((Unit) ⊕ (Bool))
  | 0, _, _, _ => none
  | mo2 + 1, x0, x1, y1 => (bif (decide (y1 < (x0.length : Int))) then ((idx x0 y1).bind fun v3 => ((idx x1 y1).bind fun v4 => ((laws_eqVrowF n v3 v4).bind fun r5 => (bif (!r5) then (some (Sum.inr false)) else (laws_eqVrowS_L2 n mo2 x0 x1 (IntKind.wrap .i64 (y1 + 1))))))) else (some (Sum.inl ())))
def laws_eqVrowSF (n : Nat) (x0 : (List Vrow)) (x1 : (List Vrow)) : Option (Bool) :=
  (bif ((x0.length : Int) != (x1.length : Int)) then (some false) else ((laws_eqVrowS_L2 n n x0 x1 0).bind fun o => match o with | .inl _ => (laws_eqVrowS_J1 n) | .inr r => some r))
/-- loop.example/g00326/laws.eqVrowS -/
theorem laws_eqVrowS (n : Nat) (x0 : (List Vrow)) (x1 : (List Vrow)) (r : Bool) (H : laws_eqVrowSF n x0 x1 = some r) : LCall Try.prog 163 [.val false [.sl false 3 (CV.frzEs (x0.map Vrow.row))], .val false [.sl false 3 (CV.frzEs (x1.map Vrow.row))]] [.val false [.lit (.bool r)]] [] := by
  refine LCall.of_body tOk Try.func163 rfl (c := (.seq (Rg Try.f163 0) (.seq (.seq (Rg Try.f163 1) (.cond (.tmp 10) (.seq (Rg Try.f163 2) .ret) .skip)) (.seq (.seq (Rg Try.f163 3) (.block 0 (.loop (.seq (.seq (Rg Try.f163 4) (.cond (.tmp 14) .skip (.exit 0))) (.seq (.block 1 (.seq (Rd Try.f163 6) (.cond (.tmp 26) (.seq (Rg Try.f163 7) .ret) .skip))) (Rg Try.f163 5)))))) (.seq (Rg Try.f163 8) .ret))))) kr (Nat.le_of_ble_eq_true kr) 0 (rs := [.tmp 4]) rfl [] .nil [(false, [.lit (.bool r)])] [] [] fun cx => ?_
  show Tr _ _ _ ⟨27, 0, [sC 0 (cF 3 x0 Vrow.row), sC 1 (cF 3 x1 Vrow.row)], []⟩ _
  unfold laws_eqVrowSF at H
  refine Tr.rgn tOk 1 19 0 kr kr ?_
  refine Tr.seq ?_
  refine Tr.rs ?_
  refine LAt.runU tOk 1 kr ?_
  refine LAt.lenE tOk (t := 57) (ty := 3) (e := 138) (x := (.tmp 6)) (d := 7) (g := none) ⟨(.slot 6), [], 0, false, 3, (CV.frzEs (x0.map Vrow.row))⟩ (x0).length _ kr kr kr kr kr (frz_len _ _) rfl ?_
  refine LAt.runU tOk 1 kr ?_
  refine LAt.lenE tOk (t := 57) (ty := 3) (e := 138) (x := (.tmp 8)) (d := 9) (g := none) ⟨(.slot 8), [], 0, false, 3, (CV.frzEs (x1.map Vrow.row))⟩ (x1).length _ kr kr kr kr kr (frz_len _ _) rfl ?_
  refine LAt.runU tOk 1 kr ?_
  refine LAt.doneM 1043 0 kr ?_
  cases h1 : ((x0.length : Int) != (x1.length : Int))
  · have H := bifF h1 H
    refine Tr.cF h1 kr ?_
    refine Tr.skip ?_
    show Tr _ _ _ _ _
    refine Tr.seq ?_
    refine Tr.rgn tOk 1 51 0 kr kr ?_
    obtain ⟨o2, eo2, Ho2⟩ := bind_some H
    clear H
    refine Tr.mid (ι := Unit) (fun v => ⟨27, 0, [sB 4 false], []⟩) (fun v => laws_eqVrowS_J1 n = some r) ?_ ?_
    · refine Tr.block ?_
      refine Tr.loop (ι := Nat × (Int)) (fun v => ⟨27, 0, [sI 5 v.2, sB 4 false, sC 0 (cF 3 x0 Vrow.row), sC 1 (cF 3 x1 Vrow.row)], []⟩) (fun v => laws_eqVrowS_L2 n v.1 x0 x1 v.2 = some o2) (fun v => v.1) (n, 0) eo2 (St.sub_of [5, 4, 0, 1] [] kr) ?_
      rintro ⟨mo2, y1⟩ H
      have H : laws_eqVrowS_L2 n mo2 x0 x1 y1 = some o2 := H
      obtain _ | mo2 := mo2
      · cases (show (none : Option _) = some o2 from H)
      rw [laws_eqVrowS_L2] at H
      refine Tr.seq ?_
      refine Tr.rs ?_
      refine LAt.runU tOk 2 kr ?_
      refine LAt.lenE tOk (t := 57) (ty := 3) (e := 138) (x := (.tmp 12)) (d := 13) (g := none) ⟨(.slot 12), [], 0, false, 3, (CV.frzEs (x0.map Vrow.row))⟩ (x0).length _ kr kr kr kr kr (frz_len _ _) rfl ?_
      refine LAt.runU tOk 1 kr ?_
      refine LAt.doneM 30771 0 kr ?_
      cases h2 : (decide (y1 < (x0.length : Int)))
      · have H := bifF h2 H
        refine Tr.cF h2 kr ?_
        refine Tr.exit ?_
        refine And.intro (fun _ => ?_) (fun h => absurd rfl h)
        have H := Option.some.inj H
        subst H
        have H := Ho2
        dsimp only at H
        exact Exists.intro () (And.intro H (St.sub_of [4] [] kr))
      have H := bifT h2 H
      refine Tr.cT h2 kr ?_
      refine Tr.skip ?_
      show Tr _ _ _ _ _
      refine Tr.seq ?_
      refine Tr.block ?_
      obtain ⟨v3, ev3, H⟩ := bind_some H
      obtain ⟨v4, ev4, H⟩ := bind_some H
      obtain ⟨r5, er5, H⟩ := bind_some H
      refine Tr.draws mixed 10 kr ⟨27, 0, [sB 26 (!r5), sB 25 r5, sV 24 (Vrow.row v4), (23, .fad ((Vrow.row v4))), sI 22 y1, sC 21 (cF 3 x1 Vrow.row), sV 20 (Vrow.row v3), (19, .fad ((Vrow.row v3))), sI 18 y1, sC 17 (cF 3 x0 Vrow.row), sB 14 (decide (y1 < (x0.length : Int))), sI 13 (x0.length : Int), sC 12 (cF 3 x0 Vrow.row), sI 11 y1, sI 5 y1, sB 4 false, sC 0 (cF 3 x0 Vrow.row), sC 1 (cF 3 x1 Vrow.row)], []⟩ (fun cx => ?_) ?_
      · refine AT.runU tOk [(0, []), (1, [])] 8 [] [1, 0] rfl kr (fun cx => ?_)
        refine AT.indexF tOk 2 (t := 57) (ty := 0) (x := (.tmp 17)) (y := (.tmp 18)) (d := 19) (g := none) ⟨(.slot 17), [], 0, false, 3, (CV.frzEs (x0.map Vrow.row))⟩ y1 (Vrow.row v3) _ kr kr kr kr kr kr rfl (idx_isF ev3) rfl (fun cx => ?_)
        refine AT.runU tOk [(3, []), (4, []), (5, [])] 4 [] [5, 4, 3, 2, 1, 0] rfl kr (fun cx => ?_)
        refine AT.indexF tOk 6 (t := 57) (ty := 0) (x := (.tmp 21)) (y := (.tmp 22)) (d := 23) (g := none) ⟨(.slot 21), [], 0, false, 3, (CV.frzEs (x1.map Vrow.row))⟩ y1 (Vrow.row v4) _ kr kr kr kr kr kr rfl (idx_isF ev4) rfl (fun cx => ?_)
        refine AT.runU tOk [(7, [])] 2 [] [7, 6, 5, 4, 3, 2, 1, 0] rfl kr (fun cx => ?_)
        refine AT.big1 tOk 8 kr kr ?_
        refine LAt.callV tOk [.rd, .rd] [] (laws_eqVrow n v3 v4 r5 er5) kr kr kr kr (.inl rfl) ?_
        refine LAt.fin kr (And.intro (And.intro kr kr) ?_)
        refine AT.runU tOk [(9, [])] 0 [] [9, 8, 7, 6, 5, 4, 3, 2, 1, 0] rfl kr (fun cx => ?_)
        exact AT.done [26, 25, 24, 23, 22, 21, 20, 19, 18, 17, 14, 13, 12, 11, 5, 4, 0, 1] [] _ kr kr rfl
      refine Tr.to ⟨27, 0, [sB 26 (!r5), sB 25 r5, sV 24 (Vrow.row v4), (23, .fad ((Vrow.row v4))), sI 22 y1, sC 21 (cF 3 x1 Vrow.row), sV 20 (Vrow.row v3), (19, .fad ((Vrow.row v3))), sI 18 y1, sC 17 (cF 3 x0 Vrow.row), sB 14 (decide (y1 < (x0.length : Int))), sI 13 (x0.length : Int), sC 12 (cF 3 x0 Vrow.row), sI 11 y1, sI 5 y1, sB 4 false, sC 0 (cF 3 x0 Vrow.row), sC 1 (cF 3 x1 Vrow.row)], []⟩ kr ?_
      cases h3 : (!r5)
      · have H := bifF h3 H
        refine Tr.cf kr ?_
        refine Tr.skip ?_
        show Tr _ _ _ _ _
        refine Tr.rgE tOk 3 134215731 0 kr kr ?_
        exact Exists.intro (mo2, (IntKind.wrap .i64 (y1 + 1))) (And.intro H (And.intro (Nat.lt_succ_self mo2) (St.sub_of [5, 4, 0, 1] [] kr)))
      have H := bifT h3 H
      refine Tr.ct kr ?_
      refine Tr.rgn tOk 1 134117427 0 kr kr ?_
      refine Tr.ret ?_
      have H := Option.some.inj H
      subst H
      have H := Ho2
      dsimp only at H
      have H := Option.some.inj H
      subst H
      exact Fin.of _ [(false, [cB false])] kr rfl rfl
    rintro _ H
    have H : (laws_eqVrowS_J1 n) = some r := H
    unfold laws_eqVrowS_J1 at H
    show Tr _ _ _ _ _
    refine Tr.rgn tOk 1 16 0 kr kr ?_
    refine Tr.ret ?_
    have H := Option.some.inj H
    subst H
    exact Fin.of _ [(false, [cB true])] kr rfl rfl
  have H := bifT h1 H
  refine Tr.cT h1 kr ?_
  refine Tr.rgn tOk 1 19 0 kr kr ?_
  refine Tr.ret ?_
  have H := Option.some.inj H
  subst H
  exact Fin.of _ [(false, [cB false])] kr rfl rfl

def laws_eqVtabF (n : Nat) (x0 : Vtab) (x1 : Vtab) : Option (Bool) :=
  ((laws_eqVrowSF n x0.Rows x1.Rows).bind fun r1 => (bif (!r1) then (some false) else ((laws_eqIntSF n x0.Pvid x1.Pvid).bind fun r2 => (bif (!r2) then (some false) else (some true)))))
/-- loop.example/g00326/laws.eqVtab -/
theorem laws_eqVtab (n : Nat) (x0 : Vtab) (x1 : Vtab) (r : Bool) (H : laws_eqVtabF n x0 x1 = some r) : LCall Try.prog 108 [.val true (CV.frzRow (Vtab.row x0)), .val true (CV.frzRow (Vtab.row x1))] [.val false [.lit (.bool r)]] [] := by
  refine LCall.of_body tOk Try.func108 rfl (c := (.seq (Rg Try.f108 0) (.seq (.seq (Rg Try.f108 1) (.cond (.tmp 10) (.seq (Rg Try.f108 2) .ret) .skip)) (.seq (.seq (Rg Try.f108 3) (.cond (.tmp 16) (.seq (Rg Try.f108 4) .ret) .skip)) (.seq (Rg Try.f108 5) .ret))))) kr (Nat.le_of_ble_eq_true kr) 0 (rs := [.tmp 4]) rfl [] .nil [(false, [.lit (.bool r)])] [] [] fun cx => ?_
  show Tr _ _ _ ⟨17, 0, [sV 0 (CV.frzRow (Vtab.row x0)), sV 1 (CV.frzRow (Vtab.row x1))], []⟩ _
  unfold laws_eqVtabF at H
  refine Tr.rgn tOk 3 28 12 kr kr ?_
  refine Tr.seq ?_
  refine Tr.rs ?_
  refine LAt.runU tOk 4 kr ?_
  obtain ⟨r1, er1, H⟩ := bind_some H
  refine LAt.callV tOk [.rd, .rd] [] (laws_eqVrowS n x0.Rows x1.Rows r1 er1) kr kr kr kr (.inl rfl) ?_
  refine LAt.runU tOk 1 kr ?_
  refine LAt.doneM 1052 12 kr ?_
  cases h1 : (!r1)
  · have H := bifF h1 H
    refine Tr.cF h1 kr ?_
    refine Tr.skip ?_
    show Tr _ _ _ _ _
    refine Tr.seq ?_
    refine Tr.rs ?_
    refine LAt.runU tOk 4 kr ?_
    obtain ⟨r2, er2, H⟩ := bind_some H
    refine LAt.callV tOk [.rd, .rd] [] (laws_eqIntS n x0.Pvid x1.Pvid r2 er2) kr kr kr kr (.inl rfl) ?_
    refine LAt.runU tOk 1 kr ?_
    refine LAt.doneM 65552 0 kr ?_
    cases h2 : (!r2)
    · have H := bifF h2 H
      refine Tr.cF h2 kr ?_
      refine Tr.skip ?_
      show Tr _ _ _ _ _
      refine Tr.rgn tOk 1 16 0 kr kr ?_
      refine Tr.ret ?_
      have H := Option.some.inj H
      subst H
      exact Fin.of _ [(false, [cB true])] kr rfl rfl
    have H := bifT h2 H
    refine Tr.cT h2 kr ?_
    refine Tr.rgn tOk 1 16 0 kr kr ?_
    refine Tr.ret ?_
    have H := Option.some.inj H
    subst H
    exact Fin.of _ [(false, [cB false])] kr rfl rfl
  have H := bifT h1 H
  refine Tr.cT h1 kr ?_
  refine Tr.rgn tOk 1 28 12 kr kr ?_
  refine Tr.ret ?_
  have H := Option.some.inj H
  subst H
  exact Fin.of _ [(false, [cB false])] kr rfl rfl

def laws_eqBridgeF (n : Nat) (x0 : Bridge) (x1 : Bridge) : Option (Bool) :=
  (bif (x0.Id != x1.Id) then (some false) else (bif (!(x0.Name.toList == x1.Name.toList)) then (some false) else ((laws_eqPtSF n x0.Ports x1.Ports).bind fun r1 => (bif (!r1) then (some false) else ((laws_eqFentSF n x0.F x1.F).bind fun r2 => (bif (!r2) then (some false) else ((laws_eqVtabF n x0.V x1.V).bind fun r3 => (bif (!r3) then (some false) else (bif (x0.Ticks != x1.Ticks) then (some false) else (bif (x0.Parse != x1.Parse) then (some false) else (bif (x0.Word != x1.Word) then (some false) else (bif (x0.Drops != x1.Drops) then (some false) else (bif (x0.Vers != x1.Vers) then (some false) else (some true))))))))))))))
/-- loop.example/g00326/laws.eqBridge -/
theorem laws_eqBridge (n : Nat) (x0 : Bridge) (x1 : Bridge) (r : Bool) (H : laws_eqBridgeF n x0 x1 = some r) : LCall Try.prog 39 [.val true (CV.frzRow (Bridge.row x0)), .val true (CV.frzRow (Bridge.row x1))] [.val false [.lit (.bool r)]] [] := by
  refine LCall.of_body tOk Try.func39 rfl (c := (.seq (Rg Try.f39 0) (.seq (.seq (Rg Try.f39 1) (.cond (.tmp 9) (.seq (Rg Try.f39 2) .ret) .skip)) (.seq (.seq (Rg Try.f39 3) (.cond (.tmp 14) (.seq (Rg Try.f39 4) .ret) .skip)) (.seq (.seq (Rg Try.f39 5) (.cond (.tmp 20) (.seq (Rg Try.f39 6) .ret) .skip)) (.seq (.seq (Rg Try.f39 7) (.cond (.tmp 26) (.seq (Rg Try.f39 8) .ret) .skip)) (.seq (.seq (Rg Try.f39 9) (.cond (.tmp 32) (.seq (Rg Try.f39 10) .ret) .skip)) (.seq (.seq (Rg Try.f39 11) (.cond (.tmp 37) (.seq (Rg Try.f39 12) .ret) .skip)) (.seq (.seq (Rg Try.f39 13) (.cond (.tmp 42) (.seq (Rg Try.f39 14) .ret) .skip)) (.seq (.seq (Rg Try.f39 15) (.cond (.tmp 47) (.seq (Rg Try.f39 16) .ret) .skip)) (.seq (.seq (Rg Try.f39 17) (.cond (.tmp 52) (.seq (Rg Try.f39 18) .ret) .skip)) (.seq (.seq (Rg Try.f39 19) (.cond (.tmp 57) (.seq (Rg Try.f39 20) .ret) .skip)) (.seq (Rg Try.f39 21) .ret))))))))))))) kr (Nat.le_of_ble_eq_true kr) 0 (rs := [.tmp 4]) rfl [] .nil [(false, [.lit (.bool r)])] [] [] fun cx => ?_
  show Tr _ _ _ ⟨58, 0, [sV 0 (CV.frzRow (Bridge.row x0)), sV 1 (CV.frzRow (Bridge.row x1))], []⟩ _
  unfold laws_eqBridgeF at H
  refine Tr.rgn tOk 3 28 12 kr kr ?_
  refine Tr.seq ?_
  refine Tr.rgn tOk 5 540 12 kr kr ?_
  cases h1 : (x0.Id != x1.Id)
  · have H := bifF h1 H
    refine Tr.cF h1 kr ?_
    refine Tr.skip ?_
    show Tr _ _ _ _ _
    refine Tr.seq ?_
    refine Tr.rgn tOk 5 16412 12 kr kr ?_
    cases h2 : (!(x0.Name.toList == x1.Name.toList))
    · have H := bifF h2 H
      refine Tr.cF h2 kr ?_
      refine Tr.skip ?_
      show Tr _ _ _ _ _
      refine Tr.seq ?_
      refine Tr.rs ?_
      refine LAt.runU tOk 4 kr ?_
      obtain ⟨r1, er1, H⟩ := bind_some H
      refine LAt.callV tOk [.rd, .rd] [] (laws_eqPtS n x0.Ports x1.Ports r1 er1) kr kr kr kr (.inl rfl) ?_
      refine LAt.runU tOk 1 kr ?_
      refine LAt.doneM 1048604 12 kr ?_
      cases h3 : (!r1)
      · have H := bifF h3 H
        refine Tr.cF h3 kr ?_
        refine Tr.skip ?_
        show Tr _ _ _ _ _
        refine Tr.seq ?_
        refine Tr.rs ?_
        refine LAt.runU tOk 4 kr ?_
        obtain ⟨r2, er2, H⟩ := bind_some H
        refine LAt.callV tOk [.rd, .rd] [] (laws_eqFentS n x0.F x1.F r2 er2) kr kr kr kr (.inl rfl) ?_
        refine LAt.runU tOk 1 kr ?_
        refine LAt.doneM 67108892 12 kr ?_
        cases h4 : (!r2)
        · have H := bifF h4 H
          refine Tr.cF h4 kr ?_
          refine Tr.skip ?_
          show Tr _ _ _ _ _
          refine Tr.seq ?_
          refine Tr.rs ?_
          refine LAt.runU tOk 4 kr ?_
          obtain ⟨r3, er3, H⟩ := bind_some H
          refine LAt.callV tOk [.rd, .rd] [] (laws_eqVtab n x0.V x1.V r3 er3) kr kr kr kr (.inl rfl) ?_
          refine LAt.runU tOk 1 kr ?_
          refine LAt.doneM 4294967324 12 kr ?_
          cases h5 : (!r3)
          · have H := bifF h5 H
            refine Tr.cF h5 kr ?_
            refine Tr.skip ?_
            show Tr _ _ _ _ _
            refine Tr.seq ?_
            refine Tr.rgn tOk 5 137438953500 12 kr kr ?_
            refine Tr.to ⟨58, 0, [sB 37 (x0.Ticks != x1.Ticks), sB 4 false, sA 3 3 11 0, sA 2 2 11 0], [(3, (CV.frzRow (Bridge.row x1))), (2, (CV.frzRow (Bridge.row x0)))]⟩ kr ?_
            cases h6 : (x0.Ticks != x1.Ticks)
            · have H := bifF h6 H
              refine Tr.cf kr ?_
              refine Tr.skip ?_
              show Tr _ _ _ _ _
              refine Tr.seq ?_
              refine Tr.rgn tOk 5 4398046511132 12 kr kr ?_
              cases h7 : (x0.Parse != x1.Parse)
              · have H := bifF h7 H
                refine Tr.cF h7 kr ?_
                refine Tr.skip ?_
                show Tr _ _ _ _ _
                refine Tr.seq ?_
                refine Tr.rgn tOk 5 140737488355356 12 kr kr ?_
                cases h8 : (x0.Word != x1.Word)
                · have H := bifF h8 H
                  refine Tr.cF h8 kr ?_
                  refine Tr.skip ?_
                  show Tr _ _ _ _ _
                  refine Tr.seq ?_
                  refine Tr.rgn tOk 5 4503599627370524 12 kr kr ?_
                  cases h9 : (x0.Drops != x1.Drops)
                  · have H := bifF h9 H
                    refine Tr.cF h9 kr ?_
                    refine Tr.skip ?_
                    show Tr _ _ _ _ _
                    refine Tr.seq ?_
                    refine Tr.rgn tOk 5 144115188075855888 0 kr kr ?_
                    cases h10 : (x0.Vers != x1.Vers)
                    · have H := bifF h10 H
                      refine Tr.cF h10 kr ?_
                      refine Tr.skip ?_
                      show Tr _ _ _ _ _
                      refine Tr.rgn tOk 1 16 0 kr kr ?_
                      refine Tr.ret ?_
                      have H := Option.some.inj H
                      subst H
                      exact Fin.of _ [(false, [cB true])] kr rfl rfl
                    have H := bifT h10 H
                    refine Tr.cT h10 kr ?_
                    refine Tr.rgn tOk 1 16 0 kr kr ?_
                    refine Tr.ret ?_
                    have H := Option.some.inj H
                    subst H
                    exact Fin.of _ [(false, [cB false])] kr rfl rfl
                  have H := bifT h9 H
                  refine Tr.cT h9 kr ?_
                  refine Tr.rgn tOk 1 28 12 kr kr ?_
                  refine Tr.ret ?_
                  have H := Option.some.inj H
                  subst H
                  exact Fin.of _ [(false, [cB false])] kr rfl rfl
                have H := bifT h8 H
                refine Tr.cT h8 kr ?_
                refine Tr.rgn tOk 1 28 12 kr kr ?_
                refine Tr.ret ?_
                have H := Option.some.inj H
                subst H
                exact Fin.of _ [(false, [cB false])] kr rfl rfl
              have H := bifT h7 H
              refine Tr.cT h7 kr ?_
              refine Tr.rgn tOk 1 28 12 kr kr ?_
              refine Tr.ret ?_
              have H := Option.some.inj H
              subst H
              exact Fin.of _ [(false, [cB false])] kr rfl rfl
            have H := bifT h6 H
            refine Tr.ct kr ?_
            refine Tr.rgn tOk 1 28 12 kr kr ?_
            refine Tr.ret ?_
            have H := Option.some.inj H
            subst H
            exact Fin.of _ [(false, [cB false])] kr rfl rfl
          have H := bifT h5 H
          refine Tr.cT h5 kr ?_
          refine Tr.rgn tOk 1 28 12 kr kr ?_
          refine Tr.ret ?_
          have H := Option.some.inj H
          subst H
          exact Fin.of _ [(false, [cB false])] kr rfl rfl
        have H := bifT h4 H
        refine Tr.cT h4 kr ?_
        refine Tr.rgn tOk 1 28 12 kr kr ?_
        refine Tr.ret ?_
        have H := Option.some.inj H
        subst H
        exact Fin.of _ [(false, [cB false])] kr rfl rfl
      have H := bifT h3 H
      refine Tr.cT h3 kr ?_
      refine Tr.rgn tOk 1 28 12 kr kr ?_
      refine Tr.ret ?_
      have H := Option.some.inj H
      subst H
      exact Fin.of _ [(false, [cB false])] kr rfl rfl
    have H := bifT h2 H
    refine Tr.cT h2 kr ?_
    refine Tr.rgn tOk 1 28 12 kr kr ?_
    refine Tr.ret ?_
    have H := Option.some.inj H
    subst H
    exact Fin.of _ [(false, [cB false])] kr rfl rfl
  have H := bifT h1 H
  refine Tr.cT h1 kr ?_
  refine Tr.rgn tOk 1 28 12 kr kr ?_
  refine Tr.ret ?_
  have H := Option.some.inj H
  subst H
  exact Fin.of _ [(false, [cB false])] kr rfl rfl

def laws_markPtS_J1 (n : Nat) (y4 : (List Pt)) (y5 : Int) : Option (Int × (List Pt)) :=
  (some (y5, y4))
def laws_markPtS_L2 (n : Nat) : Nat → Int → (List Pt) → Int → Option (((List Pt) × Int) ⊕ (Int × (List Pt)))
  | 0, _, _, _ => none
  | mo6 + 1, y1, y2, y3 => (bif (decide (y1 < (y2.length : Int))) then (bif (decide ((3 : Int) ≠ 0)) then ((idx y2 y1).bind fun v8 => ((idx (y2.set (y1.toNat) (⟨((Int.tmod y3 3) == 0), v8.Cost, v8.Has, v8.Heard⟩ : Pt)) y1).bind fun v9 => (bif (decide ((3 : Int) ≠ 0)) then ((idx ((y2.set (y1.toNat) (⟨((Int.tmod y3 3) == 0), v8.Cost, v8.Has, v8.Heard⟩ : Pt)).set (y1.toNat) (⟨v9.Up, (IntKind.wrap .i64 (y3 + 1)), v9.Has, v9.Heard⟩ : Pt)) y1).bind fun v11 => ((idx (((y2.set (y1.toNat) (⟨((Int.tmod y3 3) == 0), v8.Cost, v8.Has, v8.Heard⟩ : Pt)).set (y1.toNat) (⟨v9.Up, (IntKind.wrap .i64 (y3 + 1)), v9.Has, v9.Heard⟩ : Pt)).set (y1.toNat) (⟨v11.Up, v11.Cost, ((Int.tmod (IntKind.wrap .i64 ((IntKind.wrap .i64 (y3 + 1)) + 1)) 3) == 0), v11.Heard⟩ : Pt)) y1).bind fun v12 => ((idx ((((y2.set (y1.toNat) (⟨((Int.tmod y3 3) == 0), v8.Cost, v8.Has, v8.Heard⟩ : Pt)).set (y1.toNat) (⟨v9.Up, (IntKind.wrap .i64 (y3 + 1)), v9.Has, v9.Heard⟩ : Pt)).set (y1.toNat) (⟨v11.Up, v11.Cost, ((Int.tmod (IntKind.wrap .i64 ((IntKind.wrap .i64 (y3 + 1)) + 1)) 3) == 0), v11.Heard⟩ : Pt)).set (y1.toNat) (⟨v12.Up, v12.Cost, v12.Has, (⟨(IntKind.wrap .i64 ((IntKind.wrap .i64 ((IntKind.wrap .i64 (y3 + 1)) + 1)) + 1)), v12.Heard.Cost, v12.Heard.Hops, v12.Heard.Bridge, v12.Heard.Port⟩ : Vec)⟩ : Pt)) y1).bind fun v13 => ((idx (((((y2.set (y1.toNat) (⟨((Int.tmod y3 3) == 0), v8.Cost, v8.Has, v8.Heard⟩ : Pt)).set (y1.toNat) (⟨v9.Up, (IntKind.wrap .i64 (y3 + 1)), v9.Has, v9.Heard⟩ : Pt)).set (y1.toNat) (⟨v11.Up, v11.Cost, ((Int.tmod (IntKind.wrap .i64 ((IntKind.wrap .i64 (y3 + 1)) + 1)) 3) == 0), v11.Heard⟩ : Pt)).set (y1.toNat) (⟨v12.Up, v12.Cost, v12.Has, (⟨(IntKind.wrap .i64 ((IntKind.wrap .i64 ((IntKind.wrap .i64 (y3 + 1)) + 1)) + 1)), v12.Heard.Cost, v12.Heard.Hops, v12.Heard.Bridge, v12.Heard.Port⟩ : Vec)⟩ : Pt)).set (y1.toNat) (⟨v13.Up, v13.Cost, v13.Has, (⟨v13.Heard.Root, (IntKind.wrap .i64 ((IntKind.wrap .i64 ((IntKind.wrap .i64 ((IntKind.wrap .i64 (y3 + 1)) + 1)) + 1)) + 1)), v13.Heard.Hops, v13.Heard.Bridge, v13.Heard.Port⟩ : Vec)⟩ : Pt)) y1).bind fun v14 => ((idx ((((((y2.set (y1.toNat) (⟨((Int.tmod y3 3) == 0), v8.Cost, v8.Has, v8.Heard⟩ : Pt)).set (y1.toNat) (⟨v9.Up, (IntKind.wrap .i64 (y3 + 1)), v9.Has, v9.Heard⟩ : Pt)).set (y1.toNat) (⟨v11.Up, v11.Cost, ((Int.tmod (IntKind.wrap .i64 ((IntKind.wrap .i64 (y3 + 1)) + 1)) 3) == 0), v11.Heard⟩ : Pt)).set (y1.toNat) (⟨v12.Up, v12.Cost, v12.Has, (⟨(IntKind.wrap .i64 ((IntKind.wrap .i64 ((IntKind.wrap .i64 (y3 + 1)) + 1)) + 1)), v12.Heard.Cost, v12.Heard.Hops, v12.Heard.Bridge, v12.Heard.Port⟩ : Vec)⟩ : Pt)).set (y1.toNat) (⟨v13.Up, v13.Cost, v13.Has, (⟨v13.Heard.Root, (IntKind.wrap .i64 ((IntKind.wrap .i64 ((IntKind.wrap .i64 ((IntKind.wrap .i64 (y3 + 1)) + 1)) + 1)) + 1)), v13.Heard.Hops, v13.Heard.Bridge, v13.Heard.Port⟩ : Vec)⟩ : Pt)).set (y1.toNat) (⟨v14.Up, v14.Cost, v14.Has, (⟨v14.Heard.Root, v14.Heard.Cost, (IntKind.wrap .i64 ((IntKind.wrap .i64 ((IntKind.wrap .i64 ((IntKind.wrap .i64 ((IntKind.wrap .i64 (y3 + 1)) + 1)) + 1)) + 1)) + 1)), v14.Heard.Bridge, v14.Heard.Port⟩ : Vec)⟩ : Pt)) y1).bind fun v15 => ((idx (((((((y2.set (y1.toNat) (⟨((Int.tmod y3 3) == 0), v8.Cost, v8.Has, v8.Heard⟩ : Pt)).set (y1.toNat) (⟨v9.Up, (IntKind.wrap .i64 (y3 + 1)), v9.Has, v9.Heard⟩ : Pt)).set (y1.toNat) (⟨v11.Up, v11.Cost, ((Int.tmod (IntKind.wrap .i64 ((IntKind.wrap .i64 (y3 + 1)) + 1)) 3) == 0), v11.Heard⟩ : Pt)).set (y1.toNat) (⟨v12.Up, v12.Cost, v12.Has, (⟨(IntKind.wrap .i64 ((IntKind.wrap .i64 ((IntKind.wrap .i64 (y3 + 1)) + 1)) + 1)), v12.Heard.Cost, v12.Heard.Hops, v12.Heard.Bridge, v12.Heard.Port⟩ : Vec)⟩ : Pt)).set (y1.toNat) (⟨v13.Up, v13.Cost, v13.Has, (⟨v13.Heard.Root, (IntKind.wrap .i64 ((IntKind.wrap .i64 ((IntKind.wrap .i64 ((IntKind.wrap .i64 (y3 + 1)) + 1)) + 1)) + 1)), v13.Heard.Hops, v13.Heard.Bridge, v13.Heard.Port⟩ : Vec)⟩ : Pt)).set (y1.toNat) (⟨v14.Up, v14.Cost, v14.Has, (⟨v14.Heard.Root, v14.Heard.Cost, (IntKind.wrap .i64 ((IntKind.wrap .i64 ((IntKind.wrap .i64 ((IntKind.wrap .i64 ((IntKind.wrap .i64 (y3 + 1)) + 1)) + 1)) + 1)) + 1)), v14.Heard.Bridge, v14.Heard.Port⟩ : Vec)⟩ : Pt)).set (y1.toNat) (⟨v15.Up, v15.Cost, v15.Has, (⟨v15.Heard.Root, v15.Heard.Cost, v15.Heard.Hops, (IntKind.wrap .i64 ((IntKind.wrap .i64 ((IntKind.wrap .i64 ((IntKind.wrap .i64 ((IntKind.wrap .i64 ((IntKind.wrap .i64 (y3 + 1)) + 1)) + 1)) + 1)) + 1)) + 1)), v15.Heard.Port⟩ : Vec)⟩ : Pt)) y1).bind fun v16 => (laws_markPtS_L2 n mo6 (IntKind.wrap .i64 (y1 + 1)) ((((((((y2.set (y1.toNat) (⟨((Int.tmod y3 3) == 0), v8.Cost, v8.Has, v8.Heard⟩ : Pt)).set (y1.toNat) (⟨v9.Up, (IntKind.wrap .i64 (y3 + 1)), v9.Has, v9.Heard⟩ : Pt)).set (y1.toNat) (⟨v11.Up, v11.Cost, ((Int.tmod (IntKind.wrap .i64 ((IntKind.wrap .i64 (y3 + 1)) + 1)) 3) == 0), v11.Heard⟩ : Pt)).set (y1.toNat) (⟨v12.Up, v12.Cost, v12.Has, (⟨(IntKind.wrap .i64 ((IntKind.wrap .i64 ((IntKind.wrap .i64 (y3 + 1)) + 1)) + 1)), v12.Heard.Cost, v12.Heard.Hops, v12.Heard.Bridge, v12.Heard.Port⟩ : Vec)⟩ : Pt)).set (y1.toNat) (⟨v13.Up, v13.Cost, v13.Has, (⟨v13.Heard.Root, (IntKind.wrap .i64 ((IntKind.wrap .i64 ((IntKind.wrap .i64 ((IntKind.wrap .i64 (y3 + 1)) + 1)) + 1)) + 1)), v13.Heard.Hops, v13.Heard.Bridge, v13.Heard.Port⟩ : Vec)⟩ : Pt)).set (y1.toNat) (⟨v14.Up, v14.Cost, v14.Has, (⟨v14.Heard.Root, v14.Heard.Cost, (IntKind.wrap .i64 ((IntKind.wrap .i64 ((IntKind.wrap .i64 ((IntKind.wrap .i64 ((IntKind.wrap .i64 (y3 + 1)) + 1)) + 1)) + 1)) + 1)), v14.Heard.Bridge, v14.Heard.Port⟩ : Vec)⟩ : Pt)).set (y1.toNat) (⟨v15.Up, v15.Cost, v15.Has, (⟨v15.Heard.Root, v15.Heard.Cost, v15.Heard.Hops, (IntKind.wrap .i64 ((IntKind.wrap .i64 ((IntKind.wrap .i64 ((IntKind.wrap .i64 ((IntKind.wrap .i64 ((IntKind.wrap .i64 (y3 + 1)) + 1)) + 1)) + 1)) + 1)) + 1)), v15.Heard.Port⟩ : Vec)⟩ : Pt)).set (y1.toNat) (⟨v16.Up, v16.Cost, v16.Has, (⟨v16.Heard.Root, v16.Heard.Cost, v16.Heard.Hops, v16.Heard.Bridge, (IntKind.wrap .i64 ((IntKind.wrap .i64 ((IntKind.wrap .i64 ((IntKind.wrap .i64 ((IntKind.wrap .i64 ((IntKind.wrap .i64 ((IntKind.wrap .i64 (y3 + 1)) + 1)) + 1)) + 1)) + 1)) + 1)) + 1))⟩ : Vec)⟩ : Pt)) (IntKind.wrap .i64 ((IntKind.wrap .i64 ((IntKind.wrap .i64 ((IntKind.wrap .i64 ((IntKind.wrap .i64 ((IntKind.wrap .i64 ((IntKind.wrap .i64 ((IntKind.wrap .i64 (y3 + 1)) + 1)) + 1)) + 1)) + 1)) + 1)) + 1)) + 1))))))))) else none))) else none) else (some (Sum.inl (y2, y3))))
def laws_markPtSF (n : Nat) (x0 : (List Pt)) (x1 : Int) : Option (Int × (List Pt)) :=
  ((laws_markPtS_L2 n n 0 x0 x1).bind fun o => match o with | .inl (y4, y5) => (laws_markPtS_J1 n y4 y5) | .inr r => some r)
/-- loop.example/g00326/laws.markPtS -/
theorem laws_markPtS (n : Nat) (x0 : (List Pt)) (x1 : Int) (r : Int × (List Pt)) (H : laws_markPtSF n x0 x1 = some r) : LCall Try.prog 109 [.io false [.sl true 8 (x0.map Pt.row)], .val false [.lit (.int .i64 x1)]] [.val false [.lit (.int .i64 r.1)]] [(0, [.sl true 8 (r.2.map Pt.row)])] := by
  refine LCall.of_body tOk Try.func109 rfl (c := (.seq (Rg Try.f109 0) (.seq (.seq (Rg Try.f109 1) (.block 0 (.loop (.seq (.seq (Rg Try.f109 2) (.cond (.tmp 9) .skip (.exit 0))) (.seq (.block 1 (.seq (Rg Try.f109 4) (.seq (Rg Try.f109 5) (.seq (Rg Try.f109 6) (.seq (Rg Try.f109 7) (.seq (Rg Try.f109 8) (.seq (Rg Try.f109 9) (.seq (Rg Try.f109 10) (.seq (Rg Try.f109 11) (.seq (Rg Try.f109 12) (.seq (Rg Try.f109 13) (.seq (Rg Try.f109 14) (.seq (Rg Try.f109 15) (.seq (Rg Try.f109 16) (.seq (Rg Try.f109 17) (.seq (Rg Try.f109 18) (Rg Try.f109 19))))))))))))))))) (Rg Try.f109 3)))))) (.seq (Rg Try.f109 20) .ret)))) kr (Nat.le_of_ble_eq_true kr) 1 (rs := [.tmp 4]) rfl [0] (by decide) [(false, [.lit (.int .i64 r.1)])] [[.sl true 8 (r.2.map Pt.row)]] [] fun cx => ?_
  show Tr _ _ _ ⟨78, 1, [sC 0 (cL 8 x0 Pt.row), sI 1 x1], []⟩ _
  unfold laws_markPtSF at H
  refine Tr.rgn tOk 1 19 0 kr kr ?_
  refine Tr.seq ?_
  refine Tr.rgn tOk 1 51 0 kr kr ?_
  obtain ⟨o6, eo6, Ho6⟩ := bind_some H
  clear H
  refine Tr.mid (ι := (List Pt) × Int) (fun v => ⟨78, 1, [sI 4 0, sC 0 (cL 8 v.1 Pt.row), sI 1 v.2], []⟩) (fun v => laws_markPtS_J1 n v.1 v.2 = some r) ?_ ?_
  · refine Tr.block ?_
    refine Tr.loop (ι := Nat × (Int × (List Pt) × Int)) (fun v => ⟨78, 1, [sI 5 v.2.1, sI 4 0, sC 0 (cL 8 v.2.2.1 Pt.row), sI 1 v.2.2.2], []⟩) (fun v => laws_markPtS_L2 n v.1 v.2.1 v.2.2.1 v.2.2.2 = some o6) (fun v => v.1) (n, (0, x0, x1)) eo6 (St.sub_of [5, 4, 0, 1] [] kr) ?_
    rintro ⟨mo6, y1, y2, y3⟩ H
    have H : laws_markPtS_L2 n mo6 y1 y2 y3 = some o6 := H
    obtain _ | mo6 := mo6
    · cases (show (none : Option _) = some o6 from H)
    rw [laws_markPtS_L2] at H
    refine Tr.seq ?_
    refine Tr.rs ?_
    refine LAt.runU tOk 2 kr ?_
    refine LAt.lenE tOk (t := 55) (ty := 3) (e := 114) (x := (.tmp 7)) (d := 8) (g := none) ⟨(.slot 0), [], 0, true, 8, (y2.map Pt.row)⟩ (y2).length _ kr kr kr kr kr (map_len _ _) rfl ?_
    refine LAt.runU tOk 1 kr ?_
    refine LAt.doneM 1011 0 kr ?_
    cases h1 : (decide (y1 < (y2.length : Int)))
    · have H := bifF h1 H
      refine Tr.cF h1 kr ?_
      refine Tr.exit ?_
      refine And.intro (fun _ => ?_) (fun h => absurd rfl h)
      have H := Option.some.inj H
      subst H
      have H := Ho6
      dsimp only at H
      exact Exists.intro (y2, y3) (And.intro H (St.sub_of [4, 0, 1] [] kr))
    have H := bifT h1 H
    refine Tr.cT h1 kr ?_
    refine Tr.skip ?_
    show Tr _ _ _ _ _
    refine Tr.seq ?_
    refine Tr.block ?_
    refine Tr.rs ?_
    refine LAt.runU tOk 3 kr ?_
    obtain ⟨hg7, H⟩ := guard_some H
    refine LAt.binC tOk (op := .rem) (t := 3) (ty := 3) (ty' := 3) (x := (.tmp 14)) (y := (.const (.int .i64 3))) (d := 15) (g := none) (.int .i64 y3) (.int .i64 3) (.int .i64 (Int.tmod y3 3)) _ kr kr kr kr kr (φ := (IntKind.i64 = IntKind.i64 ∧ (3 : Int) ≠ 0)) kr (⟨rfl, of_decide_eq_true hg7⟩) rfl ?_
    refine LAt.runU tOk 1 kr ?_
    obtain ⟨v8, ev8, H⟩ := bind_some H
    refine LAt.indexO tOk (t := 55) (ty := 0) (x := (.tmp 12)) (y := (.tmp 13)) (d := 17) (g := none) ⟨(.slot 0), [], 0, true, 8, (y2.map Pt.row)⟩ y1 (y1.toNat) (Pt.row v8) _ kr kr kr kr rfl kr (idx_isE ev8) rfl rfl ?_
    refine LAt.runU tOk 1 kr ?_
    refine LAt.storeS tOk (t := 4) (ty := 0) (ad := (.tmp 18)) (x := (.tmp 16)) (g := none) ⟨.bool, 1, 1, [.lit (.bool false)]⟩ false [cB ((Int.tmod y3 3) == 0)] 0 0 (y1.toNat) 8 0 8 y2 Pt.row v8 (⟨((Int.tmod y3 3) == 0), v8.Cost, v8.Has, v8.Heard⟩ : Pt) kr kr kr kr kr kr kr kr (idx_get ev8).2 kr kr kr kr ?_
    refine LAt.doneM 521203 0 kr ?_
    refine Tr.rgn tOk 3 2094067 0 kr kr ?_
    refine Tr.rs ?_
    refine LAt.runU tOk 3 kr ?_
    obtain ⟨v9, ev9, H⟩ := bind_some H
    refine LAt.indexO tOk (t := 55) (ty := 0) (x := (.tmp 21)) (y := (.tmp 22)) (d := 24) (g := none) ⟨(.slot 0), [], 0, true, 8, ((y2.set (y1.toNat) (⟨((Int.tmod y3 3) == 0), v8.Cost, v8.Has, v8.Heard⟩ : Pt)).map Pt.row)⟩ y1 (y1.toNat) (Pt.row v9) _ kr kr kr kr rfl kr (idx_isE ev9) rfl rfl ?_
    refine LAt.runU tOk 1 kr ?_
    refine LAt.storeS tOk (t := 3) (ty := 0) (ad := (.tmp 25)) (x := (.tmp 23)) (g := none) ⟨.int .i64, 1, 8, [.lit (.int .i64 0)]⟩ false [cI (IntKind.wrap .i64 (y3 + 1))] 0 0 (y1.toNat) 8 1 8 (y2.set (y1.toNat) (⟨((Int.tmod y3 3) == 0), v8.Cost, v8.Has, v8.Heard⟩ : Pt)) Pt.row v9 (⟨v9.Up, (IntKind.wrap .i64 (y3 + 1)), v9.Has, v9.Heard⟩ : Pt) kr kr kr kr kr kr kr kr (idx_get ev9).2 kr kr kr kr ?_
    refine LAt.doneM 67105779 0 kr ?_
    refine Tr.rgn tOk 3 268432371 0 kr kr ?_
    refine Tr.rs ?_
    refine LAt.runU tOk 3 kr ?_
    obtain ⟨hg10, H⟩ := guard_some H
    refine LAt.binC tOk (op := .rem) (t := 3) (ty := 3) (ty' := 3) (x := (.tmp 30)) (y := (.const (.int .i64 3))) (d := 31) (g := none) (.int .i64 (IntKind.wrap .i64 ((IntKind.wrap .i64 (y3 + 1)) + 1))) (.int .i64 3) (.int .i64 (Int.tmod (IntKind.wrap .i64 ((IntKind.wrap .i64 (y3 + 1)) + 1)) 3)) _ kr kr kr kr kr (φ := (IntKind.i64 = IntKind.i64 ∧ (3 : Int) ≠ 0)) kr (⟨rfl, of_decide_eq_true hg10⟩) rfl ?_
    refine LAt.runU tOk 1 kr ?_
    obtain ⟨v11, ev11, H⟩ := bind_some H
    refine LAt.indexO tOk (t := 55) (ty := 0) (x := (.tmp 28)) (y := (.tmp 29)) (d := 33) (g := none) ⟨(.slot 0), [], 0, true, 8, (((y2.set (y1.toNat) (⟨((Int.tmod y3 3) == 0), v8.Cost, v8.Has, v8.Heard⟩ : Pt)).set (y1.toNat) (⟨v9.Up, (IntKind.wrap .i64 (y3 + 1)), v9.Has, v9.Heard⟩ : Pt)).map Pt.row)⟩ y1 (y1.toNat) (Pt.row v11) _ kr kr kr kr rfl kr (idx_isE ev11) rfl rfl ?_
    refine LAt.runU tOk 1 kr ?_
    refine LAt.storeS tOk (t := 4) (ty := 0) (ad := (.tmp 34)) (x := (.tmp 32)) (g := none) ⟨.bool, 1, 1, [.lit (.bool false)]⟩ false [cB ((Int.tmod (IntKind.wrap .i64 ((IntKind.wrap .i64 (y3 + 1)) + 1)) 3) == 0)] 0 0 (y1.toNat) 8 2 8 ((y2.set (y1.toNat) (⟨((Int.tmod y3 3) == 0), v8.Cost, v8.Has, v8.Heard⟩ : Pt)).set (y1.toNat) (⟨v9.Up, (IntKind.wrap .i64 (y3 + 1)), v9.Has, v9.Heard⟩ : Pt)) Pt.row v11 (⟨v11.Up, v11.Cost, ((Int.tmod (IntKind.wrap .i64 ((IntKind.wrap .i64 (y3 + 1)) + 1)) 3) == 0), v11.Heard⟩ : Pt) kr kr kr kr kr kr kr kr (idx_get ev11).2 kr kr kr kr ?_
    refine LAt.doneM 34359735283 0 kr ?_
    refine Tr.rgn tOk 3 137438950387 0 kr kr ?_
    refine Tr.rs ?_
    refine LAt.runU tOk 3 kr ?_
    obtain ⟨v12, ev12, H⟩ := bind_some H
    refine LAt.indexO tOk (t := 55) (ty := 0) (x := (.tmp 37)) (y := (.tmp 38)) (d := 40) (g := none) ⟨(.slot 0), [], 0, true, 8, ((((y2.set (y1.toNat) (⟨((Int.tmod y3 3) == 0), v8.Cost, v8.Has, v8.Heard⟩ : Pt)).set (y1.toNat) (⟨v9.Up, (IntKind.wrap .i64 (y3 + 1)), v9.Has, v9.Heard⟩ : Pt)).set (y1.toNat) (⟨v11.Up, v11.Cost, ((Int.tmod (IntKind.wrap .i64 ((IntKind.wrap .i64 (y3 + 1)) + 1)) 3) == 0), v11.Heard⟩ : Pt)).map Pt.row)⟩ y1 (y1.toNat) (Pt.row v12) _ kr kr kr kr rfl kr (idx_isE ev12) rfl rfl ?_
    refine LAt.runU tOk 2 kr ?_
    refine LAt.storeS tOk (t := 3) (ty := 0) (ad := (.tmp 42)) (x := (.tmp 39)) (g := none) ⟨.int .i64, 1, 8, [.lit (.int .i64 0)]⟩ false [cI (IntKind.wrap .i64 ((IntKind.wrap .i64 ((IntKind.wrap .i64 (y3 + 1)) + 1)) + 1))] 0 0 (y1.toNat) 8 3 8 (((y2.set (y1.toNat) (⟨((Int.tmod y3 3) == 0), v8.Cost, v8.Has, v8.Heard⟩ : Pt)).set (y1.toNat) (⟨v9.Up, (IntKind.wrap .i64 (y3 + 1)), v9.Has, v9.Heard⟩ : Pt)).set (y1.toNat) (⟨v11.Up, v11.Cost, ((Int.tmod (IntKind.wrap .i64 ((IntKind.wrap .i64 (y3 + 1)) + 1)) 3) == 0), v11.Heard⟩ : Pt)) Pt.row v12 (⟨v12.Up, v12.Cost, v12.Has, (⟨(IntKind.wrap .i64 ((IntKind.wrap .i64 ((IntKind.wrap .i64 (y3 + 1)) + 1)) + 1)), v12.Heard.Cost, v12.Heard.Hops, v12.Heard.Bridge, v12.Heard.Port⟩ : Vec)⟩ : Pt) kr kr kr kr kr kr kr kr (idx_get ev12).2 kr kr kr kr ?_
    refine LAt.doneM 8796093019123 0 kr ?_
    refine Tr.rgn tOk 3 35184372085747 0 kr kr ?_
    refine Tr.rs ?_
    refine LAt.runU tOk 3 kr ?_
    obtain ⟨v13, ev13, H⟩ := bind_some H
    refine LAt.indexO tOk (t := 55) (ty := 0) (x := (.tmp 45)) (y := (.tmp 46)) (d := 48) (g := none) ⟨(.slot 0), [], 0, true, 8, (((((y2.set (y1.toNat) (⟨((Int.tmod y3 3) == 0), v8.Cost, v8.Has, v8.Heard⟩ : Pt)).set (y1.toNat) (⟨v9.Up, (IntKind.wrap .i64 (y3 + 1)), v9.Has, v9.Heard⟩ : Pt)).set (y1.toNat) (⟨v11.Up, v11.Cost, ((Int.tmod (IntKind.wrap .i64 ((IntKind.wrap .i64 (y3 + 1)) + 1)) 3) == 0), v11.Heard⟩ : Pt)).set (y1.toNat) (⟨v12.Up, v12.Cost, v12.Has, (⟨(IntKind.wrap .i64 ((IntKind.wrap .i64 ((IntKind.wrap .i64 (y3 + 1)) + 1)) + 1)), v12.Heard.Cost, v12.Heard.Hops, v12.Heard.Bridge, v12.Heard.Port⟩ : Vec)⟩ : Pt)).map Pt.row)⟩ y1 (y1.toNat) (Pt.row v13) _ kr kr kr kr rfl kr (idx_isE ev13) rfl rfl ?_
    refine LAt.runU tOk 2 kr ?_
    refine LAt.storeS tOk (t := 3) (ty := 0) (ad := (.tmp 50)) (x := (.tmp 47)) (g := none) ⟨.int .i64, 1, 8, [.lit (.int .i64 0)]⟩ false [cI (IntKind.wrap .i64 ((IntKind.wrap .i64 ((IntKind.wrap .i64 ((IntKind.wrap .i64 (y3 + 1)) + 1)) + 1)) + 1))] 0 0 (y1.toNat) 8 4 8 ((((y2.set (y1.toNat) (⟨((Int.tmod y3 3) == 0), v8.Cost, v8.Has, v8.Heard⟩ : Pt)).set (y1.toNat) (⟨v9.Up, (IntKind.wrap .i64 (y3 + 1)), v9.Has, v9.Heard⟩ : Pt)).set (y1.toNat) (⟨v11.Up, v11.Cost, ((Int.tmod (IntKind.wrap .i64 ((IntKind.wrap .i64 (y3 + 1)) + 1)) 3) == 0), v11.Heard⟩ : Pt)).set (y1.toNat) (⟨v12.Up, v12.Cost, v12.Has, (⟨(IntKind.wrap .i64 ((IntKind.wrap .i64 ((IntKind.wrap .i64 (y3 + 1)) + 1)) + 1)), v12.Heard.Cost, v12.Heard.Hops, v12.Heard.Bridge, v12.Heard.Port⟩ : Vec)⟩ : Pt)) Pt.row v13 (⟨v13.Up, v13.Cost, v13.Has, (⟨v13.Heard.Root, (IntKind.wrap .i64 ((IntKind.wrap .i64 ((IntKind.wrap .i64 ((IntKind.wrap .i64 (y3 + 1)) + 1)) + 1)) + 1)), v13.Heard.Hops, v13.Heard.Bridge, v13.Heard.Port⟩ : Vec)⟩ : Pt) kr kr kr kr kr kr kr kr (idx_get ev13).2 kr kr kr kr ?_
    refine LAt.doneM 2251799813682163 0 kr ?_
    refine Tr.rgn tOk 3 9007199254737907 0 kr kr ?_
    refine Tr.rs ?_
    refine LAt.runU tOk 3 kr ?_
    obtain ⟨v14, ev14, H⟩ := bind_some H
    refine LAt.indexO tOk (t := 55) (ty := 0) (x := (.tmp 53)) (y := (.tmp 54)) (d := 56) (g := none) ⟨(.slot 0), [], 0, true, 8, ((((((y2.set (y1.toNat) (⟨((Int.tmod y3 3) == 0), v8.Cost, v8.Has, v8.Heard⟩ : Pt)).set (y1.toNat) (⟨v9.Up, (IntKind.wrap .i64 (y3 + 1)), v9.Has, v9.Heard⟩ : Pt)).set (y1.toNat) (⟨v11.Up, v11.Cost, ((Int.tmod (IntKind.wrap .i64 ((IntKind.wrap .i64 (y3 + 1)) + 1)) 3) == 0), v11.Heard⟩ : Pt)).set (y1.toNat) (⟨v12.Up, v12.Cost, v12.Has, (⟨(IntKind.wrap .i64 ((IntKind.wrap .i64 ((IntKind.wrap .i64 (y3 + 1)) + 1)) + 1)), v12.Heard.Cost, v12.Heard.Hops, v12.Heard.Bridge, v12.Heard.Port⟩ : Vec)⟩ : Pt)).set (y1.toNat) (⟨v13.Up, v13.Cost, v13.Has, (⟨v13.Heard.Root, (IntKind.wrap .i64 ((IntKind.wrap .i64 ((IntKind.wrap .i64 ((IntKind.wrap .i64 (y3 + 1)) + 1)) + 1)) + 1)), v13.Heard.Hops, v13.Heard.Bridge, v13.Heard.Port⟩ : Vec)⟩ : Pt)).map Pt.row)⟩ y1 (y1.toNat) (Pt.row v14) _ kr kr kr kr rfl kr (idx_isE ev14) rfl rfl ?_
    refine LAt.runU tOk 2 kr ?_
    refine LAt.storeS tOk (t := 3) (ty := 0) (ad := (.tmp 58)) (x := (.tmp 55)) (g := none) ⟨.int .i64, 1, 8, [.lit (.int .i64 0)]⟩ false [cI (IntKind.wrap .i64 ((IntKind.wrap .i64 ((IntKind.wrap .i64 ((IntKind.wrap .i64 ((IntKind.wrap .i64 (y3 + 1)) + 1)) + 1)) + 1)) + 1))] 0 0 (y1.toNat) 8 5 8 (((((y2.set (y1.toNat) (⟨((Int.tmod y3 3) == 0), v8.Cost, v8.Has, v8.Heard⟩ : Pt)).set (y1.toNat) (⟨v9.Up, (IntKind.wrap .i64 (y3 + 1)), v9.Has, v9.Heard⟩ : Pt)).set (y1.toNat) (⟨v11.Up, v11.Cost, ((Int.tmod (IntKind.wrap .i64 ((IntKind.wrap .i64 (y3 + 1)) + 1)) 3) == 0), v11.Heard⟩ : Pt)).set (y1.toNat) (⟨v12.Up, v12.Cost, v12.Has, (⟨(IntKind.wrap .i64 ((IntKind.wrap .i64 ((IntKind.wrap .i64 (y3 + 1)) + 1)) + 1)), v12.Heard.Cost, v12.Heard.Hops, v12.Heard.Bridge, v12.Heard.Port⟩ : Vec)⟩ : Pt)).set (y1.toNat) (⟨v13.Up, v13.Cost, v13.Has, (⟨v13.Heard.Root, (IntKind.wrap .i64 ((IntKind.wrap .i64 ((IntKind.wrap .i64 ((IntKind.wrap .i64 (y3 + 1)) + 1)) + 1)) + 1)), v13.Heard.Hops, v13.Heard.Bridge, v13.Heard.Port⟩ : Vec)⟩ : Pt)) Pt.row v14 (⟨v14.Up, v14.Cost, v14.Has, (⟨v14.Heard.Root, v14.Heard.Cost, (IntKind.wrap .i64 ((IntKind.wrap .i64 ((IntKind.wrap .i64 ((IntKind.wrap .i64 ((IntKind.wrap .i64 (y3 + 1)) + 1)) + 1)) + 1)) + 1)), v14.Heard.Bridge, v14.Heard.Port⟩ : Vec)⟩ : Pt) kr kr kr kr kr kr kr kr (idx_get ev14).2 kr kr kr kr ?_
    refine LAt.doneM 576460752303420403 0 kr ?_
    refine Tr.rgn tOk 3 2305843009213690867 0 kr kr ?_
    refine Tr.rs ?_
    refine LAt.runU tOk 3 kr ?_
    obtain ⟨v15, ev15, H⟩ := bind_some H
    refine LAt.indexO tOk (t := 55) (ty := 0) (x := (.tmp 61)) (y := (.tmp 62)) (d := 64) (g := none) ⟨(.slot 0), [], 0, true, 8, (((((((y2.set (y1.toNat) (⟨((Int.tmod y3 3) == 0), v8.Cost, v8.Has, v8.Heard⟩ : Pt)).set (y1.toNat) (⟨v9.Up, (IntKind.wrap .i64 (y3 + 1)), v9.Has, v9.Heard⟩ : Pt)).set (y1.toNat) (⟨v11.Up, v11.Cost, ((Int.tmod (IntKind.wrap .i64 ((IntKind.wrap .i64 (y3 + 1)) + 1)) 3) == 0), v11.Heard⟩ : Pt)).set (y1.toNat) (⟨v12.Up, v12.Cost, v12.Has, (⟨(IntKind.wrap .i64 ((IntKind.wrap .i64 ((IntKind.wrap .i64 (y3 + 1)) + 1)) + 1)), v12.Heard.Cost, v12.Heard.Hops, v12.Heard.Bridge, v12.Heard.Port⟩ : Vec)⟩ : Pt)).set (y1.toNat) (⟨v13.Up, v13.Cost, v13.Has, (⟨v13.Heard.Root, (IntKind.wrap .i64 ((IntKind.wrap .i64 ((IntKind.wrap .i64 ((IntKind.wrap .i64 (y3 + 1)) + 1)) + 1)) + 1)), v13.Heard.Hops, v13.Heard.Bridge, v13.Heard.Port⟩ : Vec)⟩ : Pt)).set (y1.toNat) (⟨v14.Up, v14.Cost, v14.Has, (⟨v14.Heard.Root, v14.Heard.Cost, (IntKind.wrap .i64 ((IntKind.wrap .i64 ((IntKind.wrap .i64 ((IntKind.wrap .i64 ((IntKind.wrap .i64 (y3 + 1)) + 1)) + 1)) + 1)) + 1)), v14.Heard.Bridge, v14.Heard.Port⟩ : Vec)⟩ : Pt)).map Pt.row)⟩ y1 (y1.toNat) (Pt.row v15) _ kr kr kr kr rfl kr (idx_isE ev15) rfl rfl ?_
    refine LAt.runU tOk 2 kr ?_
    refine LAt.storeS tOk (t := 3) (ty := 0) (ad := (.tmp 66)) (x := (.tmp 63)) (g := none) ⟨.int .i64, 1, 8, [.lit (.int .i64 0)]⟩ false [cI (IntKind.wrap .i64 ((IntKind.wrap .i64 ((IntKind.wrap .i64 ((IntKind.wrap .i64 ((IntKind.wrap .i64 ((IntKind.wrap .i64 (y3 + 1)) + 1)) + 1)) + 1)) + 1)) + 1))] 0 0 (y1.toNat) 8 6 8 ((((((y2.set (y1.toNat) (⟨((Int.tmod y3 3) == 0), v8.Cost, v8.Has, v8.Heard⟩ : Pt)).set (y1.toNat) (⟨v9.Up, (IntKind.wrap .i64 (y3 + 1)), v9.Has, v9.Heard⟩ : Pt)).set (y1.toNat) (⟨v11.Up, v11.Cost, ((Int.tmod (IntKind.wrap .i64 ((IntKind.wrap .i64 (y3 + 1)) + 1)) 3) == 0), v11.Heard⟩ : Pt)).set (y1.toNat) (⟨v12.Up, v12.Cost, v12.Has, (⟨(IntKind.wrap .i64 ((IntKind.wrap .i64 ((IntKind.wrap .i64 (y3 + 1)) + 1)) + 1)), v12.Heard.Cost, v12.Heard.Hops, v12.Heard.Bridge, v12.Heard.Port⟩ : Vec)⟩ : Pt)).set (y1.toNat) (⟨v13.Up, v13.Cost, v13.Has, (⟨v13.Heard.Root, (IntKind.wrap .i64 ((IntKind.wrap .i64 ((IntKind.wrap .i64 ((IntKind.wrap .i64 (y3 + 1)) + 1)) + 1)) + 1)), v13.Heard.Hops, v13.Heard.Bridge, v13.Heard.Port⟩ : Vec)⟩ : Pt)).set (y1.toNat) (⟨v14.Up, v14.Cost, v14.Has, (⟨v14.Heard.Root, v14.Heard.Cost, (IntKind.wrap .i64 ((IntKind.wrap .i64 ((IntKind.wrap .i64 ((IntKind.wrap .i64 ((IntKind.wrap .i64 (y3 + 1)) + 1)) + 1)) + 1)) + 1)), v14.Heard.Bridge, v14.Heard.Port⟩ : Vec)⟩ : Pt)) Pt.row v15 (⟨v15.Up, v15.Cost, v15.Has, (⟨v15.Heard.Root, v15.Heard.Cost, v15.Heard.Hops, (IntKind.wrap .i64 ((IntKind.wrap .i64 ((IntKind.wrap .i64 ((IntKind.wrap .i64 ((IntKind.wrap .i64 ((IntKind.wrap .i64 (y3 + 1)) + 1)) + 1)) + 1)) + 1)) + 1)), v15.Heard.Port⟩ : Vec)⟩ : Pt) kr kr kr kr kr kr kr kr (idx_get ev15).2 kr kr kr kr ?_
    refine LAt.doneM 147573952589676409843 0 kr ?_
    refine Tr.rgn tOk 3 590295810358705648627 0 kr kr ?_
    refine Tr.rs ?_
    refine LAt.runU tOk 3 kr ?_
    obtain ⟨v16, ev16, H⟩ := bind_some H
    refine LAt.indexO tOk (t := 55) (ty := 0) (x := (.tmp 69)) (y := (.tmp 70)) (d := 72) (g := none) ⟨(.slot 0), [], 0, true, 8, ((((((((y2.set (y1.toNat) (⟨((Int.tmod y3 3) == 0), v8.Cost, v8.Has, v8.Heard⟩ : Pt)).set (y1.toNat) (⟨v9.Up, (IntKind.wrap .i64 (y3 + 1)), v9.Has, v9.Heard⟩ : Pt)).set (y1.toNat) (⟨v11.Up, v11.Cost, ((Int.tmod (IntKind.wrap .i64 ((IntKind.wrap .i64 (y3 + 1)) + 1)) 3) == 0), v11.Heard⟩ : Pt)).set (y1.toNat) (⟨v12.Up, v12.Cost, v12.Has, (⟨(IntKind.wrap .i64 ((IntKind.wrap .i64 ((IntKind.wrap .i64 (y3 + 1)) + 1)) + 1)), v12.Heard.Cost, v12.Heard.Hops, v12.Heard.Bridge, v12.Heard.Port⟩ : Vec)⟩ : Pt)).set (y1.toNat) (⟨v13.Up, v13.Cost, v13.Has, (⟨v13.Heard.Root, (IntKind.wrap .i64 ((IntKind.wrap .i64 ((IntKind.wrap .i64 ((IntKind.wrap .i64 (y3 + 1)) + 1)) + 1)) + 1)), v13.Heard.Hops, v13.Heard.Bridge, v13.Heard.Port⟩ : Vec)⟩ : Pt)).set (y1.toNat) (⟨v14.Up, v14.Cost, v14.Has, (⟨v14.Heard.Root, v14.Heard.Cost, (IntKind.wrap .i64 ((IntKind.wrap .i64 ((IntKind.wrap .i64 ((IntKind.wrap .i64 ((IntKind.wrap .i64 (y3 + 1)) + 1)) + 1)) + 1)) + 1)), v14.Heard.Bridge, v14.Heard.Port⟩ : Vec)⟩ : Pt)).set (y1.toNat) (⟨v15.Up, v15.Cost, v15.Has, (⟨v15.Heard.Root, v15.Heard.Cost, v15.Heard.Hops, (IntKind.wrap .i64 ((IntKind.wrap .i64 ((IntKind.wrap .i64 ((IntKind.wrap .i64 ((IntKind.wrap .i64 ((IntKind.wrap .i64 (y3 + 1)) + 1)) + 1)) + 1)) + 1)) + 1)), v15.Heard.Port⟩ : Vec)⟩ : Pt)).map Pt.row)⟩ y1 (y1.toNat) (Pt.row v16) _ kr kr kr kr rfl kr (idx_isE ev16) rfl rfl ?_
    refine LAt.runU tOk 2 kr ?_
    refine LAt.storeS tOk (t := 3) (ty := 0) (ad := (.tmp 74)) (x := (.tmp 71)) (g := none) ⟨.int .i64, 1, 8, [.lit (.int .i64 0)]⟩ false [cI (IntKind.wrap .i64 ((IntKind.wrap .i64 ((IntKind.wrap .i64 ((IntKind.wrap .i64 ((IntKind.wrap .i64 ((IntKind.wrap .i64 ((IntKind.wrap .i64 (y3 + 1)) + 1)) + 1)) + 1)) + 1)) + 1)) + 1))] 0 0 (y1.toNat) 8 7 8 (((((((y2.set (y1.toNat) (⟨((Int.tmod y3 3) == 0), v8.Cost, v8.Has, v8.Heard⟩ : Pt)).set (y1.toNat) (⟨v9.Up, (IntKind.wrap .i64 (y3 + 1)), v9.Has, v9.Heard⟩ : Pt)).set (y1.toNat) (⟨v11.Up, v11.Cost, ((Int.tmod (IntKind.wrap .i64 ((IntKind.wrap .i64 (y3 + 1)) + 1)) 3) == 0), v11.Heard⟩ : Pt)).set (y1.toNat) (⟨v12.Up, v12.Cost, v12.Has, (⟨(IntKind.wrap .i64 ((IntKind.wrap .i64 ((IntKind.wrap .i64 (y3 + 1)) + 1)) + 1)), v12.Heard.Cost, v12.Heard.Hops, v12.Heard.Bridge, v12.Heard.Port⟩ : Vec)⟩ : Pt)).set (y1.toNat) (⟨v13.Up, v13.Cost, v13.Has, (⟨v13.Heard.Root, (IntKind.wrap .i64 ((IntKind.wrap .i64 ((IntKind.wrap .i64 ((IntKind.wrap .i64 (y3 + 1)) + 1)) + 1)) + 1)), v13.Heard.Hops, v13.Heard.Bridge, v13.Heard.Port⟩ : Vec)⟩ : Pt)).set (y1.toNat) (⟨v14.Up, v14.Cost, v14.Has, (⟨v14.Heard.Root, v14.Heard.Cost, (IntKind.wrap .i64 ((IntKind.wrap .i64 ((IntKind.wrap .i64 ((IntKind.wrap .i64 ((IntKind.wrap .i64 (y3 + 1)) + 1)) + 1)) + 1)) + 1)), v14.Heard.Bridge, v14.Heard.Port⟩ : Vec)⟩ : Pt)).set (y1.toNat) (⟨v15.Up, v15.Cost, v15.Has, (⟨v15.Heard.Root, v15.Heard.Cost, v15.Heard.Hops, (IntKind.wrap .i64 ((IntKind.wrap .i64 ((IntKind.wrap .i64 ((IntKind.wrap .i64 ((IntKind.wrap .i64 ((IntKind.wrap .i64 (y3 + 1)) + 1)) + 1)) + 1)) + 1)) + 1)), v15.Heard.Port⟩ : Vec)⟩ : Pt)) Pt.row v16 (⟨v16.Up, v16.Cost, v16.Has, (⟨v16.Heard.Root, v16.Heard.Cost, v16.Heard.Hops, v16.Heard.Bridge, (IntKind.wrap .i64 ((IntKind.wrap .i64 ((IntKind.wrap .i64 ((IntKind.wrap .i64 ((IntKind.wrap .i64 ((IntKind.wrap .i64 ((IntKind.wrap .i64 (y3 + 1)) + 1)) + 1)) + 1)) + 1)) + 1)) + 1))⟩ : Vec)⟩ : Pt) kr kr kr kr kr kr kr kr (idx_get ev16).2 kr kr kr kr ?_
    refine LAt.doneM 37778931862957161706483 0 kr ?_
    refine Tr.rgE tOk 3 151115727451828646835187 0 kr kr ?_
    show Tr _ _ _ _ _
    refine Tr.rgE tOk 3 151115727451828646838259 0 kr kr ?_
    exact Exists.intro (mo6, ((IntKind.wrap .i64 (y1 + 1)), ((((((((y2.set (y1.toNat) (⟨((Int.tmod y3 3) == 0), v8.Cost, v8.Has, v8.Heard⟩ : Pt)).set (y1.toNat) (⟨v9.Up, (IntKind.wrap .i64 (y3 + 1)), v9.Has, v9.Heard⟩ : Pt)).set (y1.toNat) (⟨v11.Up, v11.Cost, ((Int.tmod (IntKind.wrap .i64 ((IntKind.wrap .i64 (y3 + 1)) + 1)) 3) == 0), v11.Heard⟩ : Pt)).set (y1.toNat) (⟨v12.Up, v12.Cost, v12.Has, (⟨(IntKind.wrap .i64 ((IntKind.wrap .i64 ((IntKind.wrap .i64 (y3 + 1)) + 1)) + 1)), v12.Heard.Cost, v12.Heard.Hops, v12.Heard.Bridge, v12.Heard.Port⟩ : Vec)⟩ : Pt)).set (y1.toNat) (⟨v13.Up, v13.Cost, v13.Has, (⟨v13.Heard.Root, (IntKind.wrap .i64 ((IntKind.wrap .i64 ((IntKind.wrap .i64 ((IntKind.wrap .i64 (y3 + 1)) + 1)) + 1)) + 1)), v13.Heard.Hops, v13.Heard.Bridge, v13.Heard.Port⟩ : Vec)⟩ : Pt)).set (y1.toNat) (⟨v14.Up, v14.Cost, v14.Has, (⟨v14.Heard.Root, v14.Heard.Cost, (IntKind.wrap .i64 ((IntKind.wrap .i64 ((IntKind.wrap .i64 ((IntKind.wrap .i64 ((IntKind.wrap .i64 (y3 + 1)) + 1)) + 1)) + 1)) + 1)), v14.Heard.Bridge, v14.Heard.Port⟩ : Vec)⟩ : Pt)).set (y1.toNat) (⟨v15.Up, v15.Cost, v15.Has, (⟨v15.Heard.Root, v15.Heard.Cost, v15.Heard.Hops, (IntKind.wrap .i64 ((IntKind.wrap .i64 ((IntKind.wrap .i64 ((IntKind.wrap .i64 ((IntKind.wrap .i64 ((IntKind.wrap .i64 (y3 + 1)) + 1)) + 1)) + 1)) + 1)) + 1)), v15.Heard.Port⟩ : Vec)⟩ : Pt)).set (y1.toNat) (⟨v16.Up, v16.Cost, v16.Has, (⟨v16.Heard.Root, v16.Heard.Cost, v16.Heard.Hops, v16.Heard.Bridge, (IntKind.wrap .i64 ((IntKind.wrap .i64 ((IntKind.wrap .i64 ((IntKind.wrap .i64 ((IntKind.wrap .i64 ((IntKind.wrap .i64 ((IntKind.wrap .i64 (y3 + 1)) + 1)) + 1)) + 1)) + 1)) + 1)) + 1))⟩ : Vec)⟩ : Pt)), (IntKind.wrap .i64 ((IntKind.wrap .i64 ((IntKind.wrap .i64 ((IntKind.wrap .i64 ((IntKind.wrap .i64 ((IntKind.wrap .i64 ((IntKind.wrap .i64 ((IntKind.wrap .i64 (y3 + 1)) + 1)) + 1)) + 1)) + 1)) + 1)) + 1)) + 1)))) (And.intro H (And.intro (Nat.lt_succ_self mo6) (St.sub_of [5, 4, 0, 1] [] kr)))
  rintro ⟨y4, y5⟩ H
  have H : (laws_markPtS_J1 n y4 y5) = some r := H
  unfold laws_markPtS_J1 at H
  show Tr _ _ _ _ _
  refine Tr.rgn tOk 2 17 0 kr kr ?_
  refine Tr.ret ?_
  have H := Option.some.inj H
  subst H
  exact Fin.ofY _ [(false, [cI y5])] [false] _ [[cL 8 y4 Pt.row]] _ [] kr rfl rfl rfl kr kr kr kr rfl rfl rfl

def laws_markFentS_J1 (n : Nat) (y4 : (List Fent)) (y5 : Int) : Option (Int × (List Fent)) :=
  (some (y5, y4))
def laws_markFentS_L2 (n : Nat) : Nat → Int → (List Fent) → Int → Option (((List Fent) × Int) ⊕ (Int × (List Fent)))
  | 0, _, _, _ => none
  | mo6 + 1, y1, y2, y3 => (bif (decide (y1 < (y2.length : Int))) then ((idx y2 y1).bind fun v7 => ((idx (y2.set (y1.toNat) (⟨y3, v7.Mac, v7.Port, v7.Age, v7.Static⟩ : Fent)) y1).bind fun v8 => ((idx ((y2.set (y1.toNat) (⟨y3, v7.Mac, v7.Port, v7.Age, v7.Static⟩ : Fent)).set (y1.toNat) (⟨v8.Tag, (IntKind.wrap .i64 (y3 + 1)), v8.Port, v8.Age, v8.Static⟩ : Fent)) y1).bind fun v9 => ((idx (((y2.set (y1.toNat) (⟨y3, v7.Mac, v7.Port, v7.Age, v7.Static⟩ : Fent)).set (y1.toNat) (⟨v8.Tag, (IntKind.wrap .i64 (y3 + 1)), v8.Port, v8.Age, v8.Static⟩ : Fent)).set (y1.toNat) (⟨v9.Tag, v9.Mac, (IntKind.wrap .i64 ((IntKind.wrap .i64 (y3 + 1)) + 1)), v9.Age, v9.Static⟩ : Fent)) y1).bind fun v10 => (bif (decide ((3 : Int) ≠ 0)) then ((idx ((((y2.set (y1.toNat) (⟨y3, v7.Mac, v7.Port, v7.Age, v7.Static⟩ : Fent)).set (y1.toNat) (⟨v8.Tag, (IntKind.wrap .i64 (y3 + 1)), v8.Port, v8.Age, v8.Static⟩ : Fent)).set (y1.toNat) (⟨v9.Tag, v9.Mac, (IntKind.wrap .i64 ((IntKind.wrap .i64 (y3 + 1)) + 1)), v9.Age, v9.Static⟩ : Fent)).set (y1.toNat) (⟨v10.Tag, v10.Mac, v10.Port, (IntKind.wrap .i64 ((IntKind.wrap .i64 ((IntKind.wrap .i64 (y3 + 1)) + 1)) + 1)), v10.Static⟩ : Fent)) y1).bind fun v12 => (laws_markFentS_L2 n mo6 (IntKind.wrap .i64 (y1 + 1)) (((((y2.set (y1.toNat) (⟨y3, v7.Mac, v7.Port, v7.Age, v7.Static⟩ : Fent)).set (y1.toNat) (⟨v8.Tag, (IntKind.wrap .i64 (y3 + 1)), v8.Port, v8.Age, v8.Static⟩ : Fent)).set (y1.toNat) (⟨v9.Tag, v9.Mac, (IntKind.wrap .i64 ((IntKind.wrap .i64 (y3 + 1)) + 1)), v9.Age, v9.Static⟩ : Fent)).set (y1.toNat) (⟨v10.Tag, v10.Mac, v10.Port, (IntKind.wrap .i64 ((IntKind.wrap .i64 ((IntKind.wrap .i64 (y3 + 1)) + 1)) + 1)), v10.Static⟩ : Fent)).set (y1.toNat) (⟨v12.Tag, v12.Mac, v12.Port, v12.Age, ((Int.tmod (IntKind.wrap .i64 ((IntKind.wrap .i64 ((IntKind.wrap .i64 ((IntKind.wrap .i64 (y3 + 1)) + 1)) + 1)) + 1)) 3) == 0)⟩ : Fent)) (IntKind.wrap .i64 ((IntKind.wrap .i64 ((IntKind.wrap .i64 ((IntKind.wrap .i64 ((IntKind.wrap .i64 (y3 + 1)) + 1)) + 1)) + 1)) + 1)))) else none))))) else (some (Sum.inl (y2, y3))))
def laws_markFentSF (n : Nat) (x0 : (List Fent)) (x1 : Int) : Option (Int × (List Fent)) :=
  ((laws_markFentS_L2 n n 0 x0 x1).bind fun o => match o with | .inl (y4, y5) => (laws_markFentS_J1 n y4 y5) | .inr r => some r)
/-- loop.example/g00326/laws.markFentS -/
theorem laws_markFentS (n : Nat) (x0 : (List Fent)) (x1 : Int) (r : Int × (List Fent)) (H : laws_markFentSF n x0 x1 = some r) : LCall Try.prog 110 [.io false [.sl true 5 (x0.map Fent.row)], .val false [.lit (.int .i64 x1)]] [.val false [.lit (.int .i64 r.1)]] [(0, [.sl true 5 (r.2.map Fent.row)])] := by
  refine LCall.of_body tOk Try.func110 rfl (c := (.seq (Rg Try.f110 0) (.seq (.seq (Rg Try.f110 1) (.block 0 (.loop (.seq (.seq (Rg Try.f110 2) (.cond (.tmp 9) .skip (.exit 0))) (.seq (.block 1 (.seq (Rg Try.f110 4) (.seq (Rg Try.f110 5) (.seq (Rg Try.f110 6) (.seq (Rg Try.f110 7) (.seq (Rg Try.f110 8) (.seq (Rg Try.f110 9) (.seq (Rg Try.f110 10) (.seq (Rg Try.f110 11) (.seq (Rg Try.f110 12) (Rg Try.f110 13))))))))))) (Rg Try.f110 3)))))) (.seq (Rg Try.f110 14) .ret)))) kr (Nat.le_of_ble_eq_true kr) 1 (rs := [.tmp 4]) rfl [0] (by decide) [(false, [.lit (.int .i64 r.1)])] [[.sl true 5 (r.2.map Fent.row)]] [] fun cx => ?_
  show Tr _ _ _ ⟨50, 1, [sC 0 (cL 5 x0 Fent.row), sI 1 x1], []⟩ _
  unfold laws_markFentSF at H
  refine Tr.rgn tOk 1 19 0 kr kr ?_
  refine Tr.seq ?_
  refine Tr.rgn tOk 1 51 0 kr kr ?_
  obtain ⟨o6, eo6, Ho6⟩ := bind_some H
  clear H
  refine Tr.mid (ι := (List Fent) × Int) (fun v => ⟨50, 1, [sI 4 0, sC 0 (cL 5 v.1 Fent.row), sI 1 v.2], []⟩) (fun v => laws_markFentS_J1 n v.1 v.2 = some r) ?_ ?_
  · refine Tr.block ?_
    refine Tr.loop (ι := Nat × (Int × (List Fent) × Int)) (fun v => ⟨50, 1, [sI 5 v.2.1, sI 4 0, sC 0 (cL 5 v.2.2.1 Fent.row), sI 1 v.2.2.2], []⟩) (fun v => laws_markFentS_L2 n v.1 v.2.1 v.2.2.1 v.2.2.2 = some o6) (fun v => v.1) (n, (0, x0, x1)) eo6 (St.sub_of [5, 4, 0, 1] [] kr) ?_
    rintro ⟨mo6, y1, y2, y3⟩ H
    have H : laws_markFentS_L2 n mo6 y1 y2 y3 = some o6 := H
    obtain _ | mo6 := mo6
    · cases (show (none : Option _) = some o6 from H)
    rw [laws_markFentS_L2] at H
    refine Tr.seq ?_
    refine Tr.rs ?_
    refine LAt.runU tOk 2 kr ?_
    refine LAt.lenE tOk (t := 56) (ty := 3) (e := 141) (x := (.tmp 7)) (d := 8) (g := none) ⟨(.slot 0), [], 0, true, 5, (y2.map Fent.row)⟩ (y2).length _ kr kr kr kr kr (map_len _ _) rfl ?_
    refine LAt.runU tOk 1 kr ?_
    refine LAt.doneM 1011 0 kr ?_
    cases h1 : (decide (y1 < (y2.length : Int)))
    · have H := bifF h1 H
      refine Tr.cF h1 kr ?_
      refine Tr.exit ?_
      refine And.intro (fun _ => ?_) (fun h => absurd rfl h)
      have H := Option.some.inj H
      subst H
      have H := Ho6
      dsimp only at H
      exact Exists.intro (y2, y3) (And.intro H (St.sub_of [4, 0, 1] [] kr))
    have H := bifT h1 H
    refine Tr.cT h1 kr ?_
    refine Tr.skip ?_
    show Tr _ _ _ _ _
    refine Tr.seq ?_
    refine Tr.block ?_
    refine Tr.rs ?_
    refine LAt.runU tOk 3 kr ?_
    obtain ⟨v7, ev7, H⟩ := bind_some H
    refine LAt.indexO tOk (t := 56) (ty := 0) (x := (.tmp 12)) (y := (.tmp 13)) (d := 15) (g := none) ⟨(.slot 0), [], 0, true, 5, (y2.map Fent.row)⟩ y1 (y1.toNat) (Fent.row v7) _ kr kr kr kr rfl kr (idx_isE ev7) rfl rfl ?_
    refine LAt.runU tOk 1 kr ?_
    refine LAt.storeS tOk (t := 3) (ty := 0) (ad := (.tmp 16)) (x := (.tmp 14)) (g := none) ⟨.int .i64, 1, 8, [.lit (.int .i64 0)]⟩ false [cI y3] 0 0 (y1.toNat) 5 0 5 y2 Fent.row v7 (⟨y3, v7.Mac, v7.Port, v7.Age, v7.Static⟩ : Fent) kr kr kr kr kr kr kr kr (idx_get ev7).2 kr kr kr kr ?_
    refine LAt.doneM 127987 0 kr ?_
    refine Tr.rgn tOk 3 521203 0 kr kr ?_
    refine Tr.rs ?_
    refine LAt.runU tOk 3 kr ?_
    obtain ⟨v8, ev8, H⟩ := bind_some H
    refine LAt.indexO tOk (t := 56) (ty := 0) (x := (.tmp 19)) (y := (.tmp 20)) (d := 22) (g := none) ⟨(.slot 0), [], 0, true, 5, ((y2.set (y1.toNat) (⟨y3, v7.Mac, v7.Port, v7.Age, v7.Static⟩ : Fent)).map Fent.row)⟩ y1 (y1.toNat) (Fent.row v8) _ kr kr kr kr rfl kr (idx_isE ev8) rfl rfl ?_
    refine LAt.runU tOk 1 kr ?_
    refine LAt.storeS tOk (t := 3) (ty := 0) (ad := (.tmp 23)) (x := (.tmp 21)) (g := none) ⟨.int .i64, 1, 8, [.lit (.int .i64 0)]⟩ false [cI (IntKind.wrap .i64 (y3 + 1))] 0 0 (y1.toNat) 5 1 5 (y2.set (y1.toNat) (⟨y3, v7.Mac, v7.Port, v7.Age, v7.Static⟩ : Fent)) Fent.row v8 (⟨v8.Tag, (IntKind.wrap .i64 (y3 + 1)), v8.Port, v8.Age, v8.Static⟩ : Fent) kr kr kr kr kr kr kr kr (idx_get ev8).2 kr kr kr kr ?_
    refine LAt.doneM 16774131 0 kr ?_
    refine Tr.rgn tOk 3 67105779 0 kr kr ?_
    refine Tr.rs ?_
    refine LAt.runU tOk 3 kr ?_
    obtain ⟨v9, ev9, H⟩ := bind_some H
    refine LAt.indexO tOk (t := 56) (ty := 0) (x := (.tmp 26)) (y := (.tmp 27)) (d := 29) (g := none) ⟨(.slot 0), [], 0, true, 5, (((y2.set (y1.toNat) (⟨y3, v7.Mac, v7.Port, v7.Age, v7.Static⟩ : Fent)).set (y1.toNat) (⟨v8.Tag, (IntKind.wrap .i64 (y3 + 1)), v8.Port, v8.Age, v8.Static⟩ : Fent)).map Fent.row)⟩ y1 (y1.toNat) (Fent.row v9) _ kr kr kr kr rfl kr (idx_isE ev9) rfl rfl ?_
    refine LAt.runU tOk 1 kr ?_
    refine LAt.storeS tOk (t := 3) (ty := 0) (ad := (.tmp 30)) (x := (.tmp 28)) (g := none) ⟨.int .i64, 1, 8, [.lit (.int .i64 0)]⟩ false [cI (IntKind.wrap .i64 ((IntKind.wrap .i64 (y3 + 1)) + 1))] 0 0 (y1.toNat) 5 2 5 ((y2.set (y1.toNat) (⟨y3, v7.Mac, v7.Port, v7.Age, v7.Static⟩ : Fent)).set (y1.toNat) (⟨v8.Tag, (IntKind.wrap .i64 (y3 + 1)), v8.Port, v8.Age, v8.Static⟩ : Fent)) Fent.row v9 (⟨v9.Tag, v9.Mac, (IntKind.wrap .i64 ((IntKind.wrap .i64 (y3 + 1)) + 1)), v9.Age, v9.Static⟩ : Fent) kr kr kr kr kr kr kr kr (idx_get ev9).2 kr kr kr kr ?_
    refine LAt.doneM 2147480563 0 kr ?_
    refine Tr.rgn tOk 3 8589931507 0 kr kr ?_
    refine Tr.rs ?_
    refine LAt.runU tOk 3 kr ?_
    obtain ⟨v10, ev10, H⟩ := bind_some H
    refine LAt.indexO tOk (t := 56) (ty := 0) (x := (.tmp 33)) (y := (.tmp 34)) (d := 36) (g := none) ⟨(.slot 0), [], 0, true, 5, ((((y2.set (y1.toNat) (⟨y3, v7.Mac, v7.Port, v7.Age, v7.Static⟩ : Fent)).set (y1.toNat) (⟨v8.Tag, (IntKind.wrap .i64 (y3 + 1)), v8.Port, v8.Age, v8.Static⟩ : Fent)).set (y1.toNat) (⟨v9.Tag, v9.Mac, (IntKind.wrap .i64 ((IntKind.wrap .i64 (y3 + 1)) + 1)), v9.Age, v9.Static⟩ : Fent)).map Fent.row)⟩ y1 (y1.toNat) (Fent.row v10) _ kr kr kr kr rfl kr (idx_isE ev10) rfl rfl ?_
    refine LAt.runU tOk 1 kr ?_
    refine LAt.storeS tOk (t := 3) (ty := 0) (ad := (.tmp 37)) (x := (.tmp 35)) (g := none) ⟨.int .i64, 1, 8, [.lit (.int .i64 0)]⟩ false [cI (IntKind.wrap .i64 ((IntKind.wrap .i64 ((IntKind.wrap .i64 (y3 + 1)) + 1)) + 1))] 0 0 (y1.toNat) 5 3 5 (((y2.set (y1.toNat) (⟨y3, v7.Mac, v7.Port, v7.Age, v7.Static⟩ : Fent)).set (y1.toNat) (⟨v8.Tag, (IntKind.wrap .i64 (y3 + 1)), v8.Port, v8.Age, v8.Static⟩ : Fent)).set (y1.toNat) (⟨v9.Tag, v9.Mac, (IntKind.wrap .i64 ((IntKind.wrap .i64 (y3 + 1)) + 1)), v9.Age, v9.Static⟩ : Fent)) Fent.row v10 (⟨v10.Tag, v10.Mac, v10.Port, (IntKind.wrap .i64 ((IntKind.wrap .i64 ((IntKind.wrap .i64 (y3 + 1)) + 1)) + 1)), v10.Static⟩ : Fent) kr kr kr kr kr kr kr kr (idx_get ev10).2 kr kr kr kr ?_
    refine LAt.doneM 274877903859 0 kr ?_
    refine Tr.rgn tOk 3 1099511624691 0 kr kr ?_
    refine Tr.rs ?_
    refine LAt.runU tOk 3 kr ?_
    obtain ⟨hg11, H⟩ := guard_some H
    refine LAt.binC tOk (op := .rem) (t := 3) (ty := 3) (ty' := 3) (x := (.tmp 42)) (y := (.const (.int .i64 3))) (d := 43) (g := none) (.int .i64 (IntKind.wrap .i64 ((IntKind.wrap .i64 ((IntKind.wrap .i64 ((IntKind.wrap .i64 (y3 + 1)) + 1)) + 1)) + 1))) (.int .i64 3) (.int .i64 (Int.tmod (IntKind.wrap .i64 ((IntKind.wrap .i64 ((IntKind.wrap .i64 ((IntKind.wrap .i64 (y3 + 1)) + 1)) + 1)) + 1)) 3)) _ kr kr kr kr kr (φ := (IntKind.i64 = IntKind.i64 ∧ (3 : Int) ≠ 0)) kr (⟨rfl, of_decide_eq_true hg11⟩) rfl ?_
    refine LAt.runU tOk 1 kr ?_
    obtain ⟨v12, ev12, H⟩ := bind_some H
    refine LAt.indexO tOk (t := 56) (ty := 0) (x := (.tmp 40)) (y := (.tmp 41)) (d := 45) (g := none) ⟨(.slot 0), [], 0, true, 5, (((((y2.set (y1.toNat) (⟨y3, v7.Mac, v7.Port, v7.Age, v7.Static⟩ : Fent)).set (y1.toNat) (⟨v8.Tag, (IntKind.wrap .i64 (y3 + 1)), v8.Port, v8.Age, v8.Static⟩ : Fent)).set (y1.toNat) (⟨v9.Tag, v9.Mac, (IntKind.wrap .i64 ((IntKind.wrap .i64 (y3 + 1)) + 1)), v9.Age, v9.Static⟩ : Fent)).set (y1.toNat) (⟨v10.Tag, v10.Mac, v10.Port, (IntKind.wrap .i64 ((IntKind.wrap .i64 ((IntKind.wrap .i64 (y3 + 1)) + 1)) + 1)), v10.Static⟩ : Fent)).map Fent.row)⟩ y1 (y1.toNat) (Fent.row v12) _ kr kr kr kr rfl kr (idx_isE ev12) rfl rfl ?_
    refine LAt.runU tOk 1 kr ?_
    refine LAt.storeS tOk (t := 4) (ty := 0) (ad := (.tmp 46)) (x := (.tmp 44)) (g := none) ⟨.bool, 1, 1, [.lit (.bool false)]⟩ false [cB ((Int.tmod (IntKind.wrap .i64 ((IntKind.wrap .i64 ((IntKind.wrap .i64 ((IntKind.wrap .i64 (y3 + 1)) + 1)) + 1)) + 1)) 3) == 0)] 0 0 (y1.toNat) 5 4 5 ((((y2.set (y1.toNat) (⟨y3, v7.Mac, v7.Port, v7.Age, v7.Static⟩ : Fent)).set (y1.toNat) (⟨v8.Tag, (IntKind.wrap .i64 (y3 + 1)), v8.Port, v8.Age, v8.Static⟩ : Fent)).set (y1.toNat) (⟨v9.Tag, v9.Mac, (IntKind.wrap .i64 ((IntKind.wrap .i64 (y3 + 1)) + 1)), v9.Age, v9.Static⟩ : Fent)).set (y1.toNat) (⟨v10.Tag, v10.Mac, v10.Port, (IntKind.wrap .i64 ((IntKind.wrap .i64 ((IntKind.wrap .i64 (y3 + 1)) + 1)) + 1)), v10.Static⟩ : Fent)) Fent.row v12 (⟨v12.Tag, v12.Mac, v12.Port, v12.Age, ((Int.tmod (IntKind.wrap .i64 ((IntKind.wrap .i64 ((IntKind.wrap .i64 ((IntKind.wrap .i64 (y3 + 1)) + 1)) + 1)) + 1)) 3) == 0)⟩ : Fent) kr kr kr kr kr kr kr kr (idx_get ev12).2 kr kr kr kr ?_
    refine LAt.doneM 140737488352243 0 kr ?_
    refine Tr.rgE tOk 3 562949953418227 0 kr kr ?_
    show Tr _ _ _ _ _
    refine Tr.rgE tOk 3 562949953421299 0 kr kr ?_
    exact Exists.intro (mo6, ((IntKind.wrap .i64 (y1 + 1)), (((((y2.set (y1.toNat) (⟨y3, v7.Mac, v7.Port, v7.Age, v7.Static⟩ : Fent)).set (y1.toNat) (⟨v8.Tag, (IntKind.wrap .i64 (y3 + 1)), v8.Port, v8.Age, v8.Static⟩ : Fent)).set (y1.toNat) (⟨v9.Tag, v9.Mac, (IntKind.wrap .i64 ((IntKind.wrap .i64 (y3 + 1)) + 1)), v9.Age, v9.Static⟩ : Fent)).set (y1.toNat) (⟨v10.Tag, v10.Mac, v10.Port, (IntKind.wrap .i64 ((IntKind.wrap .i64 ((IntKind.wrap .i64 (y3 + 1)) + 1)) + 1)), v10.Static⟩ : Fent)).set (y1.toNat) (⟨v12.Tag, v12.Mac, v12.Port, v12.Age, ((Int.tmod (IntKind.wrap .i64 ((IntKind.wrap .i64 ((IntKind.wrap .i64 ((IntKind.wrap .i64 (y3 + 1)) + 1)) + 1)) + 1)) 3) == 0)⟩ : Fent)), (IntKind.wrap .i64 ((IntKind.wrap .i64 ((IntKind.wrap .i64 ((IntKind.wrap .i64 ((IntKind.wrap .i64 (y3 + 1)) + 1)) + 1)) + 1)) + 1)))) (And.intro H (And.intro (Nat.lt_succ_self mo6) (St.sub_of [5, 4, 0, 1] [] kr)))
  rintro ⟨y4, y5⟩ H
  have H : (laws_markFentS_J1 n y4 y5) = some r := H
  unfold laws_markFentS_J1 at H
  show Tr _ _ _ _ _
  refine Tr.rgn tOk 2 17 0 kr kr ?_
  refine Tr.ret ?_
  have H := Option.some.inj H
  subst H
  exact Fin.ofY _ [(false, [cI y5])] [false] _ [[cL 5 y4 Fent.row]] _ [] kr rfl rfl rfl kr kr kr kr rfl rfl rfl

def laws_markVrowS_J1 (n : Nat) (y4 : (List Vrow)) (y5 : Int) : Option (Int × (List Vrow)) :=
  (some (y5, y4))
def laws_markVrowS_L2 (n : Nat) : Nat → Int → (List Vrow) → Int → Option (((List Vrow) × Int) ⊕ (Int × (List Vrow)))
  | 0, _, _, _ => none
  | mo6 + 1, y1, y2, y3 => (bif (decide (y1 < (y2.length : Int))) then ((idx y2 y1).bind fun v7 => ((idx (y2.set (y1.toNat) (⟨y3, v7.Members, v7.Bare⟩ : Vrow)) y1).bind fun v8 => ((idx ((y2.set (y1.toNat) (⟨y3, v7.Members, v7.Bare⟩ : Vrow)).set (y1.toNat) (⟨v8.Id, (IntKind.wrap .i64 (y3 + 1)), v8.Bare⟩ : Vrow)) y1).bind fun v9 => (laws_markVrowS_L2 n mo6 (IntKind.wrap .i64 (y1 + 1)) (((y2.set (y1.toNat) (⟨y3, v7.Members, v7.Bare⟩ : Vrow)).set (y1.toNat) (⟨v8.Id, (IntKind.wrap .i64 (y3 + 1)), v8.Bare⟩ : Vrow)).set (y1.toNat) (⟨v9.Id, v9.Members, (IntKind.wrap .i64 ((IntKind.wrap .i64 (y3 + 1)) + 1))⟩ : Vrow)) (IntKind.wrap .i64 ((IntKind.wrap .i64 ((IntKind.wrap .i64 (y3 + 1)) + 1)) + 1)))))) else (some (Sum.inl (y2, y3))))
def laws_markVrowSF (n : Nat) (x0 : (List Vrow)) (x1 : Int) : Option (Int × (List Vrow)) :=
  ((laws_markVrowS_L2 n n 0 x0 x1).bind fun o => match o with | .inl (y4, y5) => (laws_markVrowS_J1 n y4 y5) | .inr r => some r)
/-- loop.example/g00326/laws.markVrowS -/
theorem laws_markVrowS (n : Nat) (x0 : (List Vrow)) (x1 : Int) (r : Int × (List Vrow)) (H : laws_markVrowSF n x0 x1 = some r) : LCall Try.prog 140 [.io false [.sl true 3 (x0.map Vrow.row)], .val false [.lit (.int .i64 x1)]] [.val false [.lit (.int .i64 r.1)]] [(0, [.sl true 3 (r.2.map Vrow.row)])] := by
  refine LCall.of_body tOk Try.func140 rfl (c := (.seq (Rg Try.f140 0) (.seq (.seq (Rg Try.f140 1) (.block 0 (.loop (.seq (.seq (Rg Try.f140 2) (.cond (.tmp 9) .skip (.exit 0))) (.seq (.block 1 (.seq (Rg Try.f140 4) (.seq (Rg Try.f140 5) (.seq (Rg Try.f140 6) (.seq (Rg Try.f140 7) (.seq (Rg Try.f140 8) (Rg Try.f140 9))))))) (Rg Try.f140 3)))))) (.seq (Rg Try.f140 10) .ret)))) kr (Nat.le_of_ble_eq_true kr) 1 (rs := [.tmp 4]) rfl [0] (by decide) [(false, [.lit (.int .i64 r.1)])] [[.sl true 3 (r.2.map Vrow.row)]] [] fun cx => ?_
  show Tr _ _ _ ⟨34, 1, [sC 0 (cL 3 x0 Vrow.row), sI 1 x1], []⟩ _
  unfold laws_markVrowSF at H
  refine Tr.rgn tOk 1 19 0 kr kr ?_
  refine Tr.seq ?_
  refine Tr.rgn tOk 1 51 0 kr kr ?_
  obtain ⟨o6, eo6, Ho6⟩ := bind_some H
  clear H
  refine Tr.mid (ι := (List Vrow) × Int) (fun v => ⟨34, 1, [sI 4 0, sC 0 (cL 3 v.1 Vrow.row), sI 1 v.2], []⟩) (fun v => laws_markVrowS_J1 n v.1 v.2 = some r) ?_ ?_
  · refine Tr.block ?_
    refine Tr.loop (ι := Nat × (Int × (List Vrow) × Int)) (fun v => ⟨34, 1, [sI 5 v.2.1, sI 4 0, sC 0 (cL 3 v.2.2.1 Vrow.row), sI 1 v.2.2.2], []⟩) (fun v => laws_markVrowS_L2 n v.1 v.2.1 v.2.2.1 v.2.2.2 = some o6) (fun v => v.1) (n, (0, x0, x1)) eo6 (St.sub_of [5, 4, 0, 1] [] kr) ?_
    rintro ⟨mo6, y1, y2, y3⟩ H
    have H : laws_markVrowS_L2 n mo6 y1 y2 y3 = some o6 := H
    obtain _ | mo6 := mo6
    · cases (show (none : Option _) = some o6 from H)
    rw [laws_markVrowS_L2] at H
    refine Tr.seq ?_
    refine Tr.rs ?_
    refine LAt.runU tOk 2 kr ?_
    refine LAt.lenE tOk (t := 57) (ty := 3) (e := 138) (x := (.tmp 7)) (d := 8) (g := none) ⟨(.slot 0), [], 0, true, 3, (y2.map Vrow.row)⟩ (y2).length _ kr kr kr kr kr (map_len _ _) rfl ?_
    refine LAt.runU tOk 1 kr ?_
    refine LAt.doneM 1011 0 kr ?_
    cases h1 : (decide (y1 < (y2.length : Int)))
    · have H := bifF h1 H
      refine Tr.cF h1 kr ?_
      refine Tr.exit ?_
      refine And.intro (fun _ => ?_) (fun h => absurd rfl h)
      have H := Option.some.inj H
      subst H
      have H := Ho6
      dsimp only at H
      exact Exists.intro (y2, y3) (And.intro H (St.sub_of [4, 0, 1] [] kr))
    have H := bifT h1 H
    refine Tr.cT h1 kr ?_
    refine Tr.skip ?_
    show Tr _ _ _ _ _
    refine Tr.seq ?_
    refine Tr.block ?_
    refine Tr.rs ?_
    refine LAt.runU tOk 3 kr ?_
    obtain ⟨v7, ev7, H⟩ := bind_some H
    refine LAt.indexO tOk (t := 57) (ty := 0) (x := (.tmp 12)) (y := (.tmp 13)) (d := 15) (g := none) ⟨(.slot 0), [], 0, true, 3, (y2.map Vrow.row)⟩ y1 (y1.toNat) (Vrow.row v7) _ kr kr kr kr rfl kr (idx_isE ev7) rfl rfl ?_
    refine LAt.runU tOk 1 kr ?_
    refine LAt.storeS tOk (t := 3) (ty := 0) (ad := (.tmp 16)) (x := (.tmp 14)) (g := none) ⟨.int .i64, 1, 8, [.lit (.int .i64 0)]⟩ false [cI y3] 0 0 (y1.toNat) 3 0 3 y2 Vrow.row v7 (⟨y3, v7.Members, v7.Bare⟩ : Vrow) kr kr kr kr kr kr kr kr (idx_get ev7).2 kr kr kr kr ?_
    refine LAt.doneM 127987 0 kr ?_
    refine Tr.rgn tOk 3 521203 0 kr kr ?_
    refine Tr.rs ?_
    refine LAt.runU tOk 3 kr ?_
    obtain ⟨v8, ev8, H⟩ := bind_some H
    refine LAt.indexO tOk (t := 57) (ty := 0) (x := (.tmp 19)) (y := (.tmp 20)) (d := 22) (g := none) ⟨(.slot 0), [], 0, true, 3, ((y2.set (y1.toNat) (⟨y3, v7.Members, v7.Bare⟩ : Vrow)).map Vrow.row)⟩ y1 (y1.toNat) (Vrow.row v8) _ kr kr kr kr rfl kr (idx_isE ev8) rfl rfl ?_
    refine LAt.runU tOk 1 kr ?_
    refine LAt.storeS tOk (t := 3) (ty := 0) (ad := (.tmp 23)) (x := (.tmp 21)) (g := none) ⟨.int .i64, 1, 8, [.lit (.int .i64 0)]⟩ false [cI (IntKind.wrap .i64 (y3 + 1))] 0 0 (y1.toNat) 3 1 3 (y2.set (y1.toNat) (⟨y3, v7.Members, v7.Bare⟩ : Vrow)) Vrow.row v8 (⟨v8.Id, (IntKind.wrap .i64 (y3 + 1)), v8.Bare⟩ : Vrow) kr kr kr kr kr kr kr kr (idx_get ev8).2 kr kr kr kr ?_
    refine LAt.doneM 16774131 0 kr ?_
    refine Tr.rgn tOk 3 67105779 0 kr kr ?_
    refine Tr.rs ?_
    refine LAt.runU tOk 3 kr ?_
    obtain ⟨v9, ev9, H⟩ := bind_some H
    refine LAt.indexO tOk (t := 57) (ty := 0) (x := (.tmp 26)) (y := (.tmp 27)) (d := 29) (g := none) ⟨(.slot 0), [], 0, true, 3, (((y2.set (y1.toNat) (⟨y3, v7.Members, v7.Bare⟩ : Vrow)).set (y1.toNat) (⟨v8.Id, (IntKind.wrap .i64 (y3 + 1)), v8.Bare⟩ : Vrow)).map Vrow.row)⟩ y1 (y1.toNat) (Vrow.row v9) _ kr kr kr kr rfl kr (idx_isE ev9) rfl rfl ?_
    refine LAt.runU tOk 1 kr ?_
    refine LAt.storeS tOk (t := 3) (ty := 0) (ad := (.tmp 30)) (x := (.tmp 28)) (g := none) ⟨.int .i64, 1, 8, [.lit (.int .i64 0)]⟩ false [cI (IntKind.wrap .i64 ((IntKind.wrap .i64 (y3 + 1)) + 1))] 0 0 (y1.toNat) 3 2 3 ((y2.set (y1.toNat) (⟨y3, v7.Members, v7.Bare⟩ : Vrow)).set (y1.toNat) (⟨v8.Id, (IntKind.wrap .i64 (y3 + 1)), v8.Bare⟩ : Vrow)) Vrow.row v9 (⟨v9.Id, v9.Members, (IntKind.wrap .i64 ((IntKind.wrap .i64 (y3 + 1)) + 1))⟩ : Vrow) kr kr kr kr kr kr kr kr (idx_get ev9).2 kr kr kr kr ?_
    refine LAt.doneM 2147480563 0 kr ?_
    refine Tr.rgE tOk 3 8589931507 0 kr kr ?_
    show Tr _ _ _ _ _
    refine Tr.rgE tOk 3 8589934579 0 kr kr ?_
    exact Exists.intro (mo6, ((IntKind.wrap .i64 (y1 + 1)), (((y2.set (y1.toNat) (⟨y3, v7.Members, v7.Bare⟩ : Vrow)).set (y1.toNat) (⟨v8.Id, (IntKind.wrap .i64 (y3 + 1)), v8.Bare⟩ : Vrow)).set (y1.toNat) (⟨v9.Id, v9.Members, (IntKind.wrap .i64 ((IntKind.wrap .i64 (y3 + 1)) + 1))⟩ : Vrow)), (IntKind.wrap .i64 ((IntKind.wrap .i64 ((IntKind.wrap .i64 (y3 + 1)) + 1)) + 1)))) (And.intro H (And.intro (Nat.lt_succ_self mo6) (St.sub_of [5, 4, 0, 1] [] kr)))
  rintro ⟨y4, y5⟩ H
  have H : (laws_markVrowS_J1 n y4 y5) = some r := H
  unfold laws_markVrowS_J1 at H
  show Tr _ _ _ _ _
  refine Tr.rgn tOk 2 17 0 kr kr ?_
  refine Tr.ret ?_
  have H := Option.some.inj H
  subst H
  exact Fin.ofY _ [(false, [cI y5])] [false] _ [[cL 3 y4 Vrow.row]] _ [] kr rfl rfl rfl kr kr kr kr rfl rfl rfl

def laws_markIntS_J1 (n : Nat) (y4 : (List Int)) (y5 : Int) : Option (Int × (List Int)) :=
  (some (y5, y4))
def laws_markIntS_L2 (n : Nat) : Nat → Int → (List Int) → Int → Option (((List Int) × Int) ⊕ (Int × (List Int)))
  | 0, _, _, _ => none
  | mo6 + 1, y1, y2, y3 => (bif (decide (y1 < (y2.length : Int))) then ((idx y2 y1).bind fun v7 => (laws_markIntS_L2 n mo6 (IntKind.wrap .i64 (y1 + 1)) (y2.set (y1.toNat) y3) (IntKind.wrap .i64 (y3 + 1)))) else (some (Sum.inl (y2, y3))))
def laws_markIntSF (n : Nat) (x0 : (List Int)) (x1 : Int) : Option (Int × (List Int)) :=
  ((laws_markIntS_L2 n n 0 x0 x1).bind fun o => match o with | .inl (y4, y5) => (laws_markIntS_J1 n y4 y5) | .inr r => some r)
/-- loop.example/g00326/laws.markIntS -/
theorem laws_markIntS (n : Nat) (x0 : (List Int)) (x1 : Int) (r : Int × (List Int)) (H : laws_markIntSF n x0 x1 = some r) : LCall Try.prog 27 [.io false [.sl true 1 (x0.map intRow)], .val false [.lit (.int .i64 x1)]] [.val false [.lit (.int .i64 r.1)]] [(0, [.sl true 1 (r.2.map intRow)])] := by
  refine LCall.of_body tOk Try.func27 rfl (c := (.seq (Rg Try.f27 0) (.seq (.seq (Rg Try.f27 1) (.block 0 (.loop (.seq (.seq (Rg Try.f27 2) (.cond (.tmp 9) .skip (.exit 0))) (.seq (.block 1 (.seq (Rg Try.f27 4) (Rg Try.f27 5))) (Rg Try.f27 3)))))) (.seq (Rg Try.f27 6) .ret)))) kr (Nat.le_of_ble_eq_true kr) 1 (rs := [.tmp 4]) rfl [0] (by decide) [(false, [.lit (.int .i64 r.1)])] [[.sl true 1 (r.2.map intRow)]] [] fun cx => ?_
  show Tr _ _ _ ⟨19, 1, [sC 0 (cL 1 x0 intRow), sI 1 x1], []⟩ _
  unfold laws_markIntSF at H
  refine Tr.rgn tOk 1 19 0 kr kr ?_
  refine Tr.seq ?_
  refine Tr.rgn tOk 1 51 0 kr kr ?_
  obtain ⟨o6, eo6, Ho6⟩ := bind_some H
  clear H
  refine Tr.mid (ι := (List Int) × Int) (fun v => ⟨19, 1, [sI 4 0, sC 0 (cL 1 v.1 intRow), sI 1 v.2], []⟩) (fun v => laws_markIntS_J1 n v.1 v.2 = some r) ?_ ?_
  · refine Tr.block ?_
    refine Tr.loop (ι := Nat × (Int × (List Int) × Int)) (fun v => ⟨19, 1, [sI 5 v.2.1, sI 4 0, sC 0 (cL 1 v.2.2.1 intRow), sI 1 v.2.2.2], []⟩) (fun v => laws_markIntS_L2 n v.1 v.2.1 v.2.2.1 v.2.2.2 = some o6) (fun v => v.1) (n, (0, x0, x1)) eo6 (St.sub_of [5, 4, 0, 1] [] kr) ?_
    rintro ⟨mo6, y1, y2, y3⟩ H
    have H : laws_markIntS_L2 n mo6 y1 y2 y3 = some o6 := H
    obtain _ | mo6 := mo6
    · cases (show (none : Option _) = some o6 from H)
    rw [laws_markIntS_L2] at H
    refine Tr.seq ?_
    refine Tr.rs ?_
    refine LAt.runU tOk 2 kr ?_
    refine LAt.lenE tOk (t := 27) (ty := 3) (e := 3) (x := (.tmp 7)) (d := 8) (g := none) ⟨(.slot 0), [], 0, true, 1, (y2.map intRow)⟩ (y2).length _ kr kr kr kr kr (map_len _ _) rfl ?_
    refine LAt.runU tOk 1 kr ?_
    refine LAt.doneM 1011 0 kr ?_
    cases h1 : (decide (y1 < (y2.length : Int)))
    · have H := bifF h1 H
      refine Tr.cF h1 kr ?_
      refine Tr.exit ?_
      refine And.intro (fun _ => ?_) (fun h => absurd rfl h)
      have H := Option.some.inj H
      subst H
      have H := Ho6
      dsimp only at H
      exact Exists.intro (y2, y3) (And.intro H (St.sub_of [4, 0, 1] [] kr))
    have H := bifT h1 H
    refine Tr.cT h1 kr ?_
    refine Tr.skip ?_
    show Tr _ _ _ _ _
    refine Tr.seq ?_
    refine Tr.block ?_
    refine Tr.rs ?_
    refine LAt.runU tOk 3 kr ?_
    obtain ⟨v7, ev7, H⟩ := bind_some H
    refine LAt.indexO tOk (t := 27) (ty := 0) (x := (.tmp 12)) (y := (.tmp 13)) (d := 15) (g := none) ⟨(.slot 0), [], 0, true, 1, (y2.map intRow)⟩ y1 (y1.toNat) (intRow v7) _ kr kr kr kr rfl kr (idx_isE ev7) rfl rfl ?_
    refine LAt.storeS tOk (t := 3) (ty := 0) (ad := (.tmp 15)) (x := (.tmp 14)) (g := none) ⟨.int .i64, 1, 8, [.lit (.int .i64 0)]⟩ false [cI y3] 0 0 (y1.toNat) 1 0 1 y2 intRow v7 y3 kr kr kr kr kr kr kr kr (idx_get ev7).2 kr kr kr kr ?_
    refine LAt.doneM 62451 0 kr ?_
    refine Tr.rgE tOk 3 259059 0 kr kr ?_
    show Tr _ _ _ _ _
    refine Tr.rgE tOk 3 262131 0 kr kr ?_
    exact Exists.intro (mo6, ((IntKind.wrap .i64 (y1 + 1)), (y2.set (y1.toNat) y3), (IntKind.wrap .i64 (y3 + 1)))) (And.intro H (And.intro (Nat.lt_succ_self mo6) (St.sub_of [5, 4, 0, 1] [] kr)))
  rintro ⟨y4, y5⟩ H
  have H : (laws_markIntS_J1 n y4 y5) = some r := H
  unfold laws_markIntS_J1 at H
  show Tr _ _ _ _ _
  refine Tr.rgn tOk 2 17 0 kr kr ?_
  refine Tr.ret ?_
  have H := Option.some.inj H
  subst H
  exact Fin.ofY _ [(false, [cI y5])] [false] _ [[cL 1 y4 intRow]] _ [] kr rfl rfl rfl kr kr kr kr rfl rfl rfl

def laws_markVtabF (n : Nat) (x0 : Vtab) (x1 : Int) : Option (Int × Vtab) :=
  ((laws_markVrowSF n x0.Rows x1).bind fun r1 => ((laws_markIntSF n x0.Pvid r1.1).bind fun r2 => (some (r2.1, (⟨r1.2, r2.2⟩ : Vtab)))))
/-- loop.example/g00326/laws.markVtab -/
theorem laws_markVtab (n : Nat) (x0 : Vtab) (x1 : Int) (r : Int × Vtab) (H : laws_markVtabF n x0 x1 = some r) : LCall Try.prog 111 [.io true (Vtab.row x0), .val false [.lit (.int .i64 x1)]] [.val false [.lit (.int .i64 r.1)]] [(0, (Vtab.row r.2))] := by
  refine LCall.of_body tOk Try.func111 rfl (c := (.seq (Rg Try.f111 0) (.seq (Rg Try.f111 1) (.seq (Rg Try.f111 2) (.seq (Rg Try.f111 3) .ret))))) kr (Nat.le_of_ble_eq_true kr) 1 (rs := [.tmp 4]) rfl [0] (by decide) [(false, [.lit (.int .i64 r.1)])] [(Vtab.row r.2)] [] fun cx => ?_
  show Tr _ _ _ ⟨14, 1, [sV 0 (Vtab.row x0), sI 1 x1], []⟩ _
  unfold laws_markVtabF at H
  refine Tr.rs ?_
  refine LAt.boxK (T := lk tab) (t := 59) (ty := 0) (x := 0) (d := 2) (g := none) true (Vtab.row x0) kr kr kr kr kr kr ?_
  refine LAt.runU tOk 1 kr ?_
  refine LAt.doneM 23 4 kr ?_
  refine Tr.rs ?_
  refine LAt.runU tOk 3 kr ?_
  obtain ⟨r1, er1, H⟩ := bind_some H
  refine LAt.callL tOk [.lend, .rd] (f := 140) (av := #[.tmp 6, .tmp 7]) (ats := #[57, 3]) (d := (some 8)) (ty := 3) (g := none) kr kr kr [] (laws_markVrowS n x0.Rows x1 r1 er1) kr (.inl rfl) ?_
  refine LAt.runU tOk 1 kr ?_
  refine LAt.doneM 23 4 kr ?_
  refine Tr.rs ?_
  refine LAt.runU tOk 3 kr ?_
  obtain ⟨r2, er2, H⟩ := bind_some H
  refine LAt.callL tOk [.lend, .rd] (f := 27) (av := #[.tmp 10, .tmp 11]) (ats := #[27, 3]) (d := (some 12)) (ty := 3) (g := none) kr kr kr [] (laws_markIntS n x0.Pvid r1.1 r2 er2) kr (.inl rfl) ?_
  refine LAt.runU tOk 1 kr ?_
  refine LAt.doneM 19 4 kr ?_
  refine Tr.rgn tOk 2 17 4 kr kr ?_
  refine Tr.ret ?_
  have H := Option.some.inj H
  subst H
  exact Fin.ofY _ [(false, [cI r2.1])] [true] _ [[cL 3 r1.2 Vrow.row, cL 1 r2.2 intRow]] _ [] kr rfl rfl rfl kr kr kr kr rfl rfl rfl

def laws_markBridgeF (n : Nat) (x0 : Bridge) (x1 : Int) : Option (Int × Bridge) :=
  ((laws_markPtSF n x0.Ports x1).bind fun r1 => ((laws_markFentSF n x0.F r1.1).bind fun r2 => ((laws_markVtabF n x0.V r2.1).bind fun r3 => (some (r3.1, (⟨x0.Id, x0.Name, r1.2, r2.2, r3.2, x0.Ticks, x0.Parse, x0.Word, x0.Drops, x0.Vers⟩ : Bridge))))))
/-- loop.example/g00326/laws.markBridge -/
theorem laws_markBridge (n : Nat) (x0 : Bridge) (x1 : Int) (r : Int × Bridge) (H : laws_markBridgeF n x0 x1 = some r) : LCall Try.prog 40 [.io true (Bridge.row x0), .val false [.lit (.int .i64 x1)]] [.val false [.lit (.int .i64 r.1)]] [(0, (Bridge.row r.2))] := by
  refine LCall.of_body tOk Try.func40 rfl (c := (.seq (Rg Try.f40 0) (.seq (Rg Try.f40 1) (.seq (Rg Try.f40 2) (.seq (Rg Try.f40 3) (.seq (Rg Try.f40 4) .ret)))))) kr (Nat.le_of_ble_eq_true kr) 1 (rs := [.tmp 4]) rfl [0] (by decide) [(false, [.lit (.int .i64 r.1)])] [(Bridge.row r.2)] [] fun cx => ?_
  show Tr _ _ _ ⟨18, 1, [sV 0 (Bridge.row x0), sI 1 x1], []⟩ _
  unfold laws_markBridgeF at H
  refine Tr.rs ?_
  refine LAt.boxK (T := lk tab) (t := 61) (ty := 0) (x := 0) (d := 2) (g := none) true (Bridge.row x0) kr kr kr kr kr kr ?_
  refine LAt.runU tOk 1 kr ?_
  refine LAt.doneM 23 4 kr ?_
  refine Tr.rs ?_
  refine LAt.runU tOk 3 kr ?_
  obtain ⟨r1, er1, H⟩ := bind_some H
  refine LAt.callL tOk [.lend, .rd] (f := 109) (av := #[.tmp 6, .tmp 7]) (ats := #[55, 3]) (d := (some 8)) (ty := 3) (g := none) kr kr kr [] (laws_markPtS n x0.Ports x1 r1 er1) kr (.inl rfl) ?_
  refine LAt.runU tOk 1 kr ?_
  refine LAt.doneM 23 4 kr ?_
  refine Tr.rs ?_
  refine LAt.runU tOk 3 kr ?_
  obtain ⟨r2, er2, H⟩ := bind_some H
  refine LAt.callL tOk [.lend, .rd] (f := 110) (av := #[.tmp 10, .tmp 11]) (ats := #[56, 3]) (d := (some 12)) (ty := 3) (g := none) kr kr kr [] (laws_markFentS n x0.F r1.1 r2 er2) kr (.inl rfl) ?_
  refine LAt.runU tOk 1 kr ?_
  refine LAt.doneM 23 4 kr ?_
  refine Tr.rs ?_
  refine LAt.runU tOk 3 kr ?_
  obtain ⟨r3, er3, H⟩ := bind_some H
  refine LAt.callL tOk [.lend, .rd] (f := 111) (av := #[.tmp 14, .tmp 15]) (ats := #[59, 3]) (d := (some 16)) (ty := 3) (g := none) kr kr kr [] (laws_markVtab n x0.V r2.1 r3 er3) kr (.inl rfl) ?_
  refine LAt.runU tOk 1 kr ?_
  refine LAt.doneM 19 4 kr ?_
  refine Tr.rgn tOk 2 17 4 kr kr ?_
  refine Tr.ret ?_
  have H := Option.some.inj H
  subst H
  exact Fin.ofY _ [(false, [cI r3.1])] [true] _ [[cI x0.Id, cS x0.Name, cL 8 r1.2 Pt.row, cL 5 r2.2 Fent.row, cL 3 r3.2.Rows Vrow.row, cL 1 r3.2.Pvid intRow, cI x0.Ticks, cI x0.Parse, cI x0.Word, cI x0.Drops, cI x0.Vers]] _ [] kr rfl rfl rfl kr kr kr kr rfl rfl rfl

def laws_markValF (n : Nat) (x0 : Val) (x1 : Int) : Option (Int × Val) :=
  ((laws_markIntSF n x0.O x1).bind fun r1 => (some (r1.1, (⟨x0.K, x0.N, x0.S, r1.2⟩ : Val))))
/-- loop.example/g00326/laws.markVal -/
theorem laws_markVal (n : Nat) (x0 : Val) (x1 : Int) (r : Int × Val) (H : laws_markValF n x0 x1 = some r) : LCall Try.prog 50 [.io true (Val.row x0), .val false [.lit (.int .i64 x1)]] [.val false [.lit (.int .i64 r.1)]] [(0, (Val.row r.2))] := by
  refine LCall.of_body tOk Try.func50 rfl (c := (.seq (Rg Try.f50 0) (.seq (Rg Try.f50 1) (.seq (Rg Try.f50 2) .ret)))) kr (Nat.le_of_ble_eq_true kr) 1 (rs := [.tmp 4]) rfl [0] (by decide) [(false, [.lit (.int .i64 r.1)])] [(Val.row r.2)] [] fun cx => ?_
  show Tr _ _ _ ⟨10, 1, [sV 0 (Val.row x0), sI 1 x1], []⟩ _
  unfold laws_markValF at H
  refine Tr.rs ?_
  refine LAt.boxK (T := lk tab) (t := 76) (ty := 0) (x := 0) (d := 2) (g := none) true (Val.row x0) kr kr kr kr kr kr ?_
  refine LAt.runU tOk 1 kr ?_
  refine LAt.doneM 23 4 kr ?_
  refine Tr.rs ?_
  refine LAt.runU tOk 3 kr ?_
  obtain ⟨r1, er1, H⟩ := bind_some H
  refine LAt.callL tOk [.lend, .rd] (f := 27) (av := #[.tmp 6, .tmp 7]) (ats := #[27, 3]) (d := (some 8)) (ty := 3) (g := none) kr kr kr [] (laws_markIntS n x0.O x1 r1 er1) kr (.inl rfl) ?_
  refine LAt.runU tOk 1 kr ?_
  refine LAt.doneM 19 4 kr ?_
  refine Tr.rgn tOk 2 17 4 kr kr ?_
  refine Tr.ret ?_
  have H := Option.some.inj H
  subst H
  exact Fin.ofY _ [(false, [cI r1.1])] [true] _ [[cI x0.K, cI x0.N, cS x0.S, cL 1 r1.2 intRow]] _ [] kr rfl rfl rfl kr kr kr kr rfl rfl rfl

def laws_markBindF (n : Nat) (x0 : Bind) (x1 : Int) : Option (Int × Bind) :=
  ((laws_markIntSF n x0.O x1).bind fun r1 => ((laws_markValF n x0.V r1.1).bind fun r2 => (some (r2.1, (⟨r1.2, r2.2⟩ : Bind)))))
/-- loop.example/g00326/laws.markBind -/
theorem laws_markBind (n : Nat) (x0 : Bind) (x1 : Int) (r : Int × Bind) (H : laws_markBindF n x0 x1 = some r) : LCall Try.prog 60 [.io true (Bind.row x0), .val false [.lit (.int .i64 x1)]] [.val false [.lit (.int .i64 r.1)]] [(0, (Bind.row r.2))] := by
  refine LCall.of_body tOk Try.func60 rfl (c := (.seq (Rg Try.f60 0) (.seq (Rg Try.f60 1) (.seq (Rg Try.f60 2) (.seq (Rg Try.f60 3) .ret))))) kr (Nat.le_of_ble_eq_true kr) 1 (rs := [.tmp 4]) rfl [0] (by decide) [(false, [.lit (.int .i64 r.1)])] [(Bind.row r.2)] [] fun cx => ?_
  show Tr _ _ _ ⟨14, 1, [sV 0 (Bind.row x0), sI 1 x1], []⟩ _
  unfold laws_markBindF at H
  refine Tr.rs ?_
  refine LAt.boxK (T := lk tab) (t := 86) (ty := 0) (x := 0) (d := 2) (g := none) true (Bind.row x0) kr kr kr kr kr kr ?_
  refine LAt.runU tOk 1 kr ?_
  refine LAt.doneM 23 4 kr ?_
  refine Tr.rs ?_
  refine LAt.runU tOk 3 kr ?_
  obtain ⟨r1, er1, H⟩ := bind_some H
  refine LAt.callL tOk [.lend, .rd] (f := 27) (av := #[.tmp 6, .tmp 7]) (ats := #[27, 3]) (d := (some 8)) (ty := 3) (g := none) kr kr kr [] (laws_markIntS n x0.O x1 r1 er1) kr (.inl rfl) ?_
  refine LAt.runU tOk 1 kr ?_
  refine LAt.doneM 23 4 kr ?_
  refine Tr.rs ?_
  refine LAt.runU tOk 3 kr ?_
  obtain ⟨r2, er2, H⟩ := bind_some H
  refine LAt.callL tOk [.lend, .rd] (f := 50) (av := #[.tmp 10, .tmp 11]) (ats := #[76, 3]) (d := (some 12)) (ty := 3) (g := none) kr kr kr [] (laws_markVal n x0.V r1.1 r2 er2) kr (.inl rfl) ?_
  refine LAt.runU tOk 1 kr ?_
  refine LAt.doneM 19 4 kr ?_
  refine Tr.rgn tOk 2 17 4 kr kr ?_
  refine Tr.ret ?_
  have H := Option.some.inj H
  subst H
  exact Fin.ofY _ [(false, [cI r2.1])] [true] _ [[cL 1 r1.2 intRow, cI r2.2.K, cI r2.2.N, cS r2.2.S, cL 1 r2.2.O intRow]] _ [] kr rfl rfl rfl kr kr kr kr rfl rfl rfl

def laws_heldIntS_J1 (n : Nat) (y3 : Int) : Option (Int) :=
  (some y3)
def laws_heldIntS_L2 (n : Nat) : Nat → (List Int) → Int → Int → Option ((Int) ⊕ (Int))
  | 0, _, _, _ => none
  | mo4 + 1, x0, y1, y2 => (bif (decide (y1 < (x0.length : Int))) then ((idx x0 y1).bind fun v5 => (bif (v5 != y2) then (some (Sum.inr (-1))) else (laws_heldIntS_L2 n mo4 x0 (IntKind.wrap .i64 (y1 + 1)) (IntKind.wrap .i64 (y2 + 1))))) else (some (Sum.inl y2)))
def laws_heldIntSF (n : Nat) (x0 : (List Int)) (x1 : Int) : Option (Int) :=
  ((laws_heldIntS_L2 n n x0 0 x1).bind fun o => match o with | .inl y3 => (laws_heldIntS_J1 n y3) | .inr r => some r)
/-- loop.example/g00326/laws.heldIntS -/
theorem laws_heldIntS (n : Nat) (x0 : (List Int)) (x1 : Int) (r : Int) (H : laws_heldIntSF n x0 x1 = some r) : LCall Try.prog 28 [.val false [.sl false 1 (CV.frzEs (x0.map intRow))], .val false [.lit (.int .i64 x1)]] [.val false [.lit (.int .i64 r)]] [] := by
  refine LCall.of_body tOk Try.func28 rfl (c := (.seq (Rg Try.f28 0) (.seq (.seq (Rg Try.f28 1) (.block 0 (.loop (.seq (.seq (Rg Try.f28 2) (.cond (.tmp 9) .skip (.exit 0))) (.seq (.block 1 (.seq (.seq (Rg Try.f28 4) (.cond (.tmp 17) (.seq (Rg Try.f28 5) .ret) .skip)) (Rg Try.f28 6))) (Rg Try.f28 3)))))) (.seq (Rg Try.f28 7) .ret)))) kr (Nat.le_of_ble_eq_true kr) 0 (rs := [.tmp 4]) rfl [] .nil [(false, [.lit (.int .i64 r)])] [] [] fun cx => ?_
  show Tr _ _ _ ⟨21, 0, [sC 0 (cF 1 x0 intRow), sI 1 x1], []⟩ _
  unfold laws_heldIntSF at H
  refine Tr.rgn tOk 1 19 0 kr kr ?_
  refine Tr.seq ?_
  refine Tr.rgn tOk 1 51 0 kr kr ?_
  obtain ⟨o4, eo4, Ho4⟩ := bind_some H
  clear H
  refine Tr.mid (ι := Int) (fun v => ⟨21, 0, [sI 4 0, sI 1 v], []⟩) (fun v => laws_heldIntS_J1 n v = some r) ?_ ?_
  · refine Tr.block ?_
    refine Tr.loop (ι := Nat × (Int × Int)) (fun v => ⟨21, 0, [sI 5 v.2.1, sI 4 0, sC 0 (cF 1 x0 intRow), sI 1 v.2.2], []⟩) (fun v => laws_heldIntS_L2 n v.1 x0 v.2.1 v.2.2 = some o4) (fun v => v.1) (n, (0, x1)) eo4 (St.sub_of [5, 4, 0, 1] [] kr) ?_
    rintro ⟨mo4, y1, y2⟩ H
    have H : laws_heldIntS_L2 n mo4 x0 y1 y2 = some o4 := H
    obtain _ | mo4 := mo4
    · cases (show (none : Option _) = some o4 from H)
    rw [laws_heldIntS_L2] at H
    refine Tr.seq ?_
    refine Tr.rs ?_
    refine LAt.runU tOk 2 kr ?_
    refine LAt.lenE tOk (t := 27) (ty := 3) (e := 3) (x := (.tmp 7)) (d := 8) (g := none) ⟨(.slot 7), [], 0, false, 1, (CV.frzEs (x0.map intRow))⟩ (x0).length _ kr kr kr kr kr (frz_len _ _) rfl ?_
    refine LAt.runU tOk 1 kr ?_
    refine LAt.doneM 1011 0 kr ?_
    cases h1 : (decide (y1 < (x0.length : Int)))
    · have H := bifF h1 H
      refine Tr.cF h1 kr ?_
      refine Tr.exit ?_
      refine And.intro (fun _ => ?_) (fun h => absurd rfl h)
      have H := Option.some.inj H
      subst H
      have H := Ho4
      dsimp only at H
      exact Exists.intro y2 (And.intro H (St.sub_of [4, 1] [] kr))
    have H := bifT h1 H
    refine Tr.cT h1 kr ?_
    refine Tr.skip ?_
    show Tr _ _ _ _ _
    refine Tr.seq ?_
    refine Tr.block ?_
    refine Tr.seq ?_
    refine Tr.rs ?_
    refine LAt.runU tOk 2 kr ?_
    obtain ⟨v5, ev5, H⟩ := bind_some H
    refine LAt.indexF tOk (t := 27) (ty := 0) (x := (.tmp 12)) (y := (.tmp 13)) (d := 14) (g := none) ⟨(.slot 12), [], 0, false, 1, (CV.frzEs (x0.map intRow))⟩ y1 [cI v5] _ kr kr kr kr rfl (idx_isF ev5) rfl ?_
    refine LAt.runU tOk 3 kr ?_
    refine LAt.doneM 259059 0 kr ?_
    cases h2 : (v5 != y2)
    · have H := bifF h2 H
      refine Tr.cF h2 kr ?_
      refine Tr.skip ?_
      show Tr _ _ _ _ _
      refine Tr.rgE tOk 3 1045491 0 kr kr ?_
      show Tr _ _ _ _ _
      refine Tr.rgE tOk 3 1048563 0 kr kr ?_
      exact Exists.intro (mo4, ((IntKind.wrap .i64 (y1 + 1)), (IntKind.wrap .i64 (y2 + 1)))) (And.intro H (And.intro (Nat.lt_succ_self mo4) (St.sub_of [5, 4, 0, 1] [] kr)))
    have H := bifT h2 H
    refine Tr.cT h2 kr ?_
    refine Tr.rgn tOk 1 259059 0 kr kr ?_
    refine Tr.ret ?_
    have H := Option.some.inj H
    subst H
    have H := Ho4
    dsimp only at H
    have H := Option.some.inj H
    subst H
    exact Fin.of _ [(false, [cI (-1)])] kr rfl rfl
  rintro y3 H
  have H : (laws_heldIntS_J1 n y3) = some r := H
  unfold laws_heldIntS_J1 at H
  show Tr _ _ _ _ _
  refine Tr.rgn tOk 2 16 0 kr kr ?_
  refine Tr.ret ?_
  have H := Option.some.inj H
  subst H
  exact Fin.of _ [(false, [cI y3])] kr rfl rfl

def laws_heldValF (n : Nat) (x0 : Val) (x1 : Int) : Option (Int) :=
  ((laws_heldIntSF n x0.O x1).bind fun r1 => (bif (decide (r1 < 0)) then (some (-1)) else (some r1)))
/-- loop.example/g00326/laws.heldVal -/
theorem laws_heldVal (n : Nat) (x0 : Val) (x1 : Int) (r : Int) (H : laws_heldValF n x0 x1 = some r) : LCall Try.prog 51 [.val true (CV.frzRow (Val.row x0)), .val false [.lit (.int .i64 x1)]] [.val false [.lit (.int .i64 r)]] [] := by
  refine LCall.of_body tOk Try.func51 rfl (c := (.seq (Rg Try.f51 0) (.seq (Rg Try.f51 1) (.seq (.seq (Rg Try.f51 2) (.cond (.tmp 10) (.seq (Rg Try.f51 3) .ret) .skip)) (.seq (Rg Try.f51 4) .ret))))) kr (Nat.le_of_ble_eq_true kr) 0 (rs := [.tmp 4]) rfl [] .nil [(false, [.lit (.int .i64 r)])] [] [] fun cx => ?_
  show Tr _ _ _ ⟨12, 0, [sV 0 (CV.frzRow (Val.row x0)), sI 1 x1], []⟩ _
  unfold laws_heldValF at H
  refine Tr.rgn tOk 2 22 4 kr kr ?_
  refine Tr.rs ?_
  refine LAt.runU tOk 3 kr ?_
  obtain ⟨r1, er1, H⟩ := bind_some H
  refine LAt.callV tOk [.rd, .rd] [] (laws_heldIntS n x0.O x1 r1 er1) kr kr kr kr (.inl rfl) ?_
  refine LAt.runU tOk 1 kr ?_
  refine LAt.doneM 18 0 kr ?_
  refine Tr.seq ?_
  refine Tr.rgn tOk 2 1042 0 kr kr ?_
  cases h1 : (decide (r1 < 0))
  · have H := bifF h1 H
    refine Tr.cF h1 kr ?_
    refine Tr.skip ?_
    show Tr _ _ _ _ _
    refine Tr.rgn tOk 2 16 0 kr kr ?_
    refine Tr.ret ?_
    have H := Option.some.inj H
    subst H
    exact Fin.of _ [(false, [cI r1])] kr rfl rfl
  have H := bifT h1 H
  refine Tr.cT h1 kr ?_
  refine Tr.rgn tOk 1 18 0 kr kr ?_
  refine Tr.ret ?_
  have H := Option.some.inj H
  subst H
  exact Fin.of _ [(false, [cI (-1)])] kr rfl rfl

def laws_heldBindF (n : Nat) (x0 : Bind) (x1 : Int) : Option (Int) :=
  ((laws_heldIntSF n x0.O x1).bind fun r1 => (bif (decide (r1 < 0)) then (some (-1)) else ((laws_heldValF n x0.V r1).bind fun r2 => (bif (decide (r2 < 0)) then (some (-1)) else (some r2)))))
/-- loop.example/g00326/laws.heldBind -/
theorem laws_heldBind (n : Nat) (x0 : Bind) (x1 : Int) (r : Int) (H : laws_heldBindF n x0 x1 = some r) : LCall Try.prog 61 [.val true (CV.frzRow (Bind.row x0)), .val false [.lit (.int .i64 x1)]] [.val false [.lit (.int .i64 r)]] [] := by
  refine LCall.of_body tOk Try.func61 rfl (c := (.seq (Rg Try.f61 0) (.seq (Rg Try.f61 1) (.seq (.seq (Rg Try.f61 2) (.cond (.tmp 10) (.seq (Rg Try.f61 3) .ret) .skip)) (.seq (Rg Try.f61 4) (.seq (.seq (Rg Try.f61 5) (.cond (.tmp 16) (.seq (Rg Try.f61 6) .ret) .skip)) (.seq (Rg Try.f61 7) .ret))))))) kr (Nat.le_of_ble_eq_true kr) 0 (rs := [.tmp 4]) rfl [] .nil [(false, [.lit (.int .i64 r)])] [] [] fun cx => ?_
  show Tr _ _ _ ⟨18, 0, [sV 0 (CV.frzRow (Bind.row x0)), sI 1 x1], []⟩ _
  unfold laws_heldBindF at H
  refine Tr.rgn tOk 2 22 4 kr kr ?_
  refine Tr.rs ?_
  refine LAt.runU tOk 3 kr ?_
  obtain ⟨r1, er1, H⟩ := bind_some H
  refine LAt.callV tOk [.rd, .rd] [] (laws_heldIntS n x0.O x1 r1 er1) kr kr kr kr (.inl rfl) ?_
  refine LAt.runU tOk 1 kr ?_
  refine LAt.doneM 22 4 kr ?_
  refine Tr.seq ?_
  refine Tr.rgn tOk 2 1046 4 kr kr ?_
  cases h1 : (decide (r1 < 0))
  · have H := bifF h1 H
    refine Tr.cF h1 kr ?_
    refine Tr.skip ?_
    show Tr _ _ _ _ _
    refine Tr.rs ?_
    refine LAt.runU tOk 3 kr ?_
    obtain ⟨r2, er2, H⟩ := bind_some H
    refine LAt.callV tOk [.rd, .rd] [] (laws_heldVal n x0.V r1 r2 er2) kr kr kr kr (.inl rfl) ?_
    refine LAt.runU tOk 1 kr ?_
    refine LAt.doneM 18 0 kr ?_
    refine Tr.seq ?_
    refine Tr.rgn tOk 2 65554 0 kr kr ?_
    cases h2 : (decide (r2 < 0))
    · have H := bifF h2 H
      refine Tr.cF h2 kr ?_
      refine Tr.skip ?_
      show Tr _ _ _ _ _
      refine Tr.rgn tOk 2 16 0 kr kr ?_
      refine Tr.ret ?_
      have H := Option.some.inj H
      subst H
      exact Fin.of _ [(false, [cI r2])] kr rfl rfl
    have H := bifT h2 H
    refine Tr.cT h2 kr ?_
    refine Tr.rgn tOk 1 18 0 kr kr ?_
    refine Tr.ret ?_
    have H := Option.some.inj H
    subst H
    exact Fin.of _ [(false, [cI (-1)])] kr rfl rfl
  have H := bifT h1 H
  refine Tr.cT h1 kr ?_
  refine Tr.rgn tOk 1 22 4 kr kr ?_
  refine Tr.ret ?_
  have H := Option.some.inj H
  subst H
  exact Fin.of _ [(false, [cI (-1)])] kr rfl rfl

def laws_FnExactMibNextF (n : Nat) (x0 : Bridge) (x1 : (List Int)) : Option (Bool) :=
  (bif (decide ((x1.length : Int) > 1048576)) then (some true) else ((laws_szBridgeF n x0 1048576).bind fun r1 => (bif (decide (r1 < 0)) then (some true) else ((laws_toBridgeF n x0).bind fun r2 => ((laws_toIntSF n x1).bind fun r3 => ((spec_MibNextF n r2 r3).bind fun r4 => ((laws_toBridgeF n x0).bind fun r5 => ((laws_toIntSF n x1).bind fun r6 => ((impl_MibNextF n r5 r6).bind fun r7 => ((laws_eqBindF n r7 r4).bind fun r8 => (bif (!r8) then (some false) else ((laws_toBridgeF n x0).bind fun r9 => ((laws_eqBridgeF n r5 r9).bind fun r10 => (bif (!r10) then (some false) else ((laws_toIntSF n x1).bind fun r11 => ((laws_eqIntSF n r6 r11).bind fun r12 => (bif (!r12) then (some false) else ((laws_markBridgeF n r5 1).bind fun r13 => ((laws_markIntSF n r6 r13.1).bind fun r14 => (bif (decide (r14.1 < 0)) then (some false) else ((laws_eqBindF n r7 r4).bind fun r15 => (bif (!r15) then (some false) else ((laws_markBindF n r7 1).bind fun r16 => ((laws_heldBindF n r16.2 1).bind fun r17 => (bif (decide (r17 < 0)) then (some false) else (bif (r17 != r16.1) then (some false) else ((laws_toBridgeF n x0).bind fun r18 => ((laws_toIntSF n x1).bind fun r19 => ((impl_MibNextF n r18 r19).bind fun r20 => ((laws_eqBindF n r20 r4).bind fun r21 => (bif (!r21) then (some false) else ((laws_heldBindF n r16.2 1).bind fun r22 => (bif (decide (r22 < 0)) then (some false) else (bif (r22 != r16.1) then (some false) else (some true)))))))))))))))))))))))))))))))))))
/-- loop.example/g00326/laws.FnExactMibNext -/
theorem laws_FnExactMibNext (n : Nat) (x0 : Bridge) (x1 : (List Int)) (r : Bool) (H : laws_FnExactMibNextF n x0 x1 = some r) : LCall Try.prog 14 [.val true (CV.frzRow (Bridge.row x0)), .val false [.sl false 1 (CV.frzEs (x1.map intRow))]] [.val false [.lit (.bool r)]] [] := by
  refine LCall.of_body tOk Try.func14 rfl (c := (.seq (Rg Try.f14 0) (.seq (.seq (Rg Try.f14 1) (.cond (.tmp 16) (.seq (Rg Try.f14 2) .ret) .skip)) (.seq (Rg Try.f14 3) (.seq (Rg Try.f14 4) (.seq (.seq (Rg Try.f14 5) (.cond (.tmp 21) (.seq (Rg Try.f14 6) .ret) .skip)) (.seq (Rg Try.f14 7) (.seq (Rg Try.f14 8) (.seq (Rg Try.f14 9) (.seq (Rg Try.f14 10) (.seq (.seq (Rg Try.f14 11) (.cond (.tmp 37) (.seq (Rg Try.f14 12) .ret) .skip)) (.seq (.seq (Rd Try.f14 13) (.cond (.tmp 42) (.seq (Rg Try.f14 14) .ret) .skip)) (.seq (.seq (Rg Try.f14 15) (.cond (.tmp 47) (.seq (Rg Try.f14 16) .ret) .skip)) (.seq (Rg Try.f14 17) (.seq (Rg Try.f14 18) (.seq (Rg Try.f14 19) (.seq (.seq (Rg Try.f14 20) (.cond (.tmp 61) (.seq (Rg Try.f14 21) .ret) .skip)) (.seq (Rg Try.f14 22) (.seq (Rg Try.f14 23) (.seq (Rg Try.f14 24) (.seq (Rg Try.f14 25) (.seq (.seq (Rg Try.f14 26) (.cond (.tmp 69) (.seq (Rg Try.f14 27) .ret) .skip)) (.seq (.seq (Rg Try.f14 28) (.cond (.tmp 72) (.seq (Rg Try.f14 29) .ret) .skip)) (.seq (Rg Try.f14 30) (.seq (.seq (Rg Try.f14 31) (.cond (.tmp 81) (.seq (Rg Try.f14 32) .ret) .skip)) (.seq (Rg Try.f14 33) (.seq (Rg Try.f14 34) (.seq (.seq (Rg Try.f14 35) (.cond (.tmp 86) (.seq (Rg Try.f14 36) .ret) .skip)) (.seq (.seq (Rg Try.f14 37) (.cond (.tmp 89) (.seq (Rg Try.f14 38) .ret) .skip)) (.seq (Rg Try.f14 39) .ret)))))))))))))))))))))))))))))) kr (Nat.le_of_ble_eq_true kr) 0 (rs := [.tmp 4]) rfl [] .nil [(false, [.lit (.bool r)])] [] [] fun cx => ?_
  show Tr _ _ _ ⟨90, 0, [sV 0 (CV.frzRow (Bridge.row x0)), sC 1 (cF 1 x1 intRow)], []⟩ _
  unfold laws_FnExactMibNextF at H
  refine Tr.rgn tOk 2 22 4 kr kr ?_
  refine Tr.seq ?_
  refine Tr.rs ?_
  refine LAt.runU tOk 1 kr ?_
  refine LAt.lenE tOk (t := 27) (ty := 3) (e := 3) (x := (.tmp 14)) (d := 15) (g := none) ⟨(.slot 14), [], 0, false, 1, (CV.frzEs (x1.map intRow))⟩ (x1).length _ kr kr kr kr kr (frz_len _ _) rfl ?_
  refine LAt.runU tOk 1 kr ?_
  refine LAt.doneM 65558 4 kr ?_
  cases h1 : (decide ((x1.length : Int) > 1048576))
  · have H := bifF h1 H
    refine Tr.cF h1 kr ?_
    refine Tr.skip ?_
    show Tr _ _ _ _ _
    refine Tr.rgn tOk 1 54 4 kr kr ?_
    refine Tr.rs ?_
    refine LAt.runU tOk 2 kr ?_
    obtain ⟨r1, er1, H⟩ := bind_some H
    refine LAt.callV tOk [.rd, .rd] [] (laws_szBridge n x0 1048576 r1 er1) kr kr kr kr (.inl rfl) ?_
    refine LAt.runU tOk 1 kr ?_
    refine LAt.doneM 54 4 kr ?_
    refine Tr.seq ?_
    refine Tr.rgn tOk 2 2097174 4 kr kr ?_
    cases h2 : (decide (r1 < 0))
    · have H := bifF h2 H
      refine Tr.cF h2 kr ?_
      refine Tr.skip ?_
      show Tr _ _ _ _ _
      refine Tr.rs ?_
      refine LAt.runU tOk 1 kr ?_
      obtain ⟨r2, er2, H⟩ := bind_some H
      refine LAt.callV tOk [.rd] [] (laws_toBridge n x0 r2 er2) kr kr kr kr (.inl rfl) ?_
      refine LAt.runU tOk 1 kr ?_
      obtain ⟨r3, er3, H⟩ := bind_some H
      refine LAt.callV tOk [.rd] [] (laws_toIntS n x1 r3 er3) kr kr kr kr (.inl rfl) ?_
      obtain ⟨r4, er4, H⟩ := bind_some H
      refine LAt.callV tOk [.rd, .rd] [] (spec_MibNext n r2 r3 r4 er4) kr kr kr kr (.inl rfl) ?_
      refine LAt.runU tOk 2 kr ?_
      refine LAt.doneM 86 68 kr ?_
      refine Tr.rs ?_
      refine LAt.runU tOk 1 kr ?_
      obtain ⟨r5, er5, H⟩ := bind_some H
      refine LAt.callV tOk [.rd] [] (laws_toBridge n x0 r5 er5) kr kr kr kr (.inl rfl) ?_
      refine LAt.runU tOk 2 kr ?_
      refine LAt.doneM 214 196 kr ?_
      refine Tr.rs ?_
      refine LAt.runU tOk 1 kr ?_
      obtain ⟨r6, er6, H⟩ := bind_some H
      refine LAt.callV tOk [.rd] [] (laws_toIntS n x1 r6 er6) kr kr kr kr (.inl rfl) ?_
      refine LAt.moveU (T := lk tab) (ty := 27) (x := (.tmp 30)) (d := 8) (g := none) false [cL 1 r6 intRow] kr kr kr kr kr ?_
      refine LAt.doneM 470 196 kr ?_
      refine Tr.rs ?_
      refine LAt.runU tOk 2 kr ?_
      obtain ⟨r7, er7, H⟩ := bind_some H
      refine LAt.callV tOk [.rd, .rd] [.box 7, .slot 8] (impl_MibNext n r5 r6 r7 er7) kr kr kr kr (.inr (rets_cons (Bind.row_mine _) rets_nil)) ?_
      refine LAt.runU tOk 2 kr ?_
      refine LAt.doneM 982 708 kr ?_
      refine Tr.seq ?_
      refine Tr.rs ?_
      refine LAt.runU tOk 2 kr ?_
      obtain ⟨r8, er8, H⟩ := bind_some H
      refine LAt.callV tOk [.rd, .rd] [.box 9, .box 6] (laws_eqBind n r7 r4 r8 er8) kr kr kr kr (.inr (rets_cons (mine_cons mine_lit mine_nil) rets_nil)) ?_
      refine LAt.runU tOk 1 kr ?_
      refine LAt.doneM 137438954454 708 kr ?_
      refine Tr.to ⟨90, 0, [sB 37 (!r8), sA 9 9 5 0, sC 8 (cL 1 r6 intRow), sA 7 7 11 0, sA 6 6 5 0, sB 4 false, sA 2 2 11 0, sC 1 (cF 1 x1 intRow)], [(9, (Bind.row r7)), (7, (Bridge.row r5)), (6, (Bind.row r4)), (2, (CV.frzRow (Bridge.row x0)))]⟩ kr ?_
      cases h3 : (!r8)
      · have H := bifF h3 H
        refine Tr.cf kr ?_
        refine Tr.skip ?_
        show Tr _ _ _ _ _
        refine Tr.seq ?_
        obtain ⟨r9, er9, H⟩ := bind_some H
        obtain ⟨r10, er10, H⟩ := bind_some H
        refine Tr.draws mixed 5 kr ⟨90, 0, [sB 42 (!r10), sA 9 9 5 0, sC 8 (cL 1 r6 intRow), sA 7 7 11 0, sA 6 6 5 0, sB 4 false, sA 2 2 11 0, sC 1 (cF 1 x1 intRow)], [(9, (Bind.row r7)), (7, (Bridge.row r5)), (6, (Bind.row r4)), (2, (CV.frzRow (Bridge.row x0)))]⟩ (fun cx => ?_) ?_
        · refine AT.runU tOk [(0, [3]), (1, [2, 3])] 3 [⟨[2, 3], 53, 2, 39⟩, ⟨[3], 61, 7, 38⟩] [1, 0] rfl kr (fun cx => ?_)
          refine AT.big1 tOk 2 kr kr ?_
          refine LAt.callV tOk [.rd] [] (laws_toBridge n x0 r9 er9) kr kr kr kr (.inl rfl) ?_
          refine LAt.fin kr (And.intro (And.intro kr kr) ?_)
          refine AT.big1 tOk 3 kr kr ?_
          refine LAt.callV tOk [.rd, .rd] [.box 7] (laws_eqBridge n r5 r9 r10 er10) kr kr kr kr (.inr (rets_cons (mine_cons mine_lit mine_nil) rets_nil)) ?_
          refine LAt.fin kr (And.intro (And.intro kr kr) ?_)
          refine AT.runU tOk [(4, [])] 0 [⟨[2, 3], 53, 2, 39⟩, ⟨[3], 61, 7, 38⟩] [4, 3, 2, 1, 0] rfl kr (fun cx => ?_)
          exact AT.done [42, 9, 8, 7, 6, 4, 2, 1] [9, 7, 6, 2] _ kr kr rfl
        refine Tr.to ⟨90, 0, [sB 42 (!r10), sA 9 9 5 0, sC 8 (cL 1 r6 intRow), sA 7 7 11 0, sA 6 6 5 0, sB 4 false, sA 2 2 11 0, sC 1 (cF 1 x1 intRow)], [(9, (Bind.row r7)), (7, (Bridge.row r5)), (6, (Bind.row r4)), (2, (CV.frzRow (Bridge.row x0)))]⟩ kr ?_
        cases h4 : (!r10)
        · have H := bifF h4 H
          refine Tr.cf kr ?_
          refine Tr.skip ?_
          show Tr _ _ _ _ _
          refine Tr.seq ?_
          refine Tr.rs ?_
          refine LAt.runU tOk 2 kr ?_
          obtain ⟨r11, er11, H⟩ := bind_some H
          refine LAt.callV tOk [.rd] [] (laws_toIntS n x1 r11 er11) kr kr kr kr (.inl rfl) ?_
          obtain ⟨r12, er12, H⟩ := bind_some H
          refine LAt.callV tOk [.rd, .rd] [.slot 8] (laws_eqIntS n r6 r11 r12 er12) kr kr kr kr (.inr (rets_cons (mine_cons mine_lit mine_nil) rets_nil)) ?_
          refine LAt.runU tOk 1 kr ?_
          refine LAt.doneM 140737488356310 708 kr ?_
          cases h5 : (!r12)
          · have H := bifF h5 H
            refine Tr.cF h5 kr ?_
            refine Tr.skip ?_
            show Tr _ _ _ _ _
            refine Tr.rgn tOk 1 2006 708 kr kr ?_
            refine Tr.rs ?_
            refine LAt.runU tOk 2 kr ?_
            obtain ⟨r13, er13, H⟩ := bind_some H
            refine LAt.callL tOk [.lend, .rd] (f := 40) (av := #[.tmp 48, .tmp 49]) (ats := #[61, 3]) (d := (some 50)) (ty := 3) (g := none) kr kr kr [] (laws_markBridge n r5 1 r13 er13) kr (.inl rfl) ?_
            refine LAt.runU tOk 1 kr ?_
            refine LAt.doneM 1878 580 kr ?_
            refine Tr.rs ?_
            refine LAt.runU tOk 2 kr ?_
            obtain ⟨r14, er14, H⟩ := bind_some H
            refine LAt.callL tOk [.lend, .rd] (f := 27) (av := #[.tmp 51, .tmp 52]) (ats := #[27, 3]) (d := (some 53)) (ty := 3) (g := none) kr kr kr [] (laws_markIntS n r6 r13.1 r14 er14) kr (.inl rfl) ?_
            refine LAt.runU tOk 1 kr ?_
            refine LAt.doneM 1622 580 kr ?_
            refine Tr.seq ?_
            refine Tr.rs ?_
            refine LAt.runU tOk 3 kr ?_
            refine LAt.to ⟨90, 0, [sB 56 (decide (r14.1 < 0)), sB 55 (decide (r14.1 < 0)), sI 54 r14.1, sI 10 r14.1, sA 9 9 5 0, sA 6 6 5 0, sB 4 false, sA 2 2 11 0, sC 1 (cF 1 x1 intRow)], [(9, (Bind.row r7)), (6, (Bind.row r4)), (2, (CV.frzRow (Bridge.row x0)))]⟩ kr ?_
            cases h6 : (decide (r14.1 < 0))
            · have H := bifF h6 H
              refine LAt.runU tOk 2 kr ?_
              obtain ⟨r15, er15, H⟩ := bind_some H
              refine LAt.callV tOk [.rd, .rd] [.box 9, .box 6] (laws_eqBind n r7 r4 r15 er15) kr kr kr kr (.inr (rets_cons (mine_cons mine_lit mine_nil) rets_nil)) ?_
              refine LAt.runU tOk 2 kr ?_
              refine LAt.doneM 2305843009213694550 580 kr ?_
              cases h7 : (!r15)
              · have H := bifF h7 H
                refine Tr.cF h7 kr ?_
                refine Tr.skip ?_
                show Tr _ _ _ _ _
                refine Tr.rgn tOk 1 2646 580 kr kr ?_
                refine Tr.rs ?_
                refine LAt.runU tOk 2 kr ?_
                obtain ⟨r16, er16, H⟩ := bind_some H
                refine LAt.callL tOk [.lend, .rd] (f := 60) (av := #[.tmp 62, .tmp 63]) (ats := #[86, 3]) (d := (some 64)) (ty := 3) (g := none) kr kr kr [] (laws_markBind n r7 1 r16 er16) kr (.inl rfl) ?_
                refine LAt.runU tOk 1 kr ?_
                refine LAt.doneM 2646 580 kr ?_
                refine Tr.rgn tOk 1 6742 580 kr kr ?_
                refine Tr.rs ?_
                refine LAt.runU tOk 2 kr ?_
                obtain ⟨r17, er17, H⟩ := bind_some H
                refine LAt.callV tOk [.rd, .rd] [.box 9] (laws_heldBind n r16.2 1 r17 er17) kr kr kr kr (.inr (rets_cons (mine_cons mine_lit mine_nil) rets_nil)) ?_
                refine LAt.runU tOk 1 kr ?_
                refine LAt.doneM 6742 580 kr ?_
                refine Tr.seq ?_
                refine Tr.rgn tOk 2 590295810358705658454 580 kr kr ?_
                cases h8 : (decide (r17 < 0))
                · have H := bifF h8 H
                  refine Tr.cF h8 kr ?_
                  refine Tr.skip ?_
                  show Tr _ _ _ _ _
                  refine Tr.seq ?_
                  refine Tr.rgn tOk 3 4722366482869645220438 580 kr kr ?_
                  cases h9 : (r17 != r16.1)
                  · have H := bifF h9 H
                    refine Tr.cF h9 kr ?_
                    refine Tr.skip ?_
                    show Tr _ _ _ _ _
                    refine Tr.rs ?_
                    refine LAt.runU tOk 1 kr ?_
                    obtain ⟨r18, er18, H⟩ := bind_some H
                    refine LAt.callV tOk [.rd] [] (laws_toBridge n x0 r18 er18) kr kr kr kr (.inl rfl) ?_
                    refine LAt.runU tOk 1 kr ?_
                    obtain ⟨r19, er19, H⟩ := bind_some H
                    refine LAt.callV tOk [.rd] [] (laws_toIntS n x1 r19 er19) kr kr kr kr (.inl rfl) ?_
                    obtain ⟨r20, er20, H⟩ := bind_some H
                    refine LAt.callV tOk [.rd, .rd] [] (impl_MibNext n r18 r19 r20 er20) kr kr kr kr (.inl rfl) ?_
                    refine LAt.runU tOk 2 kr ?_
                    refine LAt.doneM 14928 8768 kr ?_
                    refine Tr.seq ?_
                    refine Tr.rs ?_
                    refine LAt.runU tOk 2 kr ?_
                    obtain ⟨r21, er21, H⟩ := bind_some H
                    refine LAt.callV tOk [.rd, .rd] [.box 13, .box 6] (laws_eqBind n r20 r4 r21 er21) kr kr kr kr (.inr (rets_cons (mine_cons mine_lit mine_nil) rets_nil)) ?_
                    refine LAt.runU tOk 1 kr ?_
                    refine LAt.doneM 2417851639229258349419024 512 kr ?_
                    refine Tr.to ⟨90, 0, [sB 81 (!r21), sI 12 r17, sI 11 r16.1, sA 9 9 5 0, sB 4 false], [(9, (Bind.row r16.2))]⟩ kr ?_
                    cases h10 : (!r21)
                    · have H := bifF h10 H
                      refine Tr.cf kr ?_
                      refine Tr.skip ?_
                      show Tr _ _ _ _ _
                      refine Tr.rgn tOk 1 6672 512 kr kr ?_
                      refine Tr.rs ?_
                      refine LAt.runU tOk 2 kr ?_
                      obtain ⟨r22, er22, H⟩ := bind_some H
                      refine LAt.callV tOk [.rd, .rd] [.box 9] (laws_heldBind n r16.2 1 r22 er22) kr kr kr kr (.inr (rets_cons (mine_cons mine_lit mine_nil) rets_nil)) ?_
                      refine LAt.runU tOk 1 kr ?_
                      refine LAt.doneM 6160 0 kr ?_
                      refine Tr.seq ?_
                      refine Tr.rgn tOk 2 77371252455336267181201424 0 kr kr ?_
                      cases h11 : (decide (r22 < 0))
                      · have H := bifF h11 H
                        refine Tr.cF h11 kr ?_
                        refine Tr.skip ?_
                        show Tr _ _ _ _ _
                        refine Tr.seq ?_
                        refine Tr.rgn tOk 3 618970019642690137449562128 0 kr kr ?_
                        cases h12 : (r22 != r16.1)
                        · have H := bifF h12 H
                          refine Tr.cF h12 kr ?_
                          refine Tr.skip ?_
                          show Tr _ _ _ _ _
                          refine Tr.rgn tOk 1 16 0 kr kr ?_
                          refine Tr.ret ?_
                          have H := Option.some.inj H
                          subst H
                          exact Fin.of _ [(false, [cB true])] kr rfl rfl
                        have H := bifT h12 H
                        refine Tr.cT h12 kr ?_
                        refine Tr.rgn tOk 1 16 0 kr kr ?_
                        refine Tr.ret ?_
                        have H := Option.some.inj H
                        subst H
                        exact Fin.of _ [(false, [cB false])] kr rfl rfl
                      have H := bifT h11 H
                      refine Tr.cT h11 kr ?_
                      refine Tr.rgn tOk 1 6160 0 kr kr ?_
                      refine Tr.ret ?_
                      have H := Option.some.inj H
                      subst H
                      exact Fin.of _ [(false, [cB false])] kr rfl rfl
                    have H := bifT h10 H
                    refine Tr.ct kr ?_
                    refine Tr.rgn tOk 1 6672 512 kr kr ?_
                    refine Tr.ret ?_
                    have H := Option.some.inj H
                    subst H
                    exact Fin.of _ [(false, [cB false])] kr rfl rfl
                  have H := bifT h9 H
                  refine Tr.cT h9 kr ?_
                  refine Tr.rgn tOk 1 6742 580 kr kr ?_
                  refine Tr.ret ?_
                  have H := Option.some.inj H
                  subst H
                  exact Fin.of _ [(false, [cB false])] kr rfl rfl
                have H := bifT h8 H
                refine Tr.cT h8 kr ?_
                refine Tr.rgn tOk 1 6742 580 kr kr ?_
                refine Tr.ret ?_
                have H := Option.some.inj H
                subst H
                exact Fin.of _ [(false, [cB false])] kr rfl rfl
              have H := bifT h7 H
              refine Tr.cT h7 kr ?_
              refine Tr.rgn tOk 1 598 580 kr kr ?_
              refine Tr.ret ?_
              have H := Option.some.inj H
              subst H
              exact Fin.of _ [(false, [cB false])] kr rfl rfl
            have H := bifT h6 H
            refine LAt.runU tOk 5 kr ?_
            refine LAt.doneM 2305843009213694550 580 kr ?_
            refine Tr.ct kr ?_
            refine Tr.rgn tOk 1 598 580 kr kr ?_
            refine Tr.ret ?_
            have H := Option.some.inj H
            subst H
            exact Fin.of _ [(false, [cB false])] kr rfl rfl
          have H := bifT h5 H
          refine Tr.cT h5 kr ?_
          refine Tr.rgn tOk 1 982 708 kr kr ?_
          refine Tr.ret ?_
          have H := Option.some.inj H
          subst H
          exact Fin.of _ [(false, [cB false])] kr rfl rfl
        have H := bifT h4 H
        refine Tr.ct kr ?_
        refine Tr.rgn tOk 1 982 708 kr kr ?_
        refine Tr.ret ?_
        have H := Option.some.inj H
        subst H
        exact Fin.of _ [(false, [cB false])] kr rfl rfl
      have H := bifT h3 H
      refine Tr.ct kr ?_
      refine Tr.rgn tOk 1 982 708 kr kr ?_
      refine Tr.ret ?_
      have H := Option.some.inj H
      subst H
      exact Fin.of _ [(false, [cB false])] kr rfl rfl
    have H := bifT h2 H
    refine Tr.cT h2 kr ?_
    refine Tr.rgn tOk 1 22 4 kr kr ?_
    refine Tr.ret ?_
    have H := Option.some.inj H
    subst H
    exact Fin.of _ [(false, [cB true])] kr rfl rfl
  have H := bifT h1 H
  refine Tr.cT h1 kr ?_
  refine Tr.rgn tOk 1 22 4 kr kr ?_
  refine Tr.ret ?_
  have H := Option.some.inj H
  subst H
  exact Fin.of _ [(false, [cB true])] kr rfl rfl
end Go.Proofs.Ytjdedhklbdkeoaa.Tw
